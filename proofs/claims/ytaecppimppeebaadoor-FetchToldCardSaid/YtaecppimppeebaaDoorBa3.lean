/- Blobs out of texts: what the code computes. -/
import Derived.Test.YtaecppimppeebaaDoorBa2
import Derived.Test.YtaecppimppeebaaDoorShelf
namespace Go.Proofs.YtaecppimppeebaaDoor
open Go Go.SX

theorem join_flat (xs : List (List UInt8)) : Lib.join xs [] = xs.flatten := by
  cases xs with
  | nil => rfl
  | cons x r =>
    rw [Lib.join_cons, Lib.joinTail]
    simp
theorem kept_of_below {w w' : World} (h : Go.RowKit.Below w.heap.size w w') : Kept w (fun _ => False) w' := ⟨h.os, h.tape, h.output, h.size, fun b hb _ => h.block b hb⟩
theorem join_any (Z : Heap) (A : Option Addr) (cap : Nat) (xs : List (List UInt8)) (h : Rds Z A 0 (scells xs)) (hc : xs.length ≤ cap) (hn : xs.length ≤ 100000000) (hl : xs.flatten.length ≤ 100000000) :
    FnE Tryd.prog 21 [.slice A xs.length cap, .string (bs [])] Z (.string (bs xs.flatten)) := by
  refine fnE_of_calls fun w hw => ?_
  cases xs with
  | nil =>
    refine (Tryd.strings_Join_none A cap (bs []) w).mono ?_
    rintro e w' ⟨rfl, rfl⟩
    exact ⟨rfl, Kept.refl _ _⟩
  | cons x r =>
    cases A with
    | none => have := h 0 _ rfl; simp [rd] at this
    | some a =>
      obtain ⟨bk, o, sp⟩ := a
      have h0 := h 0 _ rfl
      have hsp : sp = none := by
        cases sp with
        | none => rfl
        | some s =>
          simp [rd, Heap.cell, Addr.add] at h0
          split at h0 <;> simp at h0
      subst hsp
      have hcell : ∀ (j : Nat) (y : ByteArray), ((x :: r).map bs)[j]? = some y → w.cell? ⟨bk, o + j, none⟩ = some (.string y) := by
        intro j y hj
        rw [List.getElem?_map] at hj
        obtain ⟨z, hz, rfl⟩ := Option.map_eq_some_iff.1 hj
        have := h j (.string (bs z)) (by rw [List.getElem?_map, hz]; rfl)
        simp only [rd, Option.bind_some, Nat.zero_add, lit_add] at this
        exact hw.cell this
      have hbk : bk < w.heap.size := by
        have := hcell 0 (bs x) rfl
        unfold World.cell? at this
        split at this
        · rename_i hb; exact heap_lt hb
        · cases this
      have hm : ((x :: r).map bs).map (·.data.toList) = x :: r := by
        rw [List.map_map]
        exact List.map_id _
      have := Tryd.strings_Join bk o cap ((x :: r).map bs) (bs []) w hcell hbk (by simpa using (by omega : (x :: r).length ≤ 140737488355328)) (by simpa using hc) (by rw [hm]; show (Lib.join (x :: r) []).length ≤ _; rw [join_flat]; omega)
      rw [List.length_map, hm] at this
      refine this.mono ?_
      rintro e w' ⟨rfl, hb⟩
      have e : (⟨(Lib.join (x :: r) []).toArray⟩ : ByteArray) = bs (x :: r).flatten := by rw [join_flat]
      exact ⟨by rw [← e], kept_of_below hb⟩

/-- records as blobs, until one is none; whether all are -/
def blobsP : List (List UInt8) → List (Int × List UInt8) × Bool
  | [] => ([], true)
  | [] :: _ => ([], false)
  | (c :: t) :: rs => if knownP c.toNat then ((((c.toNat : Nat) : Int), t) :: (blobsP rs).1, (blobsP rs).2) else ([], false)
def bcells (l : List (Int × List UInt8)) : List Value := l.flatMap fun x => [.int .i64 x.1, .string (bs x.2)]
theorem bcells_len (l : List (Int × List UInt8)) : (bcells l).length = l.length * 2 := by
  induction l with
  | nil => rfl
  | cons x l ih => simp [bcells] at ih ⊢; omega
theorem bcells_get (l : List (Int × List UInt8)) (k : Nat) (h : k < l.length) : ∀ (j : Nat) (v : Value), [Value.int .i64 l[k].1, .string (bs l[k].2)][j]? = some v → (bcells l)[k * 2 + j]? = some v := by
  induction l generalizing k with
  | nil => simp at h
  | cons x l ih =>
    intro j v hv
    cases k with
    | zero => match j, hv with
      | 0, hv => simpa [bcells] using hv
      | 1, hv => simpa [bcells] using hv
      | j + 2, hv => simp at hv
    | succ k =>
      have := ih k (by simpa using h) j v (by simpa using hv)
      rw [show (k + 1) * 2 + j = (k * 2 + j) + 2 by omega]
      simpa [bcells] using this
theorem rds_some {Z : Heap} {A : Option Addr} {k : Nat} {v : Value} {vs : List Value} (h : Rds Z A k (v :: vs)) : A.isSome = true := by
  have := h 0 _ rfl
  cases A with
  | none => simp [rd] at this
  | some a => rfl
theorem rds_b {Z : Heap} {A : Option Addr} {l : List (Int × List UInt8)} (h : Rds Z A 0 (bcells l)) {k : Nat} (hk : k < l.length) :
    A.isSome = true ∧ Rds Z A (k * 2) [.int .i64 l[k].1, .string (bs l[k].2)] := by
  have h2 : Rds Z A (k * 2) [.int .i64 l[k].1, .string (bs l[k].2)] := fun j v hv => by
    have := h _ _ (bcells_get l k hk j v hv)
    rwa [Nat.zero_add] at this
  exact ⟨rds_some h2, h2⟩
theorem rds_s {Z : Heap} {A : Option Addr} {l : List (List UInt8)} (h : Rds Z A 0 (scells l)) {k : Nat} (hk : k < l.length) : A.isSome = true ∧ Rds Z A k [.string (bs l[k])] := by
  have h2 : Rds Z A k [.string (bs l[k])] := rds_sub h fun j v hv => by
    match j, hv with
    | 0, hv => simp at hv; subst hv; simp [hk]
    | j + 1, hv => simp at hv
  exact ⟨rds_some h2, h2⟩

/-- what is told of texts -/
def recsOf (xs : List (List UInt8)) : List (List UInt8) × Nat := scanP (xs.flatten.length + 1) xs.flatten
def blobbed (xs : List (List UInt8)) (v : Value) (Z : Heap) : Prop :=
  ∃ A cap, v = .tuple #[.slice A (blobsP (recsOf xs).1).1.length cap, .bool ((blobsP (recsOf xs).1).2 && decide ((recsOf xs).2 = xs.flatten.length))] ∧ Rds Z A 0 (bcells (blobsP (recsOf xs).1).1)
    ∧ (blobsP (recsOf xs).1).1.length ≤ cap
theorem scanP_len : ∀ (f : Nat) (l : List UInt8), (scanP f l).1.length * 8 ≤ l.length ∧ (scanP f l).2 ≤ l.length
  | 0, l => by simp [scanP]
  | f + 1, l => by
    unfold scanP
    split
    · simp
    · rename_i r n hp
      have h1 := pieceP_le hp
      have h2 := scanP_len f (l.drop n)
      simp only [List.length_drop, List.length_cons] at h2 ⊢
      omega
structure BlobI (rs : List (List UInt8)) where
  k : Nat
  out : List (Int × List UInt8)
  A : Option Addr
  cap : Nat
  hk : k ≤ rs.length
  ho : out.length ≤ k
  h1 : out ++ (blobsP (rs.drop k)).1 = (blobsP rs).1
  h2 : (blobsP (rs.drop k)).2 = (blobsP rs).2
set_option maxHeartbeats 4000000 in
set_option maxRecDepth 20000 in
theorem blobs_any (Z : Heap) (A : Option Addr) (cap : Nat) (xs : List (List UInt8)) (h : Rds Z A 0 (scells xs)) (hc : xs.length ≤ cap) (hn : xs.length ≤ 100000000) (hl : xs.flatten.length ≤ 100000000) :
    FnH Tryd.prog 6 [.slice A xs.length cap] Z (blobbed xs) := by
  refine fnH_intro Tryd.func6 rfl (Nat.le_of_ble_eq_true rfl) ?_
  simp only [go_sem]
  refine vcCall_E _ rfl (join_any Z A cap xs h hc hn hl) ?_
  simp only [go_sem]
  refine vcCall_H _ rfl (scan_any _ xs.flatten hl) ?_
  intro v Z1 hz1 hv
  unfold scanned at hv
  obtain ⟨A1, cap1, rfl, hr⟩ := hv
  have hsl := scanP_len (xs.flatten.length + 1) xs.flatten
  unfold blobbed
  change Rds Z1 A1 0 (scells (recsOf xs).1) at hr
  change (recsOf xs).1.length * 8 ≤ _ ∧ (recsOf xs).2 ≤ _ at hsl
  change kPut _ _ _ _ (.val (.tuple #[.slice A1 (recsOf xs).1.length cap1, .int .i64 (recsOf xs).2]))
  generalize hrs : recsOf xs = rc at hr hsl ⊢
  obtain ⟨rs, m⟩ := rc
  simp only [] at hr hsl ⊢
  simp only [go_sem]
  refine vcLoop_intro (ι := BlobI rs)
    (fun u => ⟨[(19, .val (.int .i64 u.k)), (18, .val (.int .i64 rs.length)), (17, .val (.slice A1 rs.length cap1)), (7, .row 0), (6, .val (.int .i64 m)), (4, .val (.string (bs xs.flatten)))], [.row u.A u.cap 28 2 u.out.length (bcells u.out)], Z1⟩)
    (fun u => rs.length - u.k) ⟨0, [], none, 0, by omega, by simp, by simp, by simp⟩ ((incl_adopt 7 28 2 rfl).trans (incl_of (by simp only [go_sem] <;> simp))) ?_
  rintro ⟨k, out, A2, cap2, hk, ho, h1, h2⟩
  simp only [go_sem]
  refine ⟨fun hlt => ?_, fun hge => ?_⟩
  · have hlt' : k < rs.length := by simpa using hlt
    obtain ⟨ha, hr'⟩ := rds_s hr hlt'
    refine ⟨⟨ha, by omega, by omega⟩, _, hr', ?_⟩
    rw [List.drop_eq_getElem_cons hlt'] at h1 h2
    generalize rs[k] = x at h1 h2 ⊢
    cases x with
    | nil =>
      simp only [blobsP, List.append_nil] at h1 h2
      refine ⟨fun he => ⟨hz1, fun Z' hz hf => ⟨A2, cap2, ?_, ?_, ?_⟩⟩, fun hne => by simp at hne⟩
      · rw [← h1, ← h2]; rfl
      · rw [← h1]; exact hf.1.1
      · rw [← h1]; exact hf.1.2
    | cons c t =>
      refine ⟨fun he => by simp at he, fun hne => ⟨c, rfl, ?_⟩⟩
      refine vcCall_E _ rfl (packKnown_any _ (c.toNat : Int)) ?_
      simp only [go_sem]
      refine ⟨fun hn => ⟨hz1, fun Z' hz hf => ?_⟩, fun hn => ?_⟩
      · have hn' : knownP (c.toNat : Int) = false := by simpa using hn
        simp only [blobsP, hn', Bool.false_eq_true, if_false, List.append_nil] at h1 h2
        refine ⟨A2, cap2, ?_, ?_, ?_⟩
        · rw [← h1, ← h2]; rfl
        · rw [← h1]; exact hf.1.1
        · rw [← h1]; exact hf.1.2
      · have hn' : knownP (c.toNat : Int) = true := by simpa using hn
        simp only [blobsP, hn', if_true] at h1 h2
        refine vcDrawE_intro 10 [(0, 0), (1, 0), (2, 0), (3, 0), (4, 0), (5, 0), (6, 0), (7, 1), (8, 2), (9, 0)] (of_eq_true Tryd.mixed) (by kernel_rfl) (by simp only [go_sem]) ?_
        simp only [go_sem]
        refine ⟨⟨by omega, by omega⟩, fun b => ⟨by unfold maxLen; omega, by omega, fun A' cap' => ⟨by unfold inI64; omega, ⟨k + 1, out ++ [(((c.toNat : Nat) : Int), t)], A', cap', by omega, by simp; omega, ?_, h2⟩, ?_, ?_⟩⟩⟩
        · rw [← h1]; simp
        · simp only []; omega
        · have e2 : bcells (out ++ [(((c.toNat : Nat) : Int), t)]) = bcells out ++ [.int .i64 (c.toNat : Int), .string (bs t)] := by simp [bcells]
          have e3 : (out ++ [(((c.toNat : Nat) : Int), t)]).length = out.length + 1 := by simp
          simp only [e2, e3]
          exact incl_take 1 rfl (by simp only [go_sem] <;> simp) (by simp only [go_sem]) (by simp only [go_sem])
  · have hk' : k = rs.length := by
      have : ¬ k < rs.length := by simpa using hge
      omega
    subst hk'
    rw [List.drop_length] at h1 h2
    simp only [blobsP, List.append_nil] at h1 h2
    refine ⟨hz1, fun Z' hz hf => ⟨A2, cap2, ?_, ?_, ?_⟩⟩
    · rw [← h1, ← h2, Bool.true_and]
      have : decide ((m : Int) = (xs.flatten.length : Int)) = decide (m = xs.flatten.length) := by
        congr 1; apply propext; omega
      rw [this]
    · rw [← h1]; exact hf.1.1
    · rw [← h1]; exact hf.1.2
end Go.Proofs.YtaecppimppeebaaDoor
