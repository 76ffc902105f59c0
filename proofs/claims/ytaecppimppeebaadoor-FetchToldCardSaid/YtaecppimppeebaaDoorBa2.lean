/- The records at the beginning of some bytes: what the code computes. -/
import Derived.Test.YtaecppimppeebaaDoorBa1
import Derived.Test.YtaecppimppeebaaDoorSxQ
namespace Go.Proofs.YtaecppimppeebaaDoor
open Go Go.SX

theorem bits_low (o : BinOp) (a b : Int) : 0 ≤ bits o .u64 a b ∧ bits o .u64 a b < 18446744073709551616 := by
  have hw : ∀ n : Int, 0 ≤ IntKind.u64.wrap n ∧ IntKind.u64.wrap n < 18446744073709551616 := fun n => by
    simp [IntKind.wrap, IntKind.bits, IntKind.signed]; omega
  cases o <;> first | (exact hw _) | (simp [bits])
theorem valP_low (l : List UInt8) : 0 ≤ valP l := by
  unfold valP
  rcases List.eq_nil_or_concat l with rfl | ⟨l, c, rfl⟩
  · simp
  · rw [List.concat_eq_append, List.foldl_append, List.foldl_cons, List.foldl_nil]; exact (bits_low _ _ _).1
theorem getP_low (l : List UInt8) : 0 ≤ (getP l).1 ∧ 0 ≤ (getP l).2.1 ∧ (getP l).2.1 ≤ 9 ∧ (getP l).2.1 ≤ l.length := by
  have hv := valP_low
  unfold getP
  split
  · simp
  · rename_i c r
    split
    · simp; omega
    · split
      · simp; omega
      · split
        · simp; omega
        · refine ⟨hv _, ?_, ?_, ?_⟩ <;> simp <;> omega

/-- the first frame: its record, and how long it is -/
def pieceP (l : List UInt8) : Option (List UInt8 × Nat) :=
  if (getP l).2.2 ≠ 0 ∨ 4096 < (getP l).1 then none
  else if l.length < ((getP l).2.1 + (getP l).1).toNat + 8 then none
  else if idP (l.take ((getP l).2.1 + (getP l).1).toNat) = (l.drop ((getP l).2.1 + (getP l).1).toNat).take 8 then
    some ((l.take ((getP l).2.1 + (getP l).1).toNat).drop (getP l).2.1.toNat, ((getP l).2.1 + (getP l).1).toNat + 8)
  else none
theorem pieceP_le {l r : List UInt8} {n : Nat} (h : pieceP l = some (r, n)) : 8 ≤ n ∧ n ≤ l.length := by
  unfold pieceP at h
  split at h
  · cases h
  · split at h
    · cases h
    · split at h
      · cases h; omega
      · cases h
def scanP : Nat → List UInt8 → List (List UInt8) × Nat
  | 0, _ => ([], 0)
  | f + 1, l => match pieceP l with
    | none => ([], 0)
    | some (r, n) => (r :: (scanP f (l.drop n)).1, n + (scanP f (l.drop n)).2)
abbrev scells (l : List (List UInt8)) : List Value := l.map fun r => .string (bs r)

theorem eqT_id {l m : List UInt8} (hl : l.length = 8) (hm : m.length = 8) : EqT Tryd.prog 43 (.agg (l.map byteV).toArray) (.agg (m.map byteV).toArray) (decide (l = m)) := by
  have he : Tryd.prog.underlying 5 = some (.int .u8) := by kernel_rfl
  obtain ⟨i, hi⟩ := info_of_underlying he
  exact eqT_bytes (n := 8) (by kernel_rfl) (by kernel_rfl) hi he (by kernel_rfl) l m hl hm
theorem len8 {α : Type} {l : List α} (h : l.length = 8) : ∃ a b c d e f g i, l = [a, b, c, d, e, f, g, i] := by
  rcases l with _ | ⟨a, _ | ⟨b, _ | ⟨c, _ | ⟨d, _ | ⟨e, _ | ⟨f, _ | ⟨g, _ | ⟨i, _ | ⟨j, l⟩⟩⟩⟩⟩⟩⟩⟩⟩ <;> simp at h
  exact ⟨a, b, c, d, e, f, g, i, rfl⟩
structure ScanI (l : List UInt8) where
  a : Nat
  out : List (List UInt8)
  f : Nat
  A : Option Addr
  cap : Nat
  ha : a ≤ l.length
  hf : l.length - a < f
  ho : out.length ≤ a
  he1 : out ++ (scanP f (l.drop a)).1 = (scanP (l.length + 1) l).1
  he2 : a + (scanP f (l.drop a)).2 = (scanP (l.length + 1) l).2
/-- what is returned -/
def scanned (l : List UInt8) (v : Value) (Z : Heap) : Prop :=
  ∃ A cap, v = .tuple #[.slice A (scanP (l.length + 1) l).1.length cap, .int .i64 (scanP (l.length + 1) l).2] ∧ Rds Z A 0 (scells (scanP (l.length + 1) l).1)
set_option maxHeartbeats 4000000 in
set_option maxRecDepth 20000 in
theorem scan_any (Z : Heap) (l : List UInt8) (hl : l.length ≤ 100000000) : FnH Tryd.prog 22 [.string (bs l)] Z (scanned l) := by
  refine fnH_intro Tryd.func22 rfl (Nat.le_of_ble_eq_true rfl) ?_
  simp only [go_sem]
  refine vcLoop_intro (ι := ScanI l)
    (fun u => ⟨[(5, .val (.int .i64 u.a)), (4, .row 0), (0, .val (.string (bs l)))], [.row u.A u.cap 9 1 u.out.length (scells u.out)], Z⟩)
    (fun u => l.length - u.a) ⟨0, [], l.length + 1, none, 0, by omega, by omega, by simp, by simp, by simp⟩ ((incl_adopt 4 9 1 rfl).trans (incl_of (by simp only [go_sem] <;> simp))) ?_
  rintro ⟨a, out, f, A, cap, ha, hf, ho, he1, he2⟩
  simp only [go_sem]
  obtain ⟨g1, g2, g3, g4⟩ := getP_low (l.drop a)
  have hlen : (l.drop a).length = l.length - a := by simp
  refine ⟨by omega, ?_⟩
  refine vcCall_E _ rfl (get_any _ (l.drop a) (by omega)) ?_
  simp only [go_sem]
  obtain ⟨f, rfl⟩ : ∃ f', f = f' + 1 := ⟨f - 1, by omega⟩
  have hP : pieceP (l.drop a) = pieceP (l.drop a) := rfl
  conv at hP => rhs; unfold pieceP
  generalize getP (l.drop a) = g at g1 g2 g3 g4 hP ⊢
  obtain ⟨n, k, e⟩ := g
  simp only [] at g1 g2 g3 g4 hP ⊢
  have hstop : pieceP (l.drop a) = none → scanP (f + 1) (l.drop a) = ([], 0) := fun h => by simp only [scanP, h]
  refine ⟨fun hbad => fun Z' hz hf => ?_, fun hgood => ?_⟩
  · rw [hstop (by rw [hP, if_pos (by simpa using hbad)])] at he1 he2
    simp only [List.append_nil, Nat.add_zero] at he1 he2
    refine ⟨A, cap, by rw [← he1, ← he2], by rw [← he1]; exact hf.1.1⟩
  · have hn : n ≤ 4096 := by simp at hgood; omega
    have he : ¬ (e ≠ 0 ∨ 4096 < n) := by simpa using hgood
    have hw : IntKind.i64.wrap n = n := wrap_in ⟨by omega, by omega⟩
    rw [if_neg he] at hP
    simp only [hw]
    refine ⟨by unfold inI64; omega, ?_⟩
    refine vcDrawE_intro 20 [(0, 0), (1, 0), (2, 0), (3, 0), (4, 0), (5, 0), (6, 0), (7, 0), (8, 0), (9, 0), (10, 0), (11, 0), (12, 0), (13, 0), (14, 0), (15, 1), (16, 0), (17, 0), (18, 0), (19, 0)] (of_eq_true Tryd.mixed) (by kernel_rfl) (by simp only [go_sem]) ?_
    simp only [go_sem]
    refine ⟨by unfold inI64; omega, fun hsh => fun Z' hz hf => ?_, fun hlg => ?_⟩
    · have hsh' : (l.drop a).length < (k + n).toNat + 8 := by
        have : ((l.drop a).length : Int) < k + n + 8 := by simpa using hsh
        omega
      rw [hstop (by rw [hP, if_pos hsh'])] at he1 he2
      simp only [List.append_nil, Nat.add_zero] at he1 he2
      refine ⟨A, cap, by rw [← he1, ← he2], by rw [← he1]; exact hf.1.1⟩
    · have hlg' : ¬ (l.drop a).length < (k + n).toNat + 8 := by
        have : ¬ ((l.drop a).length : Int) < k + n + 8 := by simpa using hlg
        omega
      rw [if_neg hlg'] at hP
      refine ⟨by omega, ?_⟩
      refine vcCallX_E _ rfl (id_any _ ((l.drop a).take (k + n).toNat) (by simp; omega)) ?_
      simp only [go_sem]
      have hE8 : (k + n + 8).toNat = (k + n).toNat + 8 := by omega
      have hd : ((l.drop a).take (k + n + 8).toNat).drop (k + n).toNat = ((l.drop a).drop (k + n).toNat).take 8 := by
        rw [hE8, List.drop_take, Nat.add_sub_cancel_left]
      have hd8 : (((l.drop a).drop (k + n).toNat).take 8).length = 8 := by simp; omega
      rw [hd]
      refine ⟨by unfold inI64; omega, ⟨by omega, by omega, by omega⟩, fun b1 cap1 pad hp1 hp2 => ⟨by omega, ?_⟩⟩
      generalize hD : ((l.drop a).drop (k + n).toNat).take 8 = D at hd8 hP ⊢
      obtain ⟨d0, d1, d2, d3, d4, d5, d6, d7, rfl⟩ := len8 hd8
      refine ⟨d0.toNat, d1.toNat, d2.toNat, d3.toNat, d4.toNat, d5.toNat, d6.toNat, d7.toNat, fun j v hv => ?_, ?_⟩
      · have hj : j < 8 := by
          rcases Nat.lt_or_ge j 8 with h | h
          · exact h
          · rw [List.getElem?_eq_none (by simpa using h)] at hv; cases hv
        rw [List.getElem?_append_left (by simpa using hj)]
        exact hv
      refine ⟨_, eqT_id (l := idP ((l.drop a).take (k + n).toNat)) (m := [d0, d1, d2, d3, d4, d5, d6, d7]) rfl rfl, fun hne => fun Z' hz hf => ?_, fun heq => ?_⟩
      · rw [hstop (by rw [hP, if_neg (by simpa using hne)])] at he1 he2
        simp only [List.append_nil, Nat.add_zero] at he1 he2
        refine ⟨A, cap, by rw [← he1, ← he2], by rw [← he1]; exact hf.1.1⟩
      · rw [if_pos (by simpa using heq)] at hP
        have hs : scanP (f + 1) (l.drop a) = (((l.drop a).take (k + n).toNat).drop k.toNat :: (scanP f ((l.drop a).drop ((k + n).toNat + 8))).1, ((k + n).toNat + 8) + (scanP f ((l.drop a).drop ((k + n).toNat + 8))).2) := by
          simp only [scanP, hP]
        rw [hs, List.drop_drop] at he1 he2
        generalize hR : ((l.drop a).take (k + n).toNat).drop k.toNat = R at he1 he2 ⊢
        refine ⟨⟨by omega, by omega, by omega⟩, fun b2 => ⟨by unfold maxLen; omega, by omega, fun A' cap' => ⟨by unfold inI64; omega, by unfold inI64; omega, ⟨a + ((k + n).toNat + 8), out ++ [R], f, A', cap', by omega, by omega, by simp; omega, ?_, ?_⟩, ?_, ?_⟩⟩⟩
        · rw [← he1]; simp
        · rw [← he2]; omega
        · simp only []; omega
        · have e1 : (((a + ((k + n).toNat + 8) : Nat)) : Int) = (a : Int) + (k + n + 8) := by omega
          have e2 : scells (out ++ [R]) = scells out ++ [.string (bs R)] := by simp [scells]
          have e3 : (out ++ [R]).length = out.length + 1 := by simp
          simp only [e1, e2, e3]
          exact incl_take 1 rfl (by simp only [go_sem] <;> simp) (by simp only [go_sem]) (by simp only [go_sem])
end Go.Proofs.YtaecppimppeebaaDoor
