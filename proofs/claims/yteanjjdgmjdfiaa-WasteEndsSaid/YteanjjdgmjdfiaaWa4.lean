/- slices.SortStableFunc over a list of numbers, part 2: rotating, sorting small blocks. -/
import Derived.Test.YteanjjdgmjdfiaaWa3
namespace Go.Proofs.Yteanjjdgmjdfiaa
open Go Go.SX

def rotP (l : List Int) (m : Nat) : Nat → Nat → Nat → List Int
  | 0, _, _ => l
  | f + 1, i, j => if i = j then swapP l (m - i) m i else if j < i then rotP (swapP l (m - i) m j) m f (i - j) j else rotP (swapP l (m - i) (m + j - i) i) m f i (j - i)

structure RotI (l0 : List Int) (m i0 j0 : Nat) where
  l : List Int
  i : Nat
  j : Nat
  f : Nat
  hl : l.length = l0.length
  hi : 1 ≤ i
  hj : 1 ≤ j
  him : i ≤ m
  hjm : m + j ≤ l0.length
  hf : i + j ≤ f
  he : rotP l m f i j = rotP l0 m (i0 + j0) i0 j0

set_option maxRecDepth 10000 in
theorem rotate_any (Z : Heap) (A : Option Addr) (cap : Nat) (l : List Int) (a m b : Nat) (f : Value) (ha : a < m) (hm : m < b) (hb : b ≤ l.length) (hl : l.length ≤ 100) :
    FnW Try.prog 22 [.row 0, .val (.int .i64 a), .val (.int .i64 m), .val (.int .i64 b), .val f] Z A cap 3 1 l.length (icells l)
      (fun xs => xs = icells (rotP l m ((m - a) + (b - m)) (m - a) (b - m))) := by
  refine fnW_intro Try.func22 rfl (Nat.le_of_ble_eq_true rfl) ?_
  have e1 : (m : Int) - a = ((m - a : Nat) : Int) := by omega
  have e2 : (b : Int) - m = ((b - m : Nat) : Int) := by omega
  simp only [go_sem]
  refine ⟨by unfold inI64; omega, by unfold inI64; omega, ?_⟩
  refine vcLoop_intro (ι := RotI l m (m - a) (b - m))
      (fun k => ⟨[(10, .val (.int .i64 k.i)), (11, .val (.int .i64 k.j)), (0, .row 0), (1, .val (.int .i64 a)), (2, .val (.int .i64 m)), (3, .val (.int .i64 b)), (4, .val f)], [.row A cap 3 1 l.length (icells k.l)], Z⟩)
      (fun k => k.i + k.j) ⟨l, m - a, b - m, (m - a) + (b - m), rfl, by omega, by omega, by omega, by omega, by omega, rfl⟩ (incl_of (by simp only [go_sem, e1, e2])) ?_
  rintro ⟨l', i, j, f', hl', hi, hj, him, hjm, hf, he⟩
  have e3 : (m : Int) - i = ((m - i : Nat) : Int) := by omega
  have e4 : (m : Int) + j - i = ((m + j - i : Nat) : Int) := by omega
  simp only [go_sem, e3, e4]
  refine ⟨fun hne => ⟨fun hgt => ⟨by unfold inI64; omega, ?_⟩, fun hle => ⟨by unfold inI64; omega, by unfold inI64; omega, by unfold inI64; omega, ?_⟩⟩, fun heq => ⟨by unfold inI64; omega, ?_⟩⟩
  · have hgt' : j < i := by simpa using hgt
    refine vcCall_W 0 [.row 0, .val (.int .i64 (m - i : Nat)), .val (.int .i64 m), .val (.int .i64 j), .val f] _ rfl rfl rfl (fun Z' _ _ => swapRange_at Z' A cap l.length l' (m - i) m j f hl' (by omega) (by omega) hl) ?_
    rintro xs rfl
    have e5 : (i : Int) - j = ((i - j : Nat) : Int) := by omega
    simp only [go_sem, e5]
    refine ⟨by unfold inI64; omega, ⟨swapP l' (m - i) m j, i - j, j, f' - 1, by rw [swapP_len, hl'], by omega, hj, by omega, hjm, by omega, ?_⟩, ?_, ?_⟩
    · rw [← he]
      obtain ⟨f'', rfl⟩ : ∃ f'', f' = f'' + 1 := ⟨f' - 1, by omega⟩
      simp only [rotP, Nat.add_sub_cancel]
      rw [if_neg (by omega), if_pos hgt']
    · simp only []; omega
    · exact incl_of (by simp only [go_sem])
  · have hle' : i < j := by
      have h1 : ¬ (j < i) := by simpa using hle
      have h2 : i ≠ j := by rintro rfl; simp at hne
      omega
    refine vcCall_W 0 [.row 0, .val (.int .i64 (m - i : Nat)), .val (.int .i64 (m + j - i : Nat)), .val (.int .i64 i), .val f] _ rfl rfl rfl (fun Z' _ _ => swapRange_at Z' A cap l.length l' (m - i) (m + j - i) i f hl' (by omega) (by omega) hl) ?_
    rintro xs rfl
    have e5 : (j : Int) - i = ((j - i : Nat) : Int) := by omega
    simp only [go_sem, e5]
    refine ⟨by unfold inI64; omega, ⟨swapP l' (m - i) (m + j - i) i, i, j - i, f' - 1, by rw [swapP_len, hl'], hi, by omega, him, by omega, by omega, ?_⟩, ?_, ?_⟩
    · rw [← he]
      obtain ⟨f'', rfl⟩ : ∃ f'', f' = f'' + 1 := ⟨f' - 1, by omega⟩
      simp only [rotP, Nat.add_sub_cancel]
      rw [if_neg (by omega), if_neg (by omega)]
    · simp only []; omega
    · exact incl_of (by simp only [go_sem])
  · have heq' : i = j := by
      have : (i : Int) = j := by simpa using heq
      omega
    refine vcCall_W 0 [.row 0, .val (.int .i64 (m - i : Nat)), .val (.int .i64 m), .val (.int .i64 i), .val f] _ rfl rfl rfl (fun Z' _ _ => swapRange_at Z' A cap l.length l' (m - i) m i f hl' (by omega) (by omega) hl) ?_
    rintro xs rfl
    simp only [go_sem]
    refine ⟨_, [], rfl, ?_⟩
    rw [← he]
    obtain ⟨f'', rfl⟩ : ∃ f'', f' = f'' + 1 := ⟨f' - 1, by omega⟩
    simp only [rotP]
    rw [if_pos heq']
def sw (l : List Int) (i k : Nat) : List Int := (l.set i (l.getD k 0)).set k (l.getD i 0)
theorem sw_len (l : List Int) (i k : Nat) : (sw l i k).length = l.length := by simp [sw]
theorem sw_perm {l : List Int} {i k : Nat} (hi : i < l.length) (hk : k < l.length) : (sw l i k).Perm l := by
  have := List.set_set_perm hi hk
  simpa [sw, hi, hk] using this
def sinkP (c : Int → Int → Int) (a : Nat) : Nat → List Int → List Int
  | 0, l => l
  | j + 1, l => if a < j + 1 ∧ c (l.getD (j + 1) 0) (l.getD j 0) < 0 then sinkP c a j (sw l (j + 1) j) else l
def insP (c : Int → Int → Int) (a : Nat) : Nat → List Int → List Int
  | 0, l => l
  | n + 1, l => sinkP c a (a + n) (insP c a n l)
theorem sinkP_perm (c : Int → Int → Int) (a : Nat) : ∀ (j : Nat) (l : List Int), j < l.length → (sinkP c a j l).Perm l
  | 0, l, _ => .refl l
  | j + 1, l, h => by
    simp only [sinkP]
    split
    · exact (sinkP_perm c a j _ (by rw [sw_len]; omega)).trans (sw_perm h (by omega))
    · exact .refl l
theorem insP_perm (c : Int → Int → Int) (a : Nat) : ∀ (n : Nat) (l : List Int), a + n ≤ l.length → (insP c a n l).Perm l
  | 0, l, _ => .refl l
  | n + 1, l, h => by
    have ih := insP_perm c a n l (by omega)
    exact (sinkP_perm c a _ _ (by rw [ih.length_eq]; omega)).trans ih

structure SinkI (c : Int → Int → Int) (a i0 : Nat) (l0 : List Int) where
  l : List Int
  j : Nat
  hp : l.Perm l0
  ha : a ≤ j
  hj : j ≤ i0
  he : sinkP c a j l = sinkP c a i0 l0

theorem getD_mem {l : List Int} {i : Nat} (h : i < l.length) : l.getD i 0 ∈ l := by
  simp [h]

set_option maxRecDepth 10000 in
theorem insertion_any (Z : Heap) (A : Option Addr) (cap : Nat) (l : List Int) (a b : Nat) {G : FuncId} {caps : List Value} {c : Int → Int → Int} {dom : Int → Prop} (hc : Cmp Z G caps c dom) (hd : ∀ x ∈ l, dom x)
    (ha : a < b) (hb : b ≤ l.length) (hl : l.length ≤ 100) :
    FnW Try.prog 20 [.row 0, .val (.int .i64 a), .val (.int .i64 b), .val (cmpV G caps)] Z A cap 3 1 l.length (icells l)
      (fun xs => xs = icells (insP c a (b - a) l)) := by
  refine fnW_intro Try.func20 rfl (Nat.le_of_ble_eq_true rfl) ?_
  simp only [go_sem]
  refine ⟨by unfold inI64; omega, ?_⟩
  refine vcLoop_intro (ι := {i : Nat // a < i ∧ i ≤ b})
      (fun k => ⟨[(8, .val (.int .i64 k.1)), (0, .row 0), (1, .val (.int .i64 a)), (2, .val (.int .i64 b)), (3, .val (cmpV G caps))], [.row A cap 3 1 l.length (icells (insP c a (k.1 - a) l))], Z⟩)
      (fun k => b - k.1) ⟨a + 1, by omega, by omega⟩ ?_ ?_
  · have e1 : insP c a (a + 1 - a) l = l := by
      rw [show a + 1 - a = 0 + 1 by omega]
      simp only [insP, Nat.add_zero]
      cases a with
      | zero => rfl
      | succ a => simp [sinkP]
    simp only [e1]
    exact incl_of (by simp only [go_sem]; simp)
  rintro ⟨i, hai, hib⟩
  simp only [go_sem]
  refine ⟨fun hlt => ?_, fun hge => ?_⟩
  · have hlt' : i < b := by simpa using hlt
    have hperm0 : (insP c a (i - a) l).Perm l := insP_perm c a _ l (by omega)
    refine vcLoop_intro (ι := SinkI c a i (insP c a (i - a) l))
      (fun k => ⟨[(9, .val (.int .i64 k.j)), (8, .val (.int .i64 i)), (0, .row 0), (1, .val (.int .i64 a)), (2, .val (.int .i64 b)), (3, .val (cmpV G caps))], [.row A cap 3 1 l.length (icells k.l)], Z⟩)
      (fun k => k.j) ⟨_, i, .refl _, by omega, by omega, rfl⟩ (incl_of (by simp only [go_sem])) ?_
    rintro ⟨l', j, hp, haj, hji, he⟩
    have hlen : l'.length = l.length := by rw [hp.length_eq, hperm0.length_eq]
    have hdom : ∀ x ∈ l', dom x := fun x hx => hd x ((hp.trans hperm0).mem_iff.1 hx)
    simp only [go_sem, hc.ext, hc.can]
    have hnext : insP c a (i + 1 - a) l = sinkP c a j l' := by
      rw [he, show i + 1 - a = (i - a) + 1 by omega]
      simp only [insP]
      rw [show a + (i - a) = i by omega]
    refine ⟨by kernel_rfl, fun haj' => ?_, fun haj' => ?_⟩
    · have haj2 : a < j := by simpa using haj'
      have e1 : (j : Int) - 1 = ((j - 1 : Nat) : Int) := by omega
      simp only [e1, Int.toNat_natCast]
      refine ⟨by omega, _, icells_at l' j (by omega), by unfold inI64; omega, by omega, _, icells_at l' (j - 1) (by omega), ?_⟩
      refine vcCallX_E (.int .i64 (l'.getD j 0) :: .int .i64 (l'.getD (j - 1) 0) :: caps) (by simp [denL, den, denL_vals]) (hc.run _ _ (hdom _ (getD_mem (by omega))) (hdom _ (getD_mem (by omega)))) ?_
      simp only [go_sem, e1]
      obtain ⟨j', rfl⟩ : ∃ j', j = j' + 1 := ⟨j - 1, by omega⟩
      simp only [Nat.add_sub_cancel]
      refine ⟨fun hlt0 => ?_, fun hge0 => ⟨by unfold inI64; omega, ⟨i + 1, by omega, by omega⟩, ?_, ?_⟩⟩
      · have hc0 : c (l'.getD (j' + 1) 0) (l'.getD j' 0) < 0 := by simpa using hlt0
        refine ⟨by kernel_rfl, by unfold inI64; omega, by unfold inI64; omega, by omega, _, icells_at l' j' (by omega), by omega, _, icells_at l' (j' + 1) (by omega), by omega, by rw [icells_len]; omega, by omega,
          by simp [icells_len]; omega, by unfold inI64; omega, ⟨sw l' (j' + 1) j', j', (sw_perm (by omega) (by omega)).trans hp, by omega, by omega, ?_⟩, ?_, ?_⟩
        · rw [← he]
          simp only [sinkP]
          rw [if_pos ⟨by omega, hc0⟩]
        · simp only []; omega
        · rw [icells_set _ _ _ (by omega), icells_set _ _ _ (by simp; omega)]
          exact incl_take 1 rfl (by simp only [go_sem]) (by simp only [go_sem]) (by simp only [go_sem])
      · simp only []; omega
      · have hc0 : ¬ c (l'.getD (j' + 1) 0) (l'.getD j' 0) < 0 := by simpa using hge0
        have e2 : insP c a (i + 1 - a) l = l' := by
          rw [hnext]
          simp only [sinkP]
          rw [if_neg (fun h => hc0 h.2)]
        simp only [e2]
        exact incl_take 1 rfl (by simp only [go_sem]; simp) (by simp only [go_sem]) (by simp only [go_sem])
    · have haj2 : ¬ a < j := by simpa using haj'
      have e2 : insP c a (i + 1 - a) l = l' := by
        rw [hnext]
        cases j with
        | zero => rfl
        | succ j => simp only [sinkP]; rw [if_neg (fun h => haj2 h.1)]
      refine ⟨by unfold inI64; omega, ⟨i + 1, by omega, by omega⟩, ?_, ?_⟩
      · simp only []; omega
      · simp only [e2]
        exact incl_take 1 rfl (by simp only [go_sem]; simp) (by simp only [go_sem]) (by simp only [go_sem])
  · have hk' : i = b := by
      have : ¬ i < b := by simpa using hge
      omega
    subst hk'
    exact ⟨_, [], rfl, rfl⟩
end Go.Proofs.Yteanjjdgmjdfiaa
