/- waste: shares, and the small functions on floats. -/
import Derived.Test.YteanjjdgmjdfiaaWa1
import Derived.Test.YteanjjdgmjdfiaaPf
namespace Go.Proofs.Yteanjjdgmjdfiaa
open Go Go.SX

/-- the share of a waste, as the bits of a float -/
def shareW (x : Int × Int) : Nat := if x.1 = 0 then 0 else (Ieee.double.div (FloatKind.f64.nearest x.2) (FloatKind.f64.nearest x.1)).getD 0

theorem wOk_iff (x : Int × Int) : wOk x = true ↔ 0 ≤ x.2 ∧ x.2 ≤ x.1 ∧ x.1 ≤ 1099511627776 := by
  simp [wOk]; omega
theorem nearest_nat (n : Nat) : FloatKind.f64.nearest n = Ieee.double.nearest false n 0 := by
  have h : decide ((n : Int) < 0) = false := by simp
  simp only [FloatKind.nearest, h, Int.natAbs_natCast]
  rfl
theorem share_div (x : Int × Int) (h : wOk x = true) (h0 : x.1 ≠ 0) :
    Ieee.double.div (FloatKind.f64.nearest x.2) (FloatKind.f64.nearest x.1) = some (shareW x) ∧ shareW x ≤ 4607182418800017408 := by
  obtain ⟨h1, h2, h3⟩ := (wOk_iff x).1 h
  obtain ⟨s, hs⟩ := Int.eq_ofNat_of_zero_le (show 0 ≤ x.1 by omega)
  obtain ⟨d, hd⟩ := Int.eq_ofNat_of_zero_le h1
  have hd' : x.2 = (d : Int) := hd
  have hs' : x.1 = (s : Int) := hs
  rw [shareW, if_neg h0]
  rw [hd', hs', nearest_nat, nearest_nat]
  obtain ⟨r, e, hr⟩ := Fl.share_word d s (by omega) (by omega) (by have : (2 : Nat) ^ 53 = 9007199254740992 := by simp only [Nat.reducePow]
                                                                   omega)
  rw [e]
  exact ⟨rfl, hr⟩
theorem shareW_le (x : Int × Int) (h : wOk x = true) : shareW x ≤ 4607182418800017408 := by
  by_cases h0 : x.1 = 0
  · simp [shareW, h0]
  · exact (share_div x h h0).2

set_option maxRecDepth 10000 in
theorem share_any (Z : Heap) (x : Int × Int) (h : wOk x = true) :
    FnE Try.prog 7 [.agg #[.int .i64 x.1, .int .i64 x.2]] Z (.float .f64 (shareW x)) := by
  refine fnV_intro Try.func7 rfl (Nat.le_of_ble_eq_true rfl) ?_
  simp only [go_sem]
  refine ⟨fun h0 => ?_, fun h0 => ?_⟩
  · have h0 : x.1 = 0 := by simpa using h0
    simp [shareW, h0]
  · have h0 : x.1 ≠ 0 := by simpa using h0
    exact ⟨_, (share_div x h h0).1, rfl⟩

def fNaN (a : Nat) : Bool := Ieee.double.order a a != some .eq
set_option maxRecDepth 10000 in
theorem isNaN_any (Z : Heap) (a : Nat) : FnE Try.prog 19 [.float .f64 a] Z (.bool (fNaN a)) := by
  refine fnV_intro Try.func19 rfl (Nat.le_of_ble_eq_true rfl) ?_
  simp only [go_sem]
  rfl

def cmpF (a b : Nat) : Int := if fNaN a then (if fNaN b then 0 else -1) else if fNaN b then 1 else if Ieee.double.order a b == some .lt then -1 else if Ieee.double.order a b == some .gt then 1 else 0
set_option maxRecDepth 10000 in
theorem compare_any (Z : Heap) (a b : Nat) : FnE Try.prog 15 [.float .f64 a, .float .f64 b] Z (.int .i64 (cmpF a b)) := by
  refine fnV_intro Try.func15 rfl (Nat.le_of_ble_eq_true rfl) ?_
  simp only [go_sem]
  refine vcCall_E _ rfl (isNaN_any _ a) ?_
  simp only [go_sem]
  refine vcCall_E _ rfl (isNaN_any _ b) ?_
  simp only [go_sem]
  unfold cmpF
  refine ⟨fun ha => ⟨fun hb => ?_, fun hb => ?_⟩, fun ha => ⟨fun hb => ?_, fun hb => ⟨fun h1 => ?_, fun h1 => ⟨fun h2 => ?_, fun h2 => ?_⟩⟩⟩⟩
  · rw [ha, hb]; rfl
  · rw [ha, hb]; rfl
  · rw [ha, hb]; rfl
  · have h1' : (Ieee.double.order a b == some Ordering.lt) = true := h1
    rw [ha, hb, h1']; rfl
  · have h1' : (Ieee.double.order a b == some Ordering.lt) = false := h1
    have h2' : (Ieee.double.order a b == some Ordering.gt) = true := h2
    rw [ha, hb, h1', h2']; rfl
  · have h1' : (Ieee.double.order a b == some Ordering.lt) = false := h1
    have h2' : (Ieee.double.order a b == some Ordering.gt) = false := h2
    rw [ha, hb, h1', h2']; rfl

set_option maxRecDepth 10000 in
theorem signbit_any (Z : Heap) (a : Nat) (ha : a < 18446744073709551616) : FnE Try.prog 8 [.float .f64 a] Z (.bool (decide (9223372036854775808 ≤ a))) := by
  refine fnV_intro Try.func8 rfl (Nat.le_of_ble_eq_true rfl) ?_
  simp only [go_sem]
  congr 2
  rw [wrap_i64]
  apply propext
  constructor <;> intro h <;> omega
set_option maxRecDepth 10000 in
theorem nan_any (Z : Heap) : FnE Try.prog 9 [] Z (.float .f64 9221120237041090561) := by
  refine fnV_intro Try.func9 rfl (Nat.le_of_ble_eq_true rfl) ?_
  simp only [go_sem]
  exact ⟨_, rfl⟩
set_option maxRecDepth 10000 in
theorem inf_any (Z : Heap) : FnE Try.prog 10 [.int .i64 (-1)] Z (.float .f64 18442240474082181120) := by
  refine fnV_intro Try.func10 rfl (Nat.le_of_ble_eq_true rfl) ?_
  simp only [go_sem]
  exact ⟨_, rfl⟩

def icells (l : List Int) : List Value := l.map (.int .i64)
theorem Rds.i {Z : Heap} {A : Option Addr} {l : List Int} (h : Rds Z A 0 (icells l)) {k : Nat} (hk : k < l.length) : A.isSome = true ∧ Rds Z A k [.int .i64 l[k]] := by
  have h2 : Rds Z A k [.int .i64 l[k]] := fun j v hv => by
    match j, hv with
    | 0, hv =>
      have := h k (.int .i64 l[k]) (by simp [icells, hk])
      simp at hv; subst hv
      rwa [Nat.zero_add] at this
    | j + 1, hv => simp at hv
  refine ⟨?_, h2⟩
  have := h2 0 _ rfl
  cases A with
  | none => simp [rd] at this
  | some a => rfl
set_option maxRecDepth 10000 in
theorem equal_any (Z : Heap) (A B : Option Addr) (l m : List Int) (c d : Nat) (h : Rds Z A 0 (icells l)) (hk2 : Rds Z B 0 (icells m)) (hl : l.length ≤ 100) (hm : m.length ≤ 100) :
    FnE Try.prog 6 [.slice A l.length c, .slice B m.length d] Z (.bool (decide (l = m))) := by
  refine fnV_intro Try.func6 rfl (Nat.le_of_ble_eq_true rfl) ?_
  simp only [go_sem]
  refine ⟨fun hne => ?_, fun he => ?_⟩
  · have hne' : l.length ≠ m.length := by
      intro e; rw [e] at hne; simp at hne
    have : l ≠ m := fun e => hne' (by rw [e])
    simp [this]
  · have he' : l.length = m.length := by
      have : (l.length : Int) = m.length := by simpa using he
      omega
    refine vcLoop_intro (ι := {k : Nat // k ≤ l.length ∧ l.take k = m.take k})
      (fun k => ⟨[(13, .val (.int .i64 k.1)), (12, .val (.int .i64 l.length)), (0, .val (.slice A l.length c)), (1, .val (.slice B m.length d))], [], Z⟩)
      (fun k => l.length - k.1) ⟨0, by simp⟩ (incl_of (by simp only [go_sem]; simp)) ?_
    rintro ⟨k, hk, hall⟩
    simp only [go_sem]
    refine ⟨fun hlt => ?_, fun hge => ?_⟩
    · have hlt' : k < l.length := by simpa using hlt
      obtain ⟨ha, hr⟩ := Rds.i h hlt'
      obtain ⟨hb, hs⟩ := Rds.i hk2 (show k < m.length by omega)
      refine ⟨by kernel_rfl, ⟨ha, by omega, by omega⟩, _, hr, ⟨hb, by omega, by omega⟩, _, hs, fun hne => ?_, fun heq => ⟨by unfold inI64; omega, ⟨k + 1, by omega, ?_⟩, ?_, ?_⟩⟩
      · have hne' : l[k] ≠ m[k] := by simpa using hne
        have : l ≠ m := by rintro rfl; exact hne' rfl
        simp [this]
      · have heq' : l[k] = m[k] := by simpa using heq
        rw [List.take_succ_eq_append_getElem hlt', List.take_succ_eq_append_getElem (show k < m.length by omega), hall, heq']
      · simp only []; omega
      · exact incl_take 0 rfl (by simp only [go_sem]; simp) (by simp only [go_sem]) (by simp only [go_sem])
    · have hk' : k = l.length := by
        have : ¬ k < l.length := by simpa using hge
        omega
      subst hk'
      rw [List.take_length, he', List.take_length] at hall
      simp [hall]

end Go.Proofs.Yteanjjdgmjdfiaa
