/- lumkeep.WasteEnds: the walk. -/
import Derived.Test.YteanjjdgmjdfiaaWaT
import Derived.Test.YteanjjdgmjdfiaaWa9
namespace Go.Proofs.Yteanjjdgmjdfiaa
open Go Go.SX

/-! plain facts -/
def magn (w : Nat) : Nat := if w < 4503599627370496 then w else (4503599627370496 + w % 4503599627370496) * 2 ^ (w / 4503599627370496 - 1)
theorem key_magn (w : Nat) (h : w < 9218868437227405312) : Fl.key w = some (magn w : Int) := by
  unfold Fl.key magn
  rw [Fl.read_eq]
  have e1 : w % 9223372036854775808 = w := by omega
  have e2 : w / 9223372036854775808 = 0 := by omega
  rw [e1, e2]
  split
  · simp [Fl.keyD, Fl.signed_eq]
  · try rw [if_pos h]
    simp only [Fl.keyD, Fl.signed_eq]
    have e3 : ((-1074 : Int) + ((w / 4503599627370496 - 1 : Nat) : Int) + 1074).toNat = w / 4503599627370496 - 1 := by omega
    rw [e3]
    simp
theorem magn_mono {a b : Nat} (h : a ≤ b) : magn a ≤ magn b := by
  unfold magn
  by_cases h1 : a < 4503599627370496
  · rw [if_pos h1]
    split
    · exact h
    · have : 1 ≤ 2 ^ (b / 4503599627370496 - 1) := Nat.one_le_two_pow
      calc a ≤ (4503599627370496 + b % 4503599627370496) * 1 := by omega
        _ ≤ _ := Nat.mul_le_mul_left _ this
  · rw [if_neg h1, if_neg (by omega)]
    rcases Nat.lt_or_ge (a / 4503599627370496) (b / 4503599627370496) with hq | hq
    · have e : 2 ^ (a / 4503599627370496) ≤ 2 ^ (b / 4503599627370496 - 1) := Nat.pow_le_pow_right (by omega) (by omega)
      have e2 : 2 ^ (a / 4503599627370496) = 2 * 2 ^ (a / 4503599627370496 - 1) := by
        rw [← Nat.pow_succ']; congr 1; omega
      calc (4503599627370496 + a % 4503599627370496) * 2 ^ (a / 4503599627370496 - 1) ≤ (4503599627370496 * 2) * 2 ^ (a / 4503599627370496 - 1) := Nat.mul_le_mul_right _ (by omega)
        _ = 4503599627370496 * 2 ^ (a / 4503599627370496) := by rw [e2, Nat.mul_assoc]
        _ ≤ 4503599627370496 * 2 ^ (b / 4503599627370496 - 1) := Nat.mul_le_mul_left _ e
        _ ≤ _ := Nat.mul_le_mul_right _ (by omega)
    · have hq' : a / 4503599627370496 = b / 4503599627370496 := by
        have := Nat.div_le_div_right (c := 4503599627370496) h
        omega
      rw [hq']
      refine Nat.mul_le_mul_right _ ?_
      omega
/-- of a share: between nought and one -/
theorem share_between (x : Int × Int) (h : wOk x = true) : ∃ n : Int, Fl.key (shareW x) = some n ∧ 0 ≤ n ∧ n ≤ (magn 4607182418800017408 : Int) := by
  have hle := shareW_le x h
  refine ⟨_, key_magn _ (by omega), by omega, ?_⟩
  have := magn_mono hle
  omega
theorem key_one : Fl.key 4607182418800017408 = some (magn 4607182418800017408 : Int) := key_magn _ (by decide)
theorem key_zero : Fl.key 0 = some 0 := by rw [key_magn _ (by decide)]; rfl
theorem key_nan : Fl.key 9221120237041090561 = none := by
  unfold Fl.key; rw [Fl.read_eq, if_neg (by decide), if_neg (by decide), if_neg (by decide)]; rfl
theorem key_low : Fl.key 18442240474082181120 = some (-Fl.big) := by
  unfold Fl.key; rw [Fl.read_eq, if_neg (by decide), if_neg (by decide), if_pos (by decide)]; rfl

theorem choose_none {l : List (Int × Int)} (h : checkP l = 0) (t : Nat) (ht : ∀ x, wOk x = true → wantW t x = false) : chooseP l t = [] := by
  obtain ⟨_, hok⟩ := chk_ok h
  rw [List.eq_nil_iff_forall_not_mem]
  intro x hx
  obtain ⟨h1, h2, h3⟩ := (choose_mem t x).1 hx
  rw [List.getD_eq_getElem?_getD, List.getElem?_eq_getElem h2, Option.getD_some] at h3
  rw [ht _ (List.all_eq_true.1 hok _ (List.getElem_mem h2))] at h3
  cases h3
theorem choose_nan {l : List (Int × Int)} (h : checkP l = 0) : chooseP l 9221120237041090561 = [] :=
  choose_none h _ fun x _ => by
    unfold wantW
    rw [Fl.order_key, key_nan]
    cases Fl.key (shareW x) <;> simp
theorem choose_one {l : List (Int × Int)} (h : checkP l = 0) : chooseP l 4607182418800017408 = [] :=
  choose_none h _ fun x hx => by
    obtain ⟨n, h1, h2, h3⟩ := share_between x hx
    unfold wantW
    rw [order_some h1 key_one, ord_gt, decide_eq_false (p := (magn 4607182418800017408 : Int) < n) (by omega), Bool.and_false]
def manyP (l : List (Int × Int)) : Nat → Nat
  | 0 => 0
  | k + 1 => manyP l k + if 0 < (l.getD k (0, 0)).1 then 1 else 0
theorem manyP_le (l : List (Int × Int)) : ∀ k, manyP l k ≤ k
  | 0 => Nat.le_refl _
  | k + 1 => by
    have := manyP_le l k
    simp only [manyP]; split <;> omega
theorem choose_low {l : List (Int × Int)} (h : checkP l = 0) : (chooseP l 18442240474082181120).length = manyP l l.length := by
  obtain ⟨_, hok⟩ := chk_ok h
  have hb : (0 : Int) < Fl.big := Fl.big_pos
  have e : (chooseP l 18442240474082181120).length = (pickP l 18442240474082181120 l.length).length := (sortP_perm _ _).length_eq
  rw [e]
  have key : ∀ k, k ≤ l.length → (pickP l 18442240474082181120 k).length = manyP l k := by
    intro k
    induction k with
    | zero => intro _; rfl
    | succ k ih =>
      intro hk
      have e2 : wantW 18442240474082181120 (l.getD k (0, 0)) = decide (0 < (l.getD k (0, 0)).1) := by
        have hm : wOk (l.getD k (0, 0)) = true := by
          rw [List.getD_eq_getElem?_getD, List.getElem?_eq_getElem (by omega), Option.getD_some]
          exact List.all_eq_true.1 hok _ (List.getElem_mem (by omega))
        obtain ⟨n, h1, h2, h3⟩ := share_between _ hm
        unfold wantW
        rw [order_some h1 key_low, ord_gt, decide_eq_true (p := -Fl.big < n) (by omega), Bool.and_true]
      simp only [pickP, manyP, e2, decide_eq_true_eq]
      split
      · simp [ih (by omega)]
      · simp [ih (by omega)]
  exact key _ (Nat.le_refl _)
theorem choose_nodup {l : List (Int × Int)} (h : checkP l = 0) (t : Nat) : (chooseP l t).Nodup := by
  refine List.Pairwise.imp ?_ (choose_sorted h t)
  intro a b hab e
  subst e
  omega
theorem share_quarter : shareW (4, 1) = 4598175219545276416 := by decide +kernel
theorem quarter_eq : (Ieee.double.order 4598175219545276416 4598175219545276416 != some .eq) = false := by decide +kernel
theorem share_nought : shareW (0, 0) = 0 := by decide +kernel

structure EndI (l : List (Int × Int)) where
  k : Nat
  hk : k ≤ l.length

set_option maxHeartbeats 4000000 in
set_option maxRecDepth 10000 in
theorem wasteEnds_any (Z : Heap) (A : Option Addr) (l : List (Int × Int)) (cp : Nat) (h : Rds Z A 0 (wcells l)) :
    FnE Try.prog 4 [.slice A l.length cp] Z (.bool true) := by
  refine fnV_intro Try.func4 rfl (Nat.le_of_ble_eq_true rfl) ?_
  simp only [go_sem]
  refine vcCall_E [.agg #[.int .i64 4, .int .i64 1]] rfl (share_any _ (4, 1) (by decide)) ?_
  simp only [go_sem, share_quarter]
  refine ⟨fun hq => ?_, fun _ => ?_⟩
  · have hq : (Ieee.double.order 4598175219545276416 4598175219545276416 != some .eq) = true := hq
    rw [quarter_eq] at hq; cases hq
  refine vcCall_E [.agg #[.int .i64 0, .int .i64 0]] rfl (share_any _ (0, 0) (by decide)) ?_
  simp only [go_sem, share_nought]
  refine vcCall_E _ rfl (signbit_any _ 0 (by decide)) ?_
  simp only [go_sem]
  refine vcCall_E _ rfl (nan_any _) ?_
  simp only [go_sem]
  refine vcCall_H _ rfl (choose_any Z A l cp _ h) ?_
  intro v1 Z1 hz1 hv1
  unfold chosen at hv1
  have h1 : Rds Z1 A 0 (wcells l) := fun j v hv => hz1.rd (h j v hv)
  by_cases hck : checkP l = 0
  · rw [if_pos hck, choose_nan hck] at hv1
    obtain ⟨A1, cap1, rfl, _, _⟩ := hv1
    have z1 : Z.le Z1 := hz1
    clear hz1
    simp only [go_sem]
    refine vcCall_H _ rfl (choose_any Z1 A l cp _ h1) ?_
    intro v2 Z2 hz2 hv2
    unfold chosen at hv2
    rw [if_pos hck, choose_one hck] at hv2
    obtain ⟨A2, cap2, rfl, _, _⟩ := hv2
    have h2 : Rds Z2 A 0 (wcells l) := fun j v hv => hz2.rd (h1 j v hv)
    have z2 : Z.le Z2 := Heap.le.trans z1 hz2
    clear hz2
    simp only [go_sem]
    refine vcCall_E _ rfl (inf_any _) ?_
    simp only [go_sem]
    refine vcCall_H _ rfl (choose_any Z2 A l cp _ h2) ?_
    intro v3 Z3 hz3 hv3
    unfold chosen at hv3
    rw [if_pos hck] at hv3
    obtain ⟨A3, cap3, rfl, hr3, _⟩ := hv3
    have h3 : Rds Z3 A 0 (wcells l) := fun j v hv => hz3.rd (h2 j v hv)
    have z3 : Z.le Z3 := Heap.le.trans z2 hz3
    clear hz3
    have hnd := choose_nodup hck 18442240474082181120
    have hdm : ∀ x ∈ chooseP l 18442240474082181120, domOf l x := fun x hx => by
      have := (choose_mem _ x).1 hx; exact ⟨this.1, this.2.1⟩
    have hlen := choose_low hck
    have hml := manyP_le l l.length
    obtain ⟨hl, hok⟩ := chk_ok hck
    generalize chooseP l 18442240474082181120 = a at hr3 hnd hdm hlen ⊢
    simp only [go_sem]
    refine vcLoop_intro (ι := EndI l)
      (fun u => ⟨[(71, .val (.int .i64 u.k)), (70, .val (.int .i64 l.length)), (69, .val (.slice A l.length cp)), (9, .val (.int .i64 (manyP l u.k))), (7, .val (.slice A3 a.length cap3)), (3, .val (.slice A1 0 cap1)), (5, .val (.slice A2 0 cap2)), (0, .val (.slice A l.length cp))], [], Z3⟩)
      (fun u => l.length - u.k) ⟨0, by omega⟩ (incl_of (by simp only [go_sem] <;> simp [manyP])) ?_
    rintro ⟨k, hk⟩
    simp only [go_sem]
    refine ⟨fun hlt => ?_, fun hge => ?_⟩
    · have hlt' : k < l.length := by simpa using hlt
      obtain ⟨ha, hr⟩ := Rds.w h3 hlt'
      have okk : wOk l[k] = true := List.all_eq_true.1 hok _ (List.getElem_mem hlt')
      have egd : l.getD k (0, 0) = l[k] := by simp [hlt']
      obtain ⟨n, k1, k2, k3⟩ := share_between _ okk
      have hmk := manyP_le l k
      refine ⟨⟨ha, by omega, by omega⟩, _, _, hr, fun b => ?_⟩
      refine vcCall_E [.agg #[.int .i64 l[k].1, .int .i64 l[k].2]] rfl (share_any _ l[k] okk) ?_
      simp only [go_sem]
      have e1 : (Ieee.double.order (shareW l[k]) 0 == some .gt || Ieee.double.order (shareW l[k]) 0 == some .eq) = true := by
        rw [order_some k1 key_zero, ord_gt, ord_eq]
        simp only [Bool.or_eq_true, decide_eq_true_eq]; omega
      have e2 : (Ieee.double.order (shareW l[k]) 4607182418800017408 == some .lt || Ieee.double.order (shareW l[k]) 4607182418800017408 == some .eq) = true := by
        rw [order_some k1 key_one, ord_lt, ord_eq]
        simp only [Bool.or_eq_true, decide_eq_true_eq]; omega
      refine ⟨fun hbad => ?_, fun _ => ⟨fun hp => ⟨by unfold inI64; omega, by unfold inI64; omega, ⟨k + 1, by omega⟩, ?_, ?_⟩, fun hp => ⟨by unfold inI64; omega, ⟨k + 1, by omega⟩, ?_, ?_⟩⟩⟩
      · have hbad : (!((Ieee.double.order (shareW l[k]) 0 == some .gt || Ieee.double.order (shareW l[k]) 0 == some .eq) && (Ieee.double.order (shareW l[k]) 4607182418800017408 == some .lt || Ieee.double.order (shareW l[k]) 4607182418800017408 == some .eq))) = true := hbad
        rw [e1, e2] at hbad; cases hbad
      · simp only []; omega
      · have e : manyP l (k + 1) = manyP l k + 1 := by
          simp only [manyP, egd]
          rw [if_pos (by simpa using hp)]
        have e3 : ((manyP l k : Nat) : Int) + 1 = ((manyP l k + 1 : Nat) : Int) := by omega
        simp only [e, e3]
        exact incl_take 0 rfl (by simp only [go_sem] <;> simp) (by simp only [go_sem]) (by simp only [go_sem])
      · simp only []; omega
      · have e : manyP l (k + 1) = manyP l k := by
          simp only [manyP, egd]
          rw [if_neg (by simpa using hp)]; rfl
        simp only [e]
        exact incl_take 0 rfl (by simp only [go_sem] <;> simp) (by simp only [go_sem]) (by simp only [go_sem])
    · have hk' : k = l.length := by
        have : ¬ k < l.length := by simpa using hge
        omega
      subst hk'
      refine vcCall_V _ rfl (total_any Z3 A A3 l a cp cap3 h3 hr3 hck hdm hnd (by omega)) ?_
      rintro v ⟨sz, dd, rfl, hds⟩
      simp only [go_sem]
      exact ⟨by unfold inI64; omega, z3, by simp [hlen, hds]⟩
  · rw [if_neg hck] at hv1
    subst hv1
    have z1 : Z.le Z1 := hz1
    clear hz1
    simp only [go_sem]
    refine vcCall_H _ rfl (choose_any Z1 A l cp _ h1) ?_
    intro v2 Z2 hz2 hv2
    unfold chosen at hv2
    rw [if_neg hck] at hv2
    subst hv2
    have h2 : Rds Z2 A 0 (wcells l) := fun j v hv => hz2.rd (h1 j v hv)
    have z2 : Z.le Z2 := Heap.le.trans z1 hz2
    clear hz2
    simp only [go_sem]
    refine vcCall_E _ rfl (inf_any _) ?_
    simp only [go_sem]
    refine vcCall_H _ rfl (choose_any Z2 A l cp _ h2) ?_
    intro v3 Z3 hz3 hv3
    unfold chosen at hv3
    rw [if_neg hck] at hv3
    subst hv3
    have z3 : Z.le Z3 := Heap.le.trans z2 hz3
    clear hz3
    simp only [go_sem]
    refine ⟨fun _ => ⟨by unfold inI64; omega, by unfold inI64; omega, z3, by simp⟩, fun hc => ?_⟩
    simp [hck] at hc
end Go.Proofs.Yteanjjdgmjdfiaa
