/- waste.Choose: what the code computes, part 2. -/
import Derived.Test.YteanjjdgmjdfiaaWa7
namespace Go.Proofs.Yteanjjdgmjdfiaa
open Go Go.SX

def wantW (t : Nat) (x : Int × Int) : Bool := decide (0 < x.1) && (Ieee.double.order (shareW x) t == some .gt)
def pickP (l : List (Int × Int)) (t : Nat) : Nat → List Int
  | 0 => []
  | k + 1 => if wantW t (l.getD k (0, 0)) then pickP l t k ++ [(k : Int)] else pickP l t k
def chooseP (l : List (Int × Int)) (t : Nat) : List Int := sortP (chooseC l) (pickP l t l.length)
theorem pickP_len (l : List (Int × Int)) (t : Nat) : ∀ k, (pickP l t k).length ≤ k
  | 0 => by simp [pickP]
  | k + 1 => by
    have := pickP_len l t k
    simp only [pickP]; split
    · simp; omega
    · omega
theorem pickP_mem (l : List (Int × Int)) (t : Nat) : ∀ k, ∀ x ∈ pickP l t k, 0 ≤ x ∧ x.toNat < k
  | 0 => by simp [pickP]
  | k + 1 => by
    have := pickP_mem l t k
    simp only [pickP]; split
    · intro x hx
      simp only [List.mem_append, List.mem_singleton] at hx
      rcases hx with hx | rfl
      · have := this x hx; omega
      · omega
    · intro x hx; have := this x hx; omega

def chosen (l : List (Int × Int)) (t : Nat) (v : Value) (Z : Heap) : Prop :=
  if checkP l = 0 then ∃ A cap, v = .tuple #[.slice A (chooseP l t).length cap, .int .i64 0] ∧ Rds Z A 0 (icells (chooseP l t)) ∧ (chooseP l t).length ≤ cap
  else v = .tuple #[.slice none 0 0, .int .i64 (checkP l)]

structure PickI (n : Nat) where
  k : Nat
  A : Option Addr
  cap : Nat
  hk : k ≤ n

set_option maxHeartbeats 4000000 in
set_option maxRecDepth 10000 in
theorem choose_any (Z : Heap) (A : Option Addr) (l : List (Int × Int)) (cp t : Nat) (h : Rds Z A 0 (wcells l)) :
    FnH Try.prog 5 [.slice A l.length cp, .float .f64 t] Z (chosen l t) := by
  refine fnH_intro Try.func5 rfl (Nat.le_of_ble_eq_true rfl) ?_
  simp only [go_sem]
  intro b
  refine vcCall_E _ rfl (check_any _ A l cp h) ?_
  simp only [go_sem]
  refine ⟨fun hbad => fun Z' hz hf => ?_, fun hgood => ?_⟩
  · have hb : checkP l ≠ 0 := by simpa using hbad
    unfold chosen
    rw [if_neg hb]
  · have hg : checkP l = 0 := by simpa using hgood
    have hl : l.length ≤ 100 := by
      unfold checkP at hg; split at hg
      · omega
      · omega
    have hok : l.all wOk = true := by
      unfold checkP at hg; split at hg
      · omega
      · split at hg
        · assumption
        · omega
    refine vcLoop_intro (ι := PickI l.length)
      (fun u => ⟨[(17, .val (.int .i64 u.k)), (16, .val (.int .i64 l.length)), (15, .val (.slice A l.length cp)), (7, .row 1), (2, .ptr 0 0), (1, .val (.float .f64 t))],
        [.blk b [.val (.slice A l.length cp)] 22, .row u.A u.cap 3 1 (pickP l t u.k).length (icells (pickP l t u.k))], Z⟩)
      (fun u => l.length - u.k) ⟨0, none, 0, by omega⟩ ((incl_adopt 7 3 1 rfl).trans (incl_of (by simp only [go_sem] <;> simp))) ?_
    rintro ⟨k, A', cap', hk⟩
    simp only [go_sem]
    refine ⟨fun hlt => ?_, fun hge => ?_⟩
    · have hlt' : k < l.length := by simpa using hlt
      obtain ⟨ha, hr⟩ := Rds.w h hlt'
      refine ⟨⟨ha, by omega, by omega⟩, _, _, hr, ?_⟩
      have okk : wOk l[k] = true := List.all_eq_true.1 hok _ (List.getElem_mem hlt')
      have egd : l.getD k (0, 0) = l[k] := by simp [hlt']
      intro b1
      refine ⟨fun hpos => ?_, fun hnon => ⟨by unfold inI64; omega, ⟨k + 1, A', cap', by omega⟩, ?_, ?_⟩⟩
      · refine vcCall_E [.agg #[.int .i64 l[k].1, .int .i64 l[k].2]] rfl (share_any _ l[k] okk) ?_
        simp only [go_sem]
        have hlen := pickP_len l t k
        refine ⟨fun hgt => ?_, fun hle => ⟨by unfold inI64; omega, ⟨k + 1, A', cap', by omega⟩, ?_, ?_⟩⟩
        · intro b2
          refine ⟨by unfold maxLen; omega, by omega, fun A2 cap2 => ⟨by unfold inI64; omega, ⟨k + 1, A2, cap2, by omega⟩, ?_, ?_⟩⟩
          · simp only []; omega
          · have e : pickP l t (k + 1) = pickP l t k ++ [(k : Int)] := by
              have hgt' : (Ieee.double.order (shareW l[k]) t == some Ordering.gt) = true := hgt
              simp only [pickP, egd, wantW, hpos, hgt', Bool.and_self, if_true]
            have e2 : icells (pickP l t k) ++ [.int .i64 (k : Int)] = icells (pickP l t k ++ [(k : Int)]) := by simp [icells]
            have e3 : (pickP l t k).length + 1 = (pickP l t k ++ [(k : Int)]).length := by simp
            simp only [e, e2, e3]
            exact incl_take 2 rfl (by simp only [go_sem] <;> simp) (by simp only [go_sem]) (by simp only [go_sem])
        · simp only []; omega
        · have e : pickP l t (k + 1) = pickP l t k := by
            have hle' : (Ieee.double.order (shareW l[k]) t == some Ordering.gt) = false := hle
            simp only [pickP, egd, wantW, hle', Bool.and_false]; simp
          simp only [e]
          exact incl_take 2 rfl (by simp only [go_sem] <;> simp) (by simp only [go_sem]) (by simp only [go_sem])
      · simp only []; omega
      · have e : pickP l t (k + 1) = pickP l t k := by
          simp only [pickP, egd, wantW, hnon, Bool.false_and]; simp
        simp only [e]
        exact incl_take 2 rfl (by simp only [go_sem] <;> simp) (by simp only [go_sem]) (by simp only [go_sem])
    · have hk' : k = l.length := by
        have : ¬ k < l.length := by simpa using hge
        omega
      have hlen := pickP_len l t k
      refine vcCall_W 1 [.row 0, .val (cmpV 14 [.pointer (some ⟨b, 0, none⟩)])] _ rfl rfl rfl (fun Z' hz hf =>
        sortStable_any Z' A' cap' (pickP l t k) (c := chooseC l) (dom := domOf l) (chooseCmp_any Z' ⟨b, 0, none⟩ A l cp ?_ (fun j v hv => hz.rd (h j v hv)) hok hl) (fun x hx => ?_) (by omega)) ?_
      · intro j v hv
        match j, hv with
        | 0, hv => exact hf 0 _ (by decide) rfl 0 _ v rfl (by simpa [den] using hv)
        | j + 1, hv => simp at hv
      · have := pickP_mem l t k x hx
        exact ⟨this.1, by omega⟩
      rintro X rfl
      simp only [go_sem]
      intro Z' hz hf
      subst hk'
      have hlen2 : (chooseP l t).length = (pickP l t l.length).length := (sortP_perm _ _).length_eq
      unfold chosen
      rw [if_pos hg]
      exact ⟨A', cap', by rw [hlen2], hf.2.1.1, by rw [hlen2]; exact hf.2.1.2⟩
end Go.Proofs.Yteanjjdgmjdfiaa
