/- lumkeep.WasteRanks: the walk. -/
import Derived.Test.YteanjjdgmjdfiaaWaR
namespace Go.Proofs.Yteanjjdgmjdfiaa
open Go Go.SX

theorem rds_frz {M : List Res} {Z : Heap} {b : Nat} {ty : TypeId} {vs : List Value} (h : frz1 M Z (.blk b (vs.map .val) ty)) : Rds Z (some ⟨b, 0, none⟩) 0 vs := by
  intro j v hv
  rw [Nat.zero_add]
  show Z.cell ((⟨b, 0, none⟩ : Addr).add j) = some v
  rw [lit_add, Nat.zero_add]
  exact h j (.val v) v (by simp [hv]) rfl

theorem icells_take (l : List Int) (n : Nat) : icells (l.take n) = (icells l).take n := by simp [icells]

theorem canary : chooseP [(4, 1), (4, 3)] 0 = [1, 0] := by decide +kernel
theorem canary_ok : checkP [(4, 1), (4, 3)] = 0 := by decide

set_option maxHeartbeats 4000000 in
set_option maxRecDepth 10000 in
theorem wasteRanks_any (Z : Heap) (A : Option Addr) (l : List (Int × Int)) (cp t1 t2 : Nat) (h : Rds Z A 0 (wcells l)) :
    FnE Try.prog 3 [.slice A l.length cp, .float .f64 t1, .float .f64 t2] Z (.bool true) := by
  refine fnV_intro Try.func3 rfl (Nat.le_of_ble_eq_true rfl) ?_
  simp only [go_sem]
  intro b
  refine vcCall_HF _ rfl (fun Z1 hz hf => choose_any Z1 (some ⟨b, 0, none⟩) [(4, 1), (4, 3)] 2 0 (rds_frz (vs := wcells [(4, 1), (4, 3)]) hf.1)) ?_
  intro v Z1 Z2 hz1 hf hz2 hv
  unfold chosen at hv
  rw [if_pos canary_ok, canary] at hv
  obtain ⟨A0, cap0, rfl, hr0, _⟩ := hv
  have hzz : Z.le Z2 := Heap.le.trans hz1 hz2
  clear hf hz1 hz2
  simp only [go_sem]
  intro b1
  refine vcCall_frz [.slice A0 2 cap0, .slice (some ⟨b1, 0, none⟩) 2 2] rfl (fun Z' hz hf => equal_any Z' A0 (some ⟨b1, 0, none⟩) [1, 0] [1, 0] cap0 2 (fun j v hv => hz.rd (hr0 j v hv)) (rds_frz (vs := icells [1, 0]) hf.1) (by decide) (by decide)) ?_
  rintro v rfl
  simp only [go_sem]
  refine vcCall_H _ rfl (choose_any Z2 A l cp t1 (fun j v hv => hzz.rd (h j v hv))) ?_
  intro v1 Z3 hz3 hv1
  have h3 : Rds Z3 A 0 (wcells l) := fun j v hv => hz3.rd (hzz.rd (h j v hv))
  unfold chosen at hv1
  by_cases hck : checkP l = 0
  · rw [if_pos hck] at hv1
    obtain ⟨A1, cap1, rfl, hr1, hcap1⟩ := hv1
    simp only [go_sem]
    refine vcCall_H _ rfl (choose_any Z3 A l cp t2 h3) ?_
    intro v2 Z4 hz4 hv2
    unfold chosen at hv2
    rw [if_pos hck] at hv2
    obtain ⟨A2, cap2, rfl, hr2, _⟩ := hv2
    have h4 : Rds Z4 A 0 (wcells l) := fun j v hv => hz4.rd (h3 j v hv)
    have hr1' : Rds Z4 A1 0 (icells (chooseP l t1)) := fun j v hv => hz4.rd (hr1 j v hv)
    simp only [go_sem]
    have hR := ranks l t1 t2 hck
    generalize chooseP l t1 = a at hr1 hr1' hR hz4 hcap1 ⊢
    generalize chooseP l t2 = bb at hr2 hR ⊢
    have hl : l.length ≤ 100 := by
      unfold checkP at hck; split at hck
      · omega
      · omega
    have hok : l.all wOk = true := by
      unfold checkP at hck; split at hck
      · omega
      · split at hck
        · assumption
        · omega
    have hla := hR.la
    have hlb := hR.lb
    refine vcLoop_intro (ι := {k : Nat // 1 ≤ k ∧ (k ≤ a.length ∨ k = 1)})
      (fun k => ⟨[(13, .val (.int .i64 k.1)), (9, .val (.slice A1 a.length cap1)), (11, .val (.slice A2 bb.length cap2)), (0, .val (.slice A l.length cp)), (1, .val (.float .f64 t1)), (2, .val (.float .f64 t2))], [], Z4⟩)
      (fun k => a.length - k.1) ⟨1, by omega, .inr rfl⟩ (incl_take 0 rfl (by simp only [go_sem] <;> simp) (by simp only [go_sem]) (by simp only [go_sem])) ?_
    rintro ⟨k, hk1, hk2⟩
    simp only [go_sem]
    refine ⟨fun hlt => ?_, fun hge => ?_⟩
    · have hlt' : k < a.length := by simpa using hlt
      obtain ⟨k, rfl⟩ : ∃ k', k = k' + 1 := ⟨k - 1, by omega⟩
      have e1 : ((k + 1 : Nat) : Int) - 1 = (k : Int) := by omega
      obtain ⟨ha1, hrx⟩ := Rds.i hr1' (show k < a.length by omega)
      obtain ⟨_, hry⟩ := Rds.i hr1' hlt'
      obtain ⟨hx0, hx⟩ := hR.ha _ (List.getElem_mem (show k < a.length by omega))
      obtain ⟨hy0, hy⟩ := hR.ha _ (List.getElem_mem hlt')
      have okx : wOk l[a[k].toNat] = true := List.all_eq_true.1 hok _ (List.getElem_mem hx)
      have oky : wOk l[a[k + 1].toNat] = true := List.all_eq_true.1 hok _ (List.getElem_mem hy)
      obtain ⟨haA, hwx⟩ := Rds.w h4 hx
      obtain ⟨_, hwy⟩ := Rds.w h4 hy
      have ex : shareAt l (a.getD k 0) = shareW l[a[k].toNat] := by simp [shareAt, hx, show k < a.length by omega]
      have ey : shareAt l (a.getD (k + 1) 0) = shareW l[a[k + 1].toNat] := by simp [shareAt, hy, hlt']
      have hdesc := hR.desc k hlt'
      rw [ex, ey] at hdesc
      simp only [e1, Int.toNat_natCast]
      refine ⟨by kernel_rfl, by unfold inI64; omega, ⟨ha1, by omega, by omega⟩, _, hrx, ⟨haA, hx0, by omega⟩, _, _, hwx, ?_⟩
      refine vcCallX_E _ rfl (share_any _ _ okx) ?_
      simp only [go_sem]
      refine ⟨⟨ha1, by omega, by omega⟩, _, hry, ⟨haA, hy0, by omega⟩, _, _, hwy, ?_⟩
      refine vcCallX_E _ rfl (share_any _ _ oky) ?_
      simp only [go_sem]
      refine ⟨fun hbad => ?_, fun hgood => ⟨by unfold inI64; omega, ⟨k + 1 + 1, by omega, .inl (by omega)⟩, ?_, ?_⟩⟩
      · have hb : (Ieee.double.order (shareW l[a[k].toNat]) (shareW l[a[k + 1].toNat]) == some .lt) = true := hbad
        rw [hdesc] at hb; cases hb
      · simp only []; omega
      · exact incl_take 0 rfl (by simp only [go_sem] <;> simp) (by simp only [go_sem]) (by simp only [go_sem])
    · have hzz4 : Z.le Z4 := Heap.le.trans hzz (Heap.le.trans hz3 hz4)
      refine ⟨fun hn => hzz4, fun hle => ?_⟩
      have hle' : (Ieee.double.order t1 t2 == some .lt || Ieee.double.order t1 t2 == some .eq) = true := by
        have : (!(Ieee.double.order t1 t2 == some .lt || Ieee.double.order t1 t2 == some .eq)) = false := hle
        generalize (Ieee.double.order t1 t2 == some .lt || Ieee.double.order t1 t2 == some .eq) = q at this ⊢
        cases q
        · cases this
        · rfl
      obtain ⟨p1, p2⟩ := hR.pre hle'
      refine ⟨fun hlen => ?_, fun hlen => ?_⟩
      · refine ⟨⟨by omega, by omega⟩, ?_⟩
        have ht : Rds Z4 A1 0 (icells bb) := by
          rw [← p2, icells_take]
          intro j v hv
          rw [List.getElem?_take] at hv
          split at hv
          · exact hr1' j v hv
          · cases hv
        refine vcCall_E _ rfl (equal_any Z4 A1 A2 bb bb cap1 cap2 ht hr2 hlb hlb) ?_
        simp only [go_sem]
        exact hzz4
      · simp at hlen; omega
  · rw [if_neg hck] at hv1
    subst hv1
    simp only [go_sem]
    refine vcCall_H _ rfl (choose_any Z3 A l cp t2 h3) ?_
    intro v2 Z4 hz4 hv2
    unfold chosen at hv2
    rw [if_neg hck] at hv2
    subst hv2
    simp only [go_sem]
    refine ⟨fun _ => ⟨by unfold inI64; omega, Heap.le.trans hzz (Heap.le.trans hz3 hz4), by simp⟩, fun hc => ?_⟩
    simp [hck] at hc
end Go.Proofs.Yteanjjdgmjdfiaa
