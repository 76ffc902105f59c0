/- WasteEnds answers true for every input: packs; no condition. -/
import Derived.Test.YteanjjdgmjdfiaaWaE
import Derived.Test.YteanjjdgmjdfiaaLa1
namespace Go.Proofs.Yteanjjdgmjdfiaa
open Go Go.SX Go.WideShapes Go.ChangeShapes Go.ChangeAt Go.RowKit

set_option maxRecDepth 100000 in
theorem wasteEnds_lifted (os : Os) (started : os.Started) (H : Type) (enc : TypeId × Value → H) :
    ReturnsInHanded {} Try.checked os 4 .any (Rows.wasteEndsSpec.pre6 enc Try.prog Try.f4 Rows.wasteEndsRow.domain false) (Rows.wasteEndsSpec.post enc Try.prog Try.f4 false true false false) := by
  refine law_lifted (C := Try.checked) (tb := 4) law_own started (by kernel_rfl) Try.func4
    (ChangeSpec.witness6 (enc := enc) (C := Try.checked) false ⟨#[], #[.slice none 0 0], []⟩ 8 (by kernel_rfl) (by kernel_rfl) (by kernel_rfl) (by kernel_rfl))
    law_laid rfl (by kernel_rfl) (by kernel_rfl) (fun ds h => ?_) (of_decide_eq_true (by kernel_rfl)) ?_
  · have h1 : ds.length = 1 := h
    match ds, h1 with
    | [a], _ => rfl
  · intro W base args ds ps hval0 hA0 _
    have hval : ∀ (j : Nat) t v, Try.f4.params[j]? = some t → args[j]? = some v → Value.okWide Try.prog W .any base t v := hval0
    have hA : DataW.TrodAll enc Try.checked.prog W 0 (fun _ => true) true Try.f4.params.toList args.toList ds ps := hA0
    obtain ⟨l⟩ := args
    rw [Try.params4] at hA hval
    obtain ⟨v0, vs0, d0, ds0, p0, q0, rfl, rfl, rfl, h0, r0⟩ := trodAll_cons hA
    obtain ⟨rfl, rfl, rfl⟩ := trodAll_nil r0
    obtain ⟨s, rfl, hs⟩ := arg_slice (e := 29) (by kernel_rfl) (hval 0 _ v0 rfl rfl) opens_waste h0
    exact wasteEnds_any _ s.A s.l s.cap hs

theorem wasteEnds_holds : Rows.WasteEndsSaid :=
  OpenClaim.holds_of_wide 4 Try.f4 rfl rfl rfl rfl rfl rfl rfl ⟨rfl, rfl, rfl, rfl, rfl⟩ rfl rfl rfl rfl rfl (by kernel_rfl) Try.func4 (by kernel_rfl)
    (of_decide_eq_true (by kernel_rfl)) (by unfold Func.isWrapper; rw [if_neg (of_decide_eq_false (by kernel_rfl))]; exact ⟨rfl, rfl⟩)
    (fun os started H enc _ => wasteEnds_lifted os started H enc)
end Go.Proofs.Yteanjjdgmjdfiaa
