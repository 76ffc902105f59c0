/- WasteRanks answers true for every input: packs, two thresholds; no condition. -/
import Derived.Test.YteanjjdgmjdfiaaWa9
import Derived.Test.YteanjjdgmjdfiaaSxR
import Derived.Test.YteanjjdgmjdfiaaRows
namespace Go.Proofs.Yteanjjdgmjdfiaa
open Go Go.SX Go.WideShapes Go.ChangeShapes Go.ChangeAt Go.RowKit

theorem law_own : ownKnob Try.checked.prog.godebug = none := by kernel_rfl
theorem law_laid : laidOutB Try.checked.prog = true := by kernel_rfl

/-- the waste of some packs, as an argument -/
theorem opens_waste {H : Type} {enc : TypeId × Value → H} {W : World} : Opens enc Try.prog W 22 (SliceD.cells (α := Int × Int)) (fun s => Rds (heapOf W) s.A 0 (wcells s.l)) := by
  refine (opens_slice 2 (e := 29) (f := fun x : Int × Int => [Value.int .i64 x.1, .int .i64 x.2]) (Q := fun _ => True) (by kernel_rfl) (by kernel_rfl) (fun _ => rfl) ?_).conv id (fun _ => rfl) (fun s h => h.1)
  exact (opens_struct (N := 2) Try.underlying29 (by kernel_rfl) (opensF_cons 1 rfl (by kernel_rfl) (opens_int (by kernel_rfl)) (opensF_cons 1 rfl (by kernel_rfl) (opens_int (by kernel_rfl)) opensF_nil))).conv
    (fun x => (x.1, x.2.1)) (fun _ => rfl) (fun _ _ => trivial)

set_option maxRecDepth 100000 in
theorem wasteRanks_lifted (os : Os) (started : os.Started) (H : Type) (enc : TypeId × Value → H) :
    ReturnsInHanded {} Try.checked os 3 .any (Rows.wasteRanksSpec.pre6 enc Try.prog Try.f3 Rows.wasteRanksRow.domain false) (Rows.wasteRanksSpec.post enc Try.prog Try.f3 false true false false) := by
  refine law_lifted (C := Try.checked) (tb := 4) law_own started (by kernel_rfl) Try.func3
    (ChangeSpec.witness6 (enc := enc) (C := Try.checked) false ⟨#[], #[.slice none 0 0, .float .f64 0, .float .f64 0], []⟩ 8 (by kernel_rfl) (by kernel_rfl) (by kernel_rfl) (by kernel_rfl))
    law_laid rfl (by kernel_rfl) (by kernel_rfl) (fun ds h => ?_) (of_decide_eq_true (by kernel_rfl)) ?_
  · have h3 : ds.length = 3 := h
    match ds, h3 with
    | [a, b, c], _ => rfl
  · intro W base args ds ps hval0 hA0 _
    have hval : ∀ (j : Nat) t v, Try.f3.params[j]? = some t → args[j]? = some v → Value.okWide Try.prog W .any base t v := hval0
    have hA : DataW.TrodAll enc Try.checked.prog W 0 (fun _ => true) true Try.f3.params.toList args.toList ds ps := hA0
    obtain ⟨l⟩ := args
    rw [Try.params3] at hA hval
    obtain ⟨v0, vs0, d0, ds0, p0, q0, rfl, rfl, rfl, h0, r0⟩ := trodAll_cons hA
    obtain ⟨v1, vs1, d1, ds1, p1, q1, rfl, rfl, rfl, h1, r1⟩ := trodAll_cons r0
    obtain ⟨v2, vs2, d2, ds2, p2, q2, rfl, rfl, rfl, h2, r2⟩ := trodAll_cons r1
    obtain ⟨rfl, rfl, rfl⟩ := trodAll_nil r2
    obtain ⟨s, rfl, hs⟩ := arg_slice (e := 29) (by kernel_rfl) (hval 0 _ v0 rfl rfl) opens_waste h0
    obtain ⟨t1, rfl, _⟩ := arg_float (k := .f64) (by kernel_rfl) (hval 1 _ v1 rfl rfl) h1
    obtain ⟨t2, rfl, _⟩ := arg_float (k := .f64) (by kernel_rfl) (hval 2 _ v2 rfl rfl) h2
    exact wasteRanks_any _ s.A s.l s.cap t1 t2 hs

theorem wasteRanks_holds : Rows.WasteRanksSaid :=
  OpenClaim.holds_of_wide 3 Try.f3 rfl rfl rfl rfl rfl rfl rfl ⟨rfl, rfl, rfl, rfl, rfl⟩ rfl rfl rfl rfl rfl (by kernel_rfl) Try.func3 (by kernel_rfl)
    (of_decide_eq_true (by kernel_rfl)) (by unfold Func.isWrapper; rw [if_neg (of_decide_eq_false (by kernel_rfl))]; exact ⟨rfl, rfl⟩)
    (fun os started H enc _ => wasteRanks_lifted os started H enc)
end Go.Proofs.Yteanjjdgmjdfiaa
