/- waste.Check: a list of wastes, as it lies in memory; what Check tells of it. -/
import Derived.Test.YteanjjdgmjdfiaaTy
namespace Go.Proofs.Yteanjjdgmjdfiaa
open Go Go.SX

/-- the cells of a list of wastes -/
def wcells (l : List (Int × Int)) : List Value := l.flatMap fun x => [.int .i64 x.1, .int .i64 x.2]
def wOk (x : Int × Int) : Bool := !(decide (x.1 < 0) || decide (1099511627776 < x.1) || decide (x.2 < 0) || decide (x.1 < x.2))
def checkP (l : List (Int × Int)) : Int := if l.length > 100 then 2 else if l.all wOk then 0 else 1


theorem wcells_len (l : List (Int × Int)) : (wcells l).length = l.length * 2 := by
  induction l with
  | nil => rfl
  | cons x l ih => simp [wcells] at ih ⊢; omega
theorem wcells_get (l : List (Int × Int)) (k : Nat) (h : k < l.length) : ∀ (j : Nat) (v : Value), [Value.int .i64 l[k].1, .int .i64 l[k].2][j]? = some v → (wcells l)[k * 2 + j]? = some v := by
  induction l generalizing k with
  | nil => simp at h
  | cons x l ih =>
    intro j v hv
    cases k with
    | zero => match j, hv with
      | 0, hv => simpa [wcells] using hv
      | 1, hv => simpa [wcells] using hv
      | j + 2, hv => simp at hv
    | succ k =>
      have := ih k (by simpa using h) j v (by simpa using hv)
      rw [show (k + 1) * 2 + j = (k * 2 + j) + 2 by omega]
      simpa [wcells] using this
theorem Rds.w {Z : Heap} {A : Option Addr} {l : List (Int × Int)} (h : Rds Z A 0 (wcells l)) {k : Nat} (hk : k < l.length) :
    A.isSome = true ∧ Rds Z A (k * 2) [.int .i64 l[k].1, .int .i64 l[k].2] := by
  have h2 : Rds Z A (k * 2) [.int .i64 l[k].1, .int .i64 l[k].2] := fun j v hv => by
    have := h _ _ (wcells_get l k hk j v hv)
    rwa [Nat.zero_add] at this
  refine ⟨?_, h2⟩
  have := h2 0 _ rfl
  cases A with
  | none => simp [rd] at this
  | some a => rfl

set_option maxRecDepth 10000 in
theorem check_any (Z : Heap) (A : Option Addr) (l : List (Int × Int)) (c : Nat) (h : Rds Z A 0 (wcells l)) :
    FnE Try.prog 12 [.slice A l.length c] Z (.int .i64 (checkP l)) := by
  refine fnV_intro Try.func12 rfl (Nat.le_of_ble_eq_true rfl) ?_
  simp only [go_sem]
  refine ⟨fun hb => ?_, fun hb => ?_⟩
  · simp only [decide_eq_true_eq] at hb
    simp [checkP]; omega
  · simp only [decide_eq_false_iff_not] at hb
    have hl : l.length ≤ 100 := by omega
    refine vcLoop_intro (ι := {k : Nat // k ≤ l.length ∧ (l.take k).all wOk = true})
      (fun k => ⟨[(10, .val (.int .i64 k.1)), (9, .val (.int .i64 l.length)), (8, .val (.slice A l.length c))], [], Z⟩)
      (fun k => l.length - k.1) ⟨0, by simp⟩ (incl_of (by simp only [go_sem]; simp)) ?_
    rintro ⟨k, hk, hall⟩
    simp only [go_sem]
    refine ⟨fun hlt => ?_, fun hge => ?_⟩
    · have hlt' : k < l.length := by simpa using hlt
      obtain ⟨ha, hr⟩ := Rds.w h hlt'
      refine ⟨⟨ha, by omega, by omega⟩, _, _, hr, fun b => ⟨fun hbad => ?_, fun hok => ⟨by unfold inI64; omega, ⟨k + 1, by omega, ?_⟩, ?_, ?_⟩⟩⟩
      · have : wOk l[k] = false := by simp only [wOk, hbad]; rfl
        have : l.all wOk = false := by
          rw [List.all_eq_false]
          exact ⟨l[k], List.getElem_mem hlt', by simp [this]⟩
        simp only [checkP, this]
        simp; omega
      · rw [List.take_succ_eq_append_getElem hlt', List.all_append, hall]
        simp only [List.all_cons, List.all_nil, wOk, hok]; rfl
      · simp only []; omega
      · exact incl_take 0 rfl (by simp only [go_sem]; simp) (by simp only [go_sem]) (by simp only [go_sem])
    · have hk' : k = l.length := by
        have : ¬ k < l.length := by simpa using hge
        omega
      subst hk'
      rw [List.take_length] at hall
      simp only [checkP, hall]
      simp; omega
end Go.Proofs.Yteanjjdgmjdfiaa
