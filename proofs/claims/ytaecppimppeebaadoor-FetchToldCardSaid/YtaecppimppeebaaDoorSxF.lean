/- A small layer for proofs about calls, part 11c: code and loops. -/
import Derived.Test.YtaecppimppeebaaDoorSxG
namespace Go.SX
open Go

/-! ## code -/
def vcLoop (P : Program) (N : Nat) (c : Code) (Q : Out) (s : SS) : Prop := ∀ E a w, Rel E N s a w → (Code.loop c).wp P (Q.wpQ E N) a w
def vcOther (P : Program) (N : Nat) (c : Code) (Q : Out) (s : SS) : Prop := ∀ E a w, Rel E N s a w → c.wp P (Q.wpQ E N) a w

def Out.then (K : SS → Prop) (Q : Out) : Out
  | .normal, s => K s
  | .exit i, s => Q (.exit i) s
  | .goto i, s => Q (.goto i) s
  | .ret, s => Q .ret s
  | .panic c, s => Q (.panic c) s
  | .outgrown, s => Q .outgrown s
def Out.exitB (Q : Out) (i : Nat) (s : SS) (b : Bool) : Prop :=
  match b with
  | true => Q .normal s
  | false => Q (.exit i) s
def Out.block (id : Nat) (Q : Out) : Out
  | .exit i, s => Q.exitB i s (i == id)
  | .normal, s => Q .normal s
  | .goto i, s => Q (.goto i) s
  | .ret, s => Q .ret s
  | .panic c, s => Q (.panic c) s
  | .outgrown, s => Q .outgrown s
def vcBr (thn els : SS → Prop) (s : SS) (x : SV) : Prop :=
  match x with
  | .val (.bool b) => (b = true → thn s) ∧ (b = false → els s)
  | _ => False

/-- a region whose order is fixed -/
def vcReg (P : Program) (N : Nat) (l : List Oper) (K : SS → Prop) (s : SS) (e : Bool) : Prop :=
  match e with
  | true => vcOpsE P N l (gIdx l) K 0 l s
  | false => vcOps P N l K l s

def vcCode (P : Program) (N : Nat) : Code → Out → SS → Prop
  | .skip, Q, s => Q .normal s
  | .label _, Q, s => Q .normal s
  | .ret, Q, s => Q .ret s
  | .exit id, Q, s => Q (.exit id) s
  | .region _ ops false, Q, s => dstsIn N ops.toList ∧ vcReg P N ops.toList (Q .normal) s (effG P ops.toList)
  | .region _ ops true, Q, s => vcDraw P N ops (Q .normal) s
  | .seq x y, Q, s => vcCode P N x (Out.then (vcCode P N y Q) Q) s
  | .cond c x y, Q, s => (ev s.F c).grd ∧ vcBr (vcCode P N x Q) (vcCode P N y Q) s (ev s.F c).core
  | .block id c, Q, s => vcCode P N c (Out.block id Q) s
  | .loop c, Q, s => vcLoop P N c Q s
  | c, Q, s => vcOther P N c Q s

theorem vcCode_sound {P : Program} {N : Nat} : ∀ {c : Code} {Q : Out} {s : SS}, vcCode P N c Q s → ∀ {E : Env} {a : Act} {w : World}, Rel E N s a w → c.wp P (Q.wpQ E N) a w
  | .skip, Q, s, h, E, a, w, hr => wp_skip ⟨s, hr, h⟩
  | .label _, Q, s, h, E, a, w, hr => wp_label ⟨s, hr, h⟩
  | .ret, Q, s, h, E, a, w, hr => wp_ret ⟨s, hr, h⟩
  | .exit _, Q, s, h, E, a, w, hr => wp_exit ⟨s, hr, h⟩
  | .region id ops false, Q, s, h, E, a, w, hr => by
    have h' : wpList P ops.toList.toArray (Q.wpQ E N) ops.toList a w := by
      obtain ⟨h1, h2⟩ := h
      unfold vcReg at h2
      split at h2
      · exact vcOpsE_sound (Q := Q.wpQ E N) h1 h2 hr (fun s' a' w' hr' hK => ⟨s', hr', hK⟩)
      · exact vcOps_sound (Q := Q.wpQ E N) h1 h2 hr (fun s' a' w' hr' hK => ⟨s', hr', hK⟩)
    refine wp_region_list ?_
    simpa using h'
  | .region id ops true, Q, s, h, E, a, w, hr => vcDraw_sound h hr (fun s' a' w' hr' hK => ⟨s', hr', hK⟩)
  | .seq x y, Q, s, h, E, a, w, hr => by
    refine wp_seq (Code.wp_mono ?_ (vcCode_sound (c := x) h hr))
    rintro e a' w' ⟨s', hr', hq⟩
    cases e with
    | normal => exact vcCode_sound (c := y) hq hr'
    | _ => exact ⟨s', hr', hq⟩
  | .cond c x y, Q, s, h, E, a, w, hr => by
    obtain ⟨hg, h⟩ := h
    have hv := has_core (ev_has hr.frame c) hg
    unfold vcBr at h
    split at h
    · rename_i b hb
      rw [hb] at hv
      simp only [has] at hv
      exact wp_cond_split hv.symm (fun e => vcCode_sound (h.1 e) hr) (fun e => vcCode_sound (h.2 e) hr)
    · exact h.elim
  | .block id c, Q, s, h, E, a, w, hr => by
    refine wp_block (Code.wp_mono ?_ (vcCode_sound (c := c) h hr))
    rintro e a' w' ⟨s', hr', hq⟩
    cases e with
    | exit i =>
      simp only [Out.block] at hq
      simp only [Exit.inBlock]
      split
      · rename_i hi; subst hi; simp only [beq_self_eq_true, Out.exitB] at hq; exact ⟨s', hr', hq⟩
      · rename_i hi
        have : (i == id) = false := by simpa using hi
        rw [this] at hq; exact ⟨s', hr', hq⟩
    | _ => exact ⟨s', hr', hq⟩
  | .loop c, Q, s, h, E, a, w, hr => h E a w hr
  | .rangeFunc _ _ _ _, Q, s, h, E, a, w, hr => h E a w hr
  | .scope _, Q, s, h, E, a, w, hr => h E a w hr
  | .goto _, Q, s, h, E, a, w, hr => h E a w hr
  | .refuse _, Q, s, h, E, a, w, hr => h E a w hr

/-- what is known may be forgotten -/
def Incl (N : Nat) (s s' : SS) : Prop := ∀ E a w, Rel E N s a w → Rel E N s' a w

/-- a round's end: the relation holds again, and the measure has gone down -/
def roundK (N : Nat) {ι : Type} (S : ι → SS) (μ : ι → Nat) (n : Nat) (s : SS) : Prop := ∃ j, μ j < n ∧ Incl N s (S j)


theorem vcLoop_intro {P : Program} {N : Nat} {c : Code} {s : SS} {Q : Out} {ι : Type} (S : ι → SS) (μ : ι → Nat) (i0 : ι) (h0 : Incl N s (S i0))
    (round : ∀ i, vcCode P N c (Out.then (roundK N S μ (μ i)) Q) (S i)) : vcLoop P N c Q s := by
  intro E a w hr b k cs
  have key : ∀ n i a w, μ i = n → Rel E N (S i) a w →
      ∃ e a' w', Q.wpQ E N e a' w' ∧ Arrives P (lone (b.at a (.code c :: .inLoop c :: k)) cs w) b k cs e a' w' := by
    intro n
    induction n using Nat.strongRecOn with
    | _ n ih =>
      intro i a w hn hi
      obtain ⟨e, a1, w1, ⟨s1, hr1, hq⟩, harr⟩ := vcCode_sound (round i) hi b (.inLoop c :: k) cs
      cases e with
      | normal =>
        obtain ⟨j, hlt, hincl⟩ := hq
        obtain ⟨e2, a2, w2, hq2, harr2⟩ := ih (μ j) (hn ▸ hlt) j a1 w1 rfl (hincl E a1 w1 hr1)
        exact ⟨e2, a2, w2, hq2, .of_steps (Steps.trans harr (.one step_inLoop)) harr2⟩
      | exit id => exact ⟨_, a1, w1, ⟨s1, hr1, hq⟩, .pass (x := .inLoop c) rfl (fun _ _ => .inl (by simp)) harr⟩
      | goto l => exact ⟨_, a1, w1, ⟨s1, hr1, hq⟩, .pass (x := .inLoop c) rfl (fun _ _ => .inl (by simp)) harr⟩
      | ret => exact ⟨_, a1, w1, ⟨s1, hr1, hq⟩, .pass (x := .inLoop c) rfl (fun _ _ => .inl (by simp)) harr⟩
      | panic ch => exact ⟨_, a1, w1, ⟨s1, hr1, hq⟩, .pass (x := .inLoop c) rfl (fun _ _ => .inl (by simp)) harr⟩
      | outgrown => exact ⟨_, a1, w1, ⟨s1, hr1, hq⟩, .pass (x := .inLoop c) rfl (fun _ _ => .inl (by simp)) harr⟩
  obtain ⟨e, a', w', hq, harr⟩ := key _ i0 a w rfl (h0 E a w hr)
  exact ⟨e, a', w', hq, .of_steps (.one step_loop) harr⟩

end Go.SX
