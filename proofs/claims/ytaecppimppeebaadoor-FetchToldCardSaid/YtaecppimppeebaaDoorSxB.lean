/- A small layer for proofs about calls, part 11: regions whose order is fixed. -/
import Derived.Test.YtaecppimppeebaaDoorSxA
namespace Go.SX
open Go

def lookConv : Option TypeDesc → Bool
  | some (.slice _) => false
  | _ => true
def isLook (P : Program) : Op → Bool
  | .convert _ d _ => lookConv (P.underlying d)
  | .move _ | .assign _ | .pick .. | .load .. | .binOp .. | .unOp .. | .sliceToArrayPointer .. | .fieldAddr .. | .field .. | .indexAddr .. | .index .. | .slice .. | .extract .. | .makeFunc .. | .nilCheck _ | .build .. | .lookup .. => true
  | .call c => match c.callee with
    | .builtin .len | .builtin .min | .builtin .max => true
    | _ => false
  | _ => false

/-- under which Bool the operation runs -/
def guardV (want : Bool) (x : SV) : Option (Option Bool) :=
  match x with
  | .val (.bool b) => some (some (bif want then b else !b))
  | .cnd g (.val (.bool b)) => some (some (g && (bif want then b else !b)))
  | _ => none
def guardD (F : Fr) (want : Bool) (d : Option Nat) : Option (Option Bool) :=
  match d with
  | some d => guardV want (F.get d)
  | none => none
def dstAt (ops : List Oper) (j : Nat) : Option Nat := (ops[j]?).bind (·.dst)
def guardG (ops : List Oper) (F : Fr) (g : Option (Nat × Bool)) : Option (Option Bool) :=
  match g with
  | none => some none
  | some (j, want) => guardD F want (dstAt ops j)
def guardOf (ops : List Oper) (F : Fr) (o : Oper) : Option (Option Bool) := guardG ops F o.guard

def kCnd (N : Nat) (G : Bool) (dst : Option Nat) (s : SS) (K : SS → Prop) (x : SV) : Prop := kPut N dst s K (.cnd G x)
def vcOpL (P : Program) (N : Nat) (o : Oper) (s : SS) (K : SS → Prop) (look : Bool) : Prop :=
  match look with
  | true => pv P s.F s.M s.Z True o.op (kPut N o.dst s K)
  | false => vcStep P N o s K
def vcOpC (P : Program) (N : Nat) (o : Oper) (s : SS) (K : SS → Prop) (G : Bool) (look : Bool) : Prop :=
  match look with
  | true => pv P s.F s.M s.Z (G = true) o.op (kCnd N G o.dst s K)
  | false => (G = true → vcStep P N o s K) ∧ (G = false → kPut N o.dst s K .any)
def vcOpG (P : Program) (N : Nat) (o : Oper) (s : SS) (K : SS → Prop) (g : Option (Option Bool)) : Prop :=
  match g with
  | none => False
  | some none => vcOpL P N o s K (isLook P o.op)
  | some (some G) => vcOpC P N o s K G (isLook P o.op)
def vcOps (P : Program) (N : Nat) (ops : List Oper) (K : SS → Prop) : List Oper → SS → Prop
  | [], s => K s
  | o :: r, s => vcOpG P N o s (vcOps P N ops K r) (guardOf ops s.F o)

/-- how a piece of code may leave -/
abbrev Out := Exit → SS → Prop
def Out.wpQ (E : Env) (N : Nat) (Q : Out) : Exit → Act → World → Prop := fun e a w => ∃ s, Rel E N s a w ∧ Q e s

theorem wanted_none {o : Oper} (h : o.guard = none) (y : Nat → Option Bool) : Region.wanted o y = true := by simp [Region.wanted, h]

theorem guard_sound {ops : List Oper} {M : List Res} {N : Nat} {F : Fr} {o : Oper} {G : Option Bool} (h : guardOf ops F o = some G) {a : Act} (hF : FrameOk M N F a.tmps) :
    Region.wanted o (yielded ops.toArray a.tmps) = (match G with | none => true | some g => g) ∨ (∃ d, ∃ j want, o.guard = some (j, want) ∧ (ops[j]?).bind (·.dst) = some d ∧ a.tmps[d]? = none) := by
  unfold guardOf guardG guardD guardV dstAt at h
  split at h
  · rename_i hg; cases h; exact .inl (wanted_none hg _)
  · rename_i j want hg
    split at h
    · rename_i d hd
      cases ht : a.tmps[d]? with
      | none => exact .inr ⟨d, j, want, hg, hd, ht⟩
      | some v =>
        left
        have hv := hF.get d
        have hgd : a.tmps.getD d undef = v := by simp [Array.getD_eq_getD_getElem?, ht]
        rw [hgd] at hv
        split at h
        · rename_i b hb
          cases h
          rw [hb] at hv
          simp only [has] at hv
          subst hv
          simp only [Region.wanted, hg, yielded, List.getElem?_toArray, hd, Option.bind_some, ht]
          cases want <;> cases b <;> rfl
        · rename_i g b hb
          cases h
          rw [hb] at hv
          simp only [has] at hv
          simp only [Region.wanted, hg, yielded, List.getElem?_toArray, hd, Option.bind_some, ht]
          cases g with
          | true => have := hv.1 rfl; subst this; cases want <;> cases b <;> rfl
          | false => have := hv.2 rfl; subst this; cases want <;> rfl
        · cases h
    · cases h

/-- a temporary of the region lies in the frame -/
def dstsIn (N : Nat) (ops : List Oper) : Prop := ∀ (j : Nat) (o : Oper) (d : Nat), ops[j]? = some o → o.dst = some d → d < N

theorem guard_sound' {ops : List Oper} {M : List Res} {N : Nat} {F : Fr} {o : Oper} {G : Option Bool} (h : guardOf ops F o = some G) {a : Act} (hF : FrameOk M N F a.tmps) (hN : dstsIn N ops) :
    Region.wanted o (yielded ops.toArray a.tmps) = (match G with | none => true | some g => g) := by
  rcases guard_sound h hF with h1 | ⟨d, j, want, hg, hd, ht⟩
  · exact h1
  · exfalso
    rw [Option.bind_eq_some_iff] at hd
    obtain ⟨oj, hj, hd⟩ := hd
    have := hN j oj d hj hd
    rw [Array.getElem?_eq_none_iff] at ht
    have := hF.1
    omega

theorem mono_raw {P : Program} {o : Oper} {a : Act} {w : World} {X X' : Act → World → Prop} {Q Q' : Exit → Act → World → Prop} (h : o.wp P a w X Q) (hX : ∀ a w, X a w → X' a w) (hQ : ∀ e a w, Q e a w → Q' e a w) (hno : ∀ a w, ¬ Q .outgrown a w) : o.wp P a w X' Q' := by
  unfold Oper.wp at h ⊢
  cases hr : (execOp a.eval o).run P w with
  | ok n w' =>
    rw [hr] at h
    cases n <;> first | exact hX _ _ h | exact h.elim | skip
    · simp only [Oper.upon_enter] at h ⊢
      refine h.mono fun e w2 h2 => ?_
      cases e with
      | returned v => exact hX _ _ h2
      | panicked c => exact hQ _ _ _ h2
      | outgrown => obtain ⟨a0, w0, h0⟩ := h2; exact absurd h0 (hno a0 w0)
    · simp only [Oper.upon_row] at h ⊢
      exact h.mono fun v w2 h2 => hX _ _ h2
  | halt hh w' =>
    rw [hr] at h
    cases hh <;> first | exact hQ _ _ _ h | exact h.elim

theorem vcOps_sound {P : Program} {N : Nat} {ops : List Oper} {Q : Exit → Act → World → Prop} (hN : dstsIn N ops) {K : SS → Prop} : ∀ {l : List Oper} {s : SS}, vcOps P N ops K l s →
    ∀ {E : Env} {a : Act} {w : World}, Rel E N s a w → (∀ s' a' w', Rel E N s' a' w' → K s' → Q .normal a' w') → wpList P ops.toArray Q l a w
  | [], s, h, E, a, w, hr, hQ => hQ s a w hr h
  | o :: r, s, h, E, a, w, hr, hQ => by
    unfold vcOps vcOpG vcOpL vcOpC at h
    have step : ∀ {s1 : SS} {a1 : Act} {w1 : World}, Rel E N s1 a1 w1 → vcOps P N ops K r s1 → wpList P ops.toArray Q r a1 w1 := fun hr1 h1 => vcOps_sound hN h1 hr1 hQ
    have look : ∀ {G : Prop} {c : SV → SV}, (∀ (x : SV) (v : Value), has s.M x v → has s.M (c x) v) → G → pv P s.F s.M s.Z G o.op (fun x => kPut N o.dst s (vcOps P N ops K r) (c x)) →
        o.wp P a w (wpList P ops.toArray Q r) Q := by
      intro G c hc g hp
      obtain ⟨x, hk, hx⟩ := pv_sound hp
      obtain ⟨v, hrun, hv⟩ := hx E N a w hr.frame hr.mem g
      obtain ⟨s', h1, h2⟩ := rel_put (K := vcOps P N ops K r) hr.frame hr.defers hr.mem (d := o.dst) (hc x v hv) hk
      rw [Oper.wp, hrun, Oper.upon_value]
      exact step h1 h2
    have act : vcStep P N o s (vcOps P N ops K r) → o.wp P a w (wpList P ops.toArray Q r) Q := by
      intro hs
      exact mono_raw (vcStep_sound hs E a w hr) (fun a1 w1 ⟨s1, h1, h2⟩ => step h1 h2) (fun _ _ _ f => f.elim) (fun _ _ f => f)
    split at h
    · exact h.elim
    · rename_i hg
      have hw := guard_sound' hg hr.frame hN
      simp only at hw
      unfold wpList
      rw [if_pos hw]
      left
      split at h
      · exact look (c := fun x => x) (fun _ _ e => e) trivial h
      · exact act h
    · rename_i G hg
      have hw := guard_sound' hg hr.frame hN
      simp only at hw
      unfold wpList
      split at h
      · cases G with
        | true =>
          rw [if_pos hw]
          left
          exact look (c := fun x => .cnd true x) (fun x v e => ⟨fun _ => e, fun f => (Bool.false_ne_true f.symm).elim⟩) rfl h
        | false =>
          rw [if_neg (by rw [hw]; simp)]
          obtain ⟨x, hk, _⟩ := pv_sound h
          obtain ⟨s', h1, h2⟩ := rel_put (K := vcOps P N ops K r) hr.frame hr.defers hr.mem (d := o.dst) (x := .cnd false x) (v := undef) ⟨fun f => (Bool.false_ne_true f).elim, fun _ => rfl⟩ hk
          exact step h1 h2
      · cases G with
        | true =>
          rw [if_pos hw]
          left
          exact act (h.1 rfl)
        | false =>
          rw [if_neg (by rw [hw]; simp)]
          obtain ⟨s', h1, h2⟩ := rel_put (K := vcOps P N ops K r) hr.frame hr.defers hr.mem (d := o.dst) (x := .any) (v := undef) trivial (h.2 rfl)
          exact step h1 h2

end Go.SX
