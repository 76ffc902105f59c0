/- A small layer for proofs about calls, part 11b2: regions whose guards are split; regions that draw their order. -/
import Derived.Test.YtaecppimppeebaaDoorSxH
namespace Go.SX
open Go

/-! ## guards are split -/
def gIdx1 (g : Option (Nat × Bool)) (l : List Nat) : List Nat :=
  match g with
  | none => l
  | some (j, _) => bif l.elem j then l else j :: l
def gIdx : List Oper → List Nat
  | [] => []
  | o :: r => gIdx1 o.guard (gIdx r)
def memN (k : Nat) : List Nat → Bool
  | [] => false
  | j :: r => bif k == j then true else memN k r
def effG1 (g : Option (Nat × Bool)) (look : Bool) : Bool :=
  match g with
  | none => false
  | some _ => !look
def effG (P : Program) : List Oper → Bool
  | [] => false
  | o :: r => bif effG1 o.guard (isLook P o.op) then true else effG P r

def kSpl (N : Nat) (dst : Option Nat) (s : SS) (K : SS → Prop) (x : SV) : Prop :=
  match x with
  | .val (.bool b) => (b = true → kPut N dst s K (.val (.bool true))) ∧ (b = false → kPut N dst s K (.val (.bool false)))
  | _ => False
def kSplit (N : Nat) (dst : Option Nat) (s : SS) (K : SS → Prop) (g : Bool) (x : SV) : Prop :=
  match g with
  | true => kSpl N dst s K x
  | false => kPut N dst s K x
def vcPickE (c a b : SV) (k : SV → Prop) : Prop :=
  match c with
  | .val (.bool true) => k a
  | .val (.bool false) => k b
  | _ => False
def vcLookE (P : Program) (F : Fr) (M : List Res) (Z : Heap) (op : Op) (k : SV → Prop) : Prop :=
  match op with
  | .pick c a b => vcPickE (ev F c) (ev F a) (ev F b) k
  | op => pv P F M Z True op k
theorem vcLookE_sound {P : Program} {F : Fr} {M : List Res} {Z : Heap} {o : Oper} {k : SV → Prop} (h : vcLookE P F M Z o.op k) :
    ∃ r, k r ∧ ∀ (E : Env) (N : Nat) (a : Act) (w : World), FrameOk M N F a.tmps → Mem E M Z w → ∃ x, (execOp a.eval o).run P w = .ok (.value x) w ∧ has M r x := by
  unfold vcLookE at h
  split at h
  · rename_i c x y hop
    unfold vcPickE at h
    split at h
    · rename_i hc
      refine ⟨_, h, fun E N a w hF hm => ⟨a.eval x, ?_, ev_has hF x⟩⟩
      have e := ev_has hF c
      rw [hc] at e
      simp only [has] at e
      simp [execOp, hop, ← e, asBool]
    · rename_i hc
      refine ⟨_, h, fun E N a w hF hm => ⟨a.eval y, ?_, ev_has hF y⟩⟩
      have e := ev_has hF c
      rw [hc] at e
      simp only [has] at e
      simp [execOp, hop, ← e, asBool]
    · exact h.elim
  · obtain ⟨r, h1, h2⟩ := pv_sound h
    exact ⟨r, h1, fun E N a w hF hm => h2 E N a w hF hm trivial⟩

theorem kSplit_put {N : Nat} {dst : Option Nat} {s : SS} {K : SS → Prop} {g : Bool} {x : SV} (h : kSplit N dst s K g x) {v : Value} {M : List Res} (hx : has M x v) : ∃ x', has M x' v ∧ kPut N dst s K x' := by
  unfold kSplit kSpl at h
  split at h
  · split at h
    · rename_i b
      simp only [has] at hx
      cases b with
      | true => exact ⟨.val (.bool true), hx, h.1 rfl⟩
      | false => exact ⟨.val (.bool false), hx, h.2 rfl⟩
    · exact h.elim
  · exact ⟨x, hx, h⟩

def vcOpE1 (P : Program) (N : Nat) (o : Oper) (s : SS) (K : SS → Prop) (g look : Bool) : Prop :=
  match look with
  | true => vcLookE P s.F s.M s.Z o.op (kSplit N o.dst s K g)
  | false => vcStep P N o s K
def vcOpE (P : Program) (N : Nat) (o : Oper) (s : SS) (K : SS → Prop) (g : Bool) (G : Option (Option Bool)) : Prop :=
  match G with
  | none => False
  | some none => vcOpE1 P N o s K g (isLook P o.op)
  | some (some true) => vcOpE1 P N o s K g (isLook P o.op)
  | some (some false) => kPut N o.dst s K (.cnd false (.val (.bool false)))
def vcOpsE (P : Program) (N : Nat) (ops : List Oper) (gs : List Nat) (K : SS → Prop) : Nat → List Oper → SS → Prop
  | _, [], s => K s
  | k, o :: r, s => vcOpE P N o s (vcOpsE P N ops gs K (k + 1) r) (memN k gs) (guardOf ops s.F o)

theorem vcOpsE_sound {P : Program} {N : Nat} {ops : List Oper} {gs : List Nat} {Q : Exit → Act → World → Prop} (hN : dstsIn N ops) {K : SS → Prop} : ∀ {l : List Oper} {k : Nat} {s : SS}, vcOpsE P N ops gs K k l s →
    ∀ {E : Env} {a : Act} {w : World}, Rel E N s a w → (∀ s' a' w', Rel E N s' a' w' → K s' → Q .normal a' w') → wpList P ops.toArray Q l a w
  | [], _, s, h, E, a, w, hr, hQ => hQ s a w hr h
  | o :: r, k, s, h, E, a, w, hr, hQ => by
    unfold vcOpsE vcOpE at h
    have step : ∀ {s1 : SS} {a1 : Act} {w1 : World}, Rel E N s1 a1 w1 → vcOpsE P N ops gs K (k + 1) r s1 → wpList P ops.toArray Q r a1 w1 := fun hr1 h1 => vcOpsE_sound hN h1 hr1 hQ
    have run : vcOpE1 P N o s (vcOpsE P N ops gs K (k + 1) r) (memN k gs) (isLook P o.op) → o.wp P a w (wpList P ops.toArray Q r) Q := by
      intro h
      unfold vcOpE1 at h
      split at h
      · obtain ⟨x, hk, hx⟩ := vcLookE_sound h
        obtain ⟨v, hrun, hv⟩ := hx E N a w hr.frame hr.mem
        obtain ⟨x', hx', hp⟩ := kSplit_put hk hv
        obtain ⟨s', h1, h2⟩ := rel_put (K := vcOpsE P N ops gs K (k + 1) r) hr.frame hr.defers hr.mem (d := o.dst) hx' hp
        rw [Oper.wp, hrun, Oper.upon_value]
        exact step h1 h2
      · exact mono_raw (vcStep_sound h E a w hr) (fun a1 w1 ⟨s1, h1, h2⟩ => step h1 h2) (fun _ _ _ f => f.elim) (fun _ _ f => f)
    split at h
    · exact h.elim
    · rename_i hg
      have hw := guard_sound' hg hr.frame hN
      simp only at hw
      unfold wpList
      rw [if_pos hw]
      exact .inl (run h)
    · rename_i hg
      have hw := guard_sound' hg hr.frame hN
      simp only at hw
      unfold wpList
      rw [if_pos hw]
      exact .inl (run h)
    · rename_i hg
      have hw := guard_sound' hg hr.frame hN
      simp only at hw
      unfold wpList
      rw [if_neg (by rw [hw]; simp)]
      obtain ⟨s', h1, h2⟩ := rel_put (K := vcOpsE P N ops gs K (k + 1) r) hr.frame hr.defers hr.mem (d := o.dst) (x := .cnd false (.val (.bool false))) (v := undef) ⟨fun f => (Bool.false_ne_true f).elim, fun _ => rfl⟩ h
      exact step h1 h2

/-! ## an order that is drawn -/
def wlOp : Op → Bool
  | .move _ | .assign _ | .binOp .. => true
  | _ => false
def wrOp : Op → Bool
  | .store .. => true
  | _ => false
def wlIs (o : Option Oper) : Bool :=
  match o with
  | some o => wlOp o.op
  | none => false
def wrIs (o : Option Oper) : Bool :=
  match o with
  | some o => wrOp o.op
  | none => false
def wlAt (ops : Array Oper) (k : Nat) : Bool := wlIs ops[k]?
def wrAt (ops : Array Oper) (k : Nat) : Bool := wrIs ops[k]?
theorem wl_wr (ops : Array Oper) (k : Nat) (h : wlAt ops k = true) : wrAt ops k = false := by
  unfold wlAt wrAt wlIs wrIs at *
  split
  · rename_i o ho
    rw [ho] at h
    simp only at h
    unfold wlOp at h
    split at h <;> first | (rename_i e; rw [e]; rfl) | (rename_i e _; rw [e]; rfl) | (rename_i e _ _ _ ; rw [e]; rfl) | cases h | skip
    all_goals (unfold wrOp; split <;> simp_all)
  · rfl

def kKn (k : SV → Prop) (x : SV) : Prop := x.known = true ∧ k x
/-- a call that tells just one value and leaves what is known as it is -/
def vcCallX (P : Program) (g : FuncId) (args : List SV) (s : SS) (k : SV → Prop) : Prop :=
  ∃ r, (∀ (E : Env) (w : World) (vs : List Value), denL s.M args = some vs → Mem E s.M s.Z w → Calls P g vs.toArray w fun e w' => e = .returned r ∧ Kept w (fun _ => False) w') ∧ k (.val r)
def vcDrG (P : Program) (g : FuncId) (args : List SV) (s : SS) (k : SV → Prop) (e : Option (Array Value → Sem Value)) : Prop :=
  match e with
  | some e => extK P e s.M args k
  | none => canCall P g ∧ vcCallX P g args s k
def vcDrF (P : Program) (args : List Operand) (s : SS) (k : SV → Prop) (f : SV) : Prop :=
  match f with
  | .val (.func (.func g) ⟨[]⟩ ⟨cap⟩) => vcDrG P g (cores s.F args ++ cap.map .val) s k (extOf P g)
  | .fn (.func g) cap => vcDrG P g (cores s.F args ++ cap) s k (extOf P g)
  | _ => False
def vcDrC (P : Program) (op : Op) (args : List Operand) (s : SS) (k : SV → Prop) (c : Callee) : Prop :=
  match c with
  | .value f => (ev s.F f).grd ∧ grdAll s.F args ∧ (cores s.F args).all SV.known = true ∧ vcDrF P args s k (ev s.F f).core
  | _ => vcLookE P s.F s.M s.Z op (kKn k)
def vcDr1 (P : Program) (N : Nat) (dst : Option Nat) (s : SS) (K : SS → Prop) (g : Bool) (op : Op) : Prop :=
  match op with
  | .move x => kSplit N dst s K g (ev s.F x)
  | .assign x => kSplit N dst s K g (ev s.F x)
  | .binOp b t x y _ => pvBin P True b t (ev s.F x) (ev s.F y) (kSplit N dst s K g)
  | .store t p x => (ev s.F p).grd ∧ (ev s.F x).grd ∧ vcStore P dst t (ev s.F p).core (ev s.F x).core s K
  | .call c => vcDrC P (.call c) c.args.toList s (kSplit N dst s K g) c.callee
  | op => vcLookE P s.F s.M s.Z op (kKn (kSplit N dst s K g))
def vcDrO (P : Program) (N : Nat) (o : Oper) (s : SS) (K : SS → Prop) (g : Bool) (G : Option (Option Bool)) : Prop :=
  match G with
  | none => False
  | some none => vcDr1 P N o.dst s K g o.op
  | some (some true) => vcDr1 P N o.dst s K g o.op
  | some (some false) => kPut N o.dst s K (.cnd false (.val (.bool false)))
def vcDrL (P : Program) (N : Nat) (ops : List Oper) (gs : List Nat) (K : SS → Prop) : Nat → List Oper → SS → Prop
  | _, [], s => K s
  | k, o :: r, s => vcDrO P N o s (vcDrL P N ops gs K (k + 1) r) (memN k gs) (guardOf ops s.F o)

theorem vcStore_one {P : Program} {dst : Option Nat} {t : TypeId} {p x : SV} {s : SS} {K : SS → Prop} (h : vcStore P dst t p x s K) : ∃ s1, K s1 ∧ vcStore P dst t p x s (· = s1) := by
  obtain ⟨hd, h⟩ := h
  unfold vcStore
  unfold vcStoreX vcStoreR vcStoreP vcStoreW vcStoreA at *
  split at h
  · split at h
    · exact ⟨_, h.2.2.2.2, hd, h.1, h.2.1, h.2.2.1, h.2.2.2.1, rfl⟩
    · split at h
      · exact ⟨_, h.2.2.2.2, hd, h.1, h.2.1, h.2.2.1, h.2.2.2.1, rfl⟩
      · exact h.elim
    · exact h.elim
  · split at h
    · split at h
      · exact ⟨_, h.2.2.2, hd, h.1, h.2.1, h.2.2.1, rfl⟩
      · exact h.elim
    · exact h.elim
  · exact h.elim

/-- one step of the walk -/
def DrStep (P : Program) (N : Nat) (ops : Array Oper) (k : Nat) (o : Oper) (s : SS) (K : SS → Prop) (E : Env) (a : Act) : Prop :=
  ∃ v s1, K s1 ∧ FrameOk s1.M N s1.F (a.put o.dst v).tmps ∧ (∃ w', Mem E s1.M s1.Z w') ∧
    (wrAt ops k = false → s1.M = s.M ∧ s1.Z = s.Z) ∧ (bif wlAt ops k then ydAll P ops o a v else ydTo P ops o (Mem E s.M s.Z) (Mem E s1.M s1.Z) a v)

/-- a look: its value, whatever the world; more blocks at most -/
def lookG (P : Program) (ops : Array Oper) (k : Nat) (o : Oper) (s : SS) (E : Env) (a : Act) (v : Value) : Prop :=
  bif wlAt ops k then ydAll P ops o a v else
    (Region.wanted o (yielded ops a.tmps) = true ∧ ∀ w, Mem E s.M s.Z w → uponTo P (Kept w (fun _ => False)) v ((execOp a.eval o).run P w)) ∨ (Region.wanted o (yielded ops a.tmps) = false ∧ v = undef)
theorem lookG.toC {P : Program} {ops : Array Oper} {k : Nat} {o : Oper} {s : SS} {E : Env} {a : Act} {v : Value} (h : lookG P ops k o s E a v) {C : World → Prop} (hC : ∀ w, C w → Mem E s.M s.Z w) : lookC P ops (wlAt ops) k o C a v := by
  unfold lookG at h
  unfold lookC
  cases hl : wlAt ops k with
  | true => rw [hl] at h; exact h
  | false =>
    rw [hl] at h
    intro C' h1 h2
    rcases h with ⟨h3, h4⟩ | ⟨h3, h4⟩
    · exact .inl ⟨h3, fun w hw => (h4 w (hC w (h1 w hw))).mono fun w' hk => h2 w w' hw hk⟩
    · exact .inr ⟨h3, h4, fun _ h => h⟩
theorem lookG.toD {P : Program} {ops : Array Oper} {k : Nat} {o : Oper} {s : SS} {E : Env} {a : Act} {v : Value} (h : lookG P ops k o s E a v) : bif wlAt ops k then ydAll P ops o a v else ydTo P ops o (Mem E s.M s.Z) (Mem E s.M s.Z) a v :=
  (h.toC (C := Mem E s.M s.Z) fun _ h => h).at (closed_mem E s.M s.Z)
def LkStep (P : Program) (N : Nat) (ops : Array Oper) (k : Nat) (o : Oper) (s : SS) (K : SS → Prop) (E : Env) (a : Act) : Prop :=
  ∃ v F1, K ⟨F1, s.M, s.Z⟩ ∧ FrameOk s.M N F1 (a.put o.dst v).tmps ∧ lookG P ops k o s E a v
theorem LkStep.toDr {P : Program} {N : Nat} {ops : Array Oper} {k : Nat} {o : Oper} {s : SS} {K : SS → Prop} {E : Env} {a : Act} {w0 : World} (h0 : Mem E s.M s.Z w0) (h : LkStep P N ops k o s K E a) : DrStep P N ops k o s K E a := by
  obtain ⟨v, F1, hK, hF, hl⟩ := h
  exact ⟨v, ⟨F1, s.M, s.Z⟩, hK, hF, ⟨w0, h0⟩, fun _ => ⟨rfl, rfl⟩, hl.toD⟩

/-- a step that leaves what is known as it is -/
theorem lkStep_put {P : Program} {N : Nat} {ops : Array Oper} {k : Nat} {o : Oper} {s : SS} {K : SS → Prop} {E : Env} {a : Act} (hF : FrameOk s.M N s.F a.tmps) {v : Value} {x : SV}
    (hx : has s.M x v) (hp : kPut N o.dst s K x) (h : lookG P ops k o s E a v) : LkStep P N ops k o s K E a := by
  cases hd : o.dst with
  | none =>
    rw [hd] at hp
    exact ⟨v, s.F, hp, by rw [hd]; exact hF, h⟩
  | some d =>
    rw [hd] at hp
    exact ⟨v, _, hp.2, by rw [hd]; exact hF.put d hp.1 hx, h⟩

theorem lkStep_call {P : Program} {N : Nat} {ops : Array Oper} {k : Nat} {o : Oper} {s : SS} {K : SS → Prop} {gk : Bool} {E : Env} {a : Act} (hi : ops[k]? = some o) {f : Operand} {args : Array Operand}
    {tys : Array TypeId} (he : o.op = .call ⟨.value f, args, tys⟩)
    (hF : FrameOk s.M N s.F a.tmps) (hw : Region.wanted o (yielded ops a.tmps) = true) {g : FuncId} {cap : List Value} (hf : a.eval f = .func (.func g) #[] cap.toArray)
    {xs : List SV} (hx : denL s.M xs = some (args.toList.map a.eval ++ cap)) (h : vcDrG P g xs s (kSplit N o.dst s K gk) (extOf P g)) : LkStep P N ops k o s K E a := by
  have e : (List.map a.eval args.toList ++ cap).toArray = args.map a.eval ++ cap.toArray := by apply Array.ext'; simp
  have hwl : wlAt ops k = false := by simp [wlAt, wlIs, hi, he, wlOp]
  unfold vcDrG at h
  split at h
  · rename_i ex hex
    obtain ⟨vs, x, h1, h2, h3⟩ := extK_sound h
    rw [hx] at h1; cases h1
    obtain ⟨x', hx', hp⟩ := kSplit_put (M := s.M) (v := x) h3 rfl
    refine lkStep_put hF hx' hp ?_
    unfold lookG
    rw [hwl]
    refine .inl ⟨hw, fun w hm => ?_⟩
    rw [callee_run he hf, extOf_run hex, ← e, h2]
    exact ⟨Kept.refl _ _, rfl⟩
  obtain ⟨⟨fn, hfn, hbody, hname⟩, r, h1, h2⟩ := h
  have hb : fn.body.isNone = false := by cases hb : fn.body <;> simp_all
  obtain ⟨x', hx', hp⟩ := kSplit_put (M := s.M) (v := r) h2 rfl
  refine lkStep_put hF hx' hp ?_
  unfold lookG
  rw [hwl]
  refine .inl ⟨hw, fun w hm => ?_⟩
  rw [callee_run he hf, run_callFunc' hfn hname hb]
  have := h1 E w _ hx hm
  rw [e] at this
  exact this

theorem lkStep_look {P : Program} {N : Nat} {ops : Array Oper} {k : Nat} {o : Oper} {s : SS} {K : SS → Prop} {gk : Bool} {E : Env} {a : Act} {w0 : World} (h0 : Mem E s.M s.Z w0) (hwl : wlAt ops k = false)
    (hF : FrameOk s.M N s.F a.tmps) (hw : Region.wanted o (yielded ops a.tmps) = true) (h : vcLookE P s.F s.M s.Z o.op (kKn (kSplit N o.dst s K gk))) : LkStep P N ops k o s K E a := by
  obtain ⟨x, ⟨hkn, hk⟩, hx⟩ := vcLookE_sound h
  obtain ⟨v, hrun, hv⟩ := hx E N a w0 hF h0
  obtain ⟨x', hx', hp⟩ := kSplit_put hk hv
  refine lkStep_put hF hx' hp ?_
  unfold lookG
  rw [hwl]
  refine .inl ⟨hw, fun w hm => ?_⟩
  obtain ⟨u, hrun', hu⟩ := hx E N a w hF hm
  rw [hrun']
  refine ⟨Kept.refl _ _, ?_⟩
  have e1 := has_known hv hkn
  have e2 := has_known hu hkn
  rw [e1] at e2
  exact (Option.some.inj e2).symm

theorem lkStep_one {P : Program} {N : Nat} {ops : Array Oper} {k : Nat} {o : Oper} {s : SS} {K : SS → Prop} {gk : Bool} {E : Env} {a : Act} {w0 : World} (h0 : Mem E s.M s.Z w0) (hi : ops[k]? = some o)
    (hF : FrameOk s.M N s.F a.tmps) (hw : Region.wanted o (yielded ops a.tmps) = true) (hns : ∀ t p x, o.op ≠ .store t p x) (h : vcDr1 P N o.dst s K gk o.op) : LkStep P N ops k o s K E a := by
  unfold vcDr1 at h
  split at h
  · rename_i x he
    obtain ⟨x', hx', hp⟩ := kSplit_put h (ev_has hF x)
    refine lkStep_put hF hx' hp ?_
    have hwl : wlAt ops k = true := by simp [wlAt, wlIs, hi, he, wlOp]
    unfold lookG
    rw [hwl]
    exact .inl ⟨hw, fun w => by simp [execOp, he, uponTo]⟩
  · rename_i x he
    obtain ⟨x', hx', hp⟩ := kSplit_put h (ev_has hF x)
    refine lkStep_put hF hx' hp ?_
    have hwl : wlAt ops k = true := by simp [wlAt, wlIs, hi, he, wlOp]
    unfold lookG
    rw [hwl]
    exact .inl ⟨hw, fun w => by simp [execOp, he, uponTo]⟩
  · rename_i b t x y t2 he
    have hwl : wlAt ops k = true := by simp [wlAt, wlIs, hi, he, wlOp]
    unfold pvBin kVal at h
    split at h
    · rename_i v u hv hu
      obtain ⟨r, hk, hr⟩ := vBin_sound h
      have e1 := ev_has hF x
      have e2 := ev_has hF y
      rw [hv] at e1
      rw [hu] at e2
      simp only [has] at e1 e2
      obtain ⟨x', hx', hp⟩ := kSplit_put (M := s.M) (v := r) hk rfl
      refine lkStep_put hF hx' hp ?_
      unfold lookG
      rw [hwl]
      exact .inl ⟨hw, fun w => by simp [execOp, he, ← e1, ← e2, eqGuard_of_vBin h, hr trivial w, uponTo]⟩
    · exact h.elim
  · rename_i t p x he
    exact absurd he (hns t p x)
  · rename_i c he
    obtain ⟨callee, args, argTypes⟩ := c
    simp only at h
    have hwl : wlAt ops k = false := by simp [wlAt, wlIs, hi, he, wlOp]
    unfold vcDrC at h
    split at h
    · rename_i f
      obtain ⟨hg, hgs, hk, h⟩ := h
      rw [cores_eq] at hk
      have hf := has_core (ev_has hF f) hg
      have hargs := denL_args hF (grdAll_mem hgs) hk
      unfold vcDrF at h
      rw [cores_eq] at h
      split at h
      · rename_i g cap hev
        rw [hev] at hf
        simp only [has] at hf
        exact lkStep_call hi he hF hw hf.symm (denL_append hargs (denL_vals cap)) h
      · rename_i g cap hev
        rw [hev] at hf
        simp only [has, den, Option.map_eq_some_iff] at hf
        obtain ⟨caps, hcap, hf⟩ := hf
        exact lkStep_call hi he hF hw hf.symm (denL_append hargs hcap) h
      · exact h.elim
    · exact lkStep_look h0 hwl hF hw (by rw [he]; exact h)
  · rename_i hm ha hb hs hc
    refine lkStep_look h0 ?_ hF hw h
    simp only [wlAt, wlIs, hi]
    unfold wlOp
    split
    · rename_i x e; exact absurd e (hm x)
    · rename_i x e; exact absurd e (ha x)
    · rename_i a1 a2 a3 a4 a5 e; exact absurd e (hb _ _ _ _ _)
    · rfl

theorem drStep_one {P : Program} {N : Nat} {ops : Array Oper} {k : Nat} {o : Oper} {s : SS} {K : SS → Prop} {gk : Bool} {E : Env} {a : Act} {w0 : World} (h0 : Mem E s.M s.Z w0) (hi : ops[k]? = some o) (hd : a.defers = [])
    (hF : FrameOk s.M N s.F a.tmps) (hw : Region.wanted o (yielded ops a.tmps) = true) (h : vcDr1 P N o.dst s K gk o.op) : DrStep P N ops k o s K E a := by
  by_cases hst : ∃ t p x, o.op = .store t p x
  · obtain ⟨t, p, x, he⟩ := hst
    rw [he] at h
    obtain ⟨hg1, hg2, h⟩ : (ev s.F p).grd ∧ (ev s.F x).grd ∧ vcStore P o.dst t (ev s.F p).core (ev s.F x).core s K := h
    obtain ⟨s1, hK, h1⟩ := vcStore_one h
    have hwl : wlAt ops k = false := by simp [wlAt, wlIs, hi, he, wlOp]
    have hwr : wrAt ops k = true := by simp [wrAt, wrIs, hi, he, wrOp]
    have hst : ∀ w, Mem E s.M s.Z w → ∃ w', (Instr.storeAt t (a.eval p) (a.eval x)).run P w = .ok () w' ∧ Rel E N s1 (a.put o.dst undef) w' := fun w hm => by
      obtain ⟨w', hrun, s', hr', e⟩ := vcStore_sound h1 ⟨hF, hd, hm⟩ (has_core (ev_has hF p) hg1) (has_core (ev_has hF x) hg2)
      subst e
      exact ⟨w', hrun, hr'⟩
    obtain ⟨w1, _, hr1⟩ := hst w0 h0
    refine ⟨undef, s1, hK, hr1.frame, ⟨w1, hr1.mem⟩, fun e => (by rw [hwr] at e; cases e), ?_⟩
    rw [hwl]
    refine .inl ⟨hw, fun w hm => ?_⟩
    obtain ⟨w', hrun, hr'⟩ := hst w hm
    have : (execOp a.eval o).run P w = .ok .skip w' := by simp [execOp, he, hrun]
    rw [this]
    exact ⟨hr'.mem, rfl⟩
  · exact (lkStep_one h0 hi hF hw (fun t p x e => hst ⟨t, p, x, e⟩) h).toDr h0

theorem vcDrL_sound {P : Program} {N : Nat} {ops : List Oper} {gs : List Nat} (hN : dstsIn N ops) {K : SS → Prop} {E : Env} : ∀ {l : List Oper} {k : Nat} {s : SS} {a : Act} {w0 : World}, vcDrL P N ops gs K k l s → (∀ j, l[j]? = ops[k + j]?) →
    FrameOk s.M N s.F a.tmps → a.defers = [] → Mem E s.M s.Z w0 →
    ∃ c : Nat → World → Prop, c k = Mem E s.M s.Z ∧ wpLex P ops.toArray c (wlAt ops.toArray) (wrAt ops.toArray) (fun a' w' => ∃ s', Rel E N s' a' w' ∧ K s') k l a
  | [], k, s, a, w0, h, _, hF, hd, h0 => ⟨fun _ => Mem E s.M s.Z, rfl, fun w hw => ⟨s, ⟨hF, hd, hw⟩, h⟩⟩
  | o :: r, k, s, a, w0, h, hl, hF, hd, h0 => by
    unfold vcDrL vcDrO at h
    have hi : ops.toArray[k]? = some o := by simpa using (hl 0).symm
    have st : DrStep P N ops.toArray k o s (vcDrL P N ops gs K (k + 1) r) E a := by
      split at h
      · exact h.elim
      · rename_i hg
        exact drStep_one h0 hi hd hF (guard_sound' hg hF hN) h
      · rename_i hg
        exact drStep_one h0 hi hd hF (guard_sound' hg hF hN) h
      · rename_i hg
        have hw := guard_sound' hg hF hN
        simp only at hw
        refine (lkStep_put hF (v := undef) (x := .cnd false (.val (.bool false))) ⟨fun f => (Bool.false_ne_true f).elim, fun _ => rfl⟩ h ?_).toDr h0
        unfold lookG
        cases wlAt ops.toArray k with
        | true => exact .inr ⟨hw, rfl⟩
        | false => exact .inr ⟨hw, rfl⟩
    obtain ⟨v, s1, hK, hF1, ⟨w1, hm1⟩, hsame, hy⟩ := st
    have hd1 : (a.put o.dst v).defers = [] := by cases o.dst <;> exact hd
    obtain ⟨c', hc', hlex⟩ := vcDrL_sound hN hK (fun j => by have := hl (j + 1); simpa [Nat.add_assoc, Nat.add_comm 1 j] using this) hF1 hd1 hm1
    refine ⟨fun j => if j = k then Mem E s.M s.Z else c' j, by simp, v, ?_, ?_, ?_⟩
    · simp only [if_true, show ¬ (k + 1 = k) by omega, if_false, hc']
      exact hy
    · intro hw
      obtain ⟨e1, e2⟩ := hsame hw
      simp only [if_true, show ¬ (k + 1 = k) by omega, if_false, hc', e1, e2]
    · exact wpLex_congr (fun j hj => by simp only [show ¬ (j = k) by omega, if_false]) hlex

def drawOk (ops : Array Oper) : Bool := lexOk .any ops (wlAt ops) (wrAt ops)
def vcDrawT (P : Program) (N : Nat) (ops : Array Oper) (K : SS → Prop) (s : SS) : Prop :=
  P.follows .mixedOrders = true ∧ drawOk ops = true ∧ dstsIn N ops.toList ∧ vcDrL P N ops.toList (gIdx ops.toList) K 0 ops.toList s

theorem Mem.draw {E : Env} {M : List Res} {Z : Heap} {w : World} (h : Mem E M Z w) : Mem E M Z { w with drawn := w.drawn + 1 } :=
  h.after (w' := { w with drawn := w.drawn + 1 }) ⟨rfl, rfl, rfl, Nat.le_refl _, fun _ _ _ => rfl⟩ h.frozen (fun _ _ e => .inl e)

theorem vcDrawT_sound {P : Program} {N : Nat} {ops : Array Oper} {K : SS → Prop} {s : SS} (h : vcDrawT P N ops K s) {E : Env} {a : Act} {w : World} (hr : Rel E N s a w) {id : Nat} {Q : Exit → Act → World → Prop}
    (hQ : ∀ s' a' w', Rel E N s' a' w' → K s' → Q .normal a' w') : (Code.region id ops true).wp P Q a w := by
  obtain ⟨hm, hB, hN, h⟩ := h
  have h0 : Mem E s.M s.Z { w with drawn := w.drawn + 1 } := hr.mem.draw
  obtain ⟨c, hc, hlex⟩ := vcDrL_sound (E := E) hN h (by simp) hr.frame hr.defers h0
  rw [Array.toArray_toList] at hlex
  exact wp_region_lex hm hB (fun i => wl_wr ops i) (fun a w ⟨s', h1, h2⟩ => hQ s' a w h1 h2) (by rw [hc]; exact h0) hlex

/-! ## an order of which some operations make or write memory -/
/-- a region whose order I give: its operations in that order; 0: a look · 1: it makes a block · 2: it may do more -/
def vcDrawE (P : Program) (N : Nat) (ops : Array Oper) (K : SS → Prop) (s : SS) : Prop :=
  ∀ (E : Env) (a : Act) (w : World), Rel E N s a w → ∀ (id : Nat) (Q : Exit → Act → World → Prop), (∀ s' a' w', Rel E N s' a' w' → K s' → Q .normal a' w') → (Code.region id ops true).wp P Q a w
/-- does an operation, by its looks, make or write memory? -/
def effOp : Op → Bool
  | .alloc _ | .box .. | .buildSlice .. | .makeMap .. | .makeSlice .. | .mapUpdate .. | .sliceToArrayPointer .. => true
  | .call c => match c.callee with
    | .builtin .append | .builtin .copy | .builtin .delete => true
    | _ => false
  | _ => false
def callOp : Op → Bool
  | .call c => match c.callee with
    | .value _ => true
    | _ => false
  | _ => false
def effL : List Oper → Bool
  | [] => false
  | o :: r => bif effOp o.op then true else match r with
    | [] => callOp o.op
    | _ => effL r
def vcDrawB (P : Program) (N : Nat) (ops : Array Oper) (K : SS → Prop) (s : SS) (e : Bool) : Prop :=
  match e with
  | true => vcDrawE P N ops K s
  | false => vcDrawT P N ops K s
def vcDraw (P : Program) (N : Nat) (ops : Array Oper) (K : SS → Prop) (s : SS) : Prop := vcDrawB P N ops K s (effL ops.toList)
theorem vcDraw_sound {P : Program} {N : Nat} {ops : Array Oper} {K : SS → Prop} {s : SS} (h : vcDraw P N ops K s) {E : Env} {a : Act} {w : World} (hr : Rel E N s a w) {id : Nat} {Q : Exit → Act → World → Prop}
    (hQ : ∀ s' a' w', Rel E N s' a' w' → K s' → Q .normal a' w') : (Code.region id ops true).wp P Q a w := by
  unfold vcDraw vcDrawB at h
  split at h
  · exact h E a w hr id Q hQ
  · exact vcDrawT_sound h hr hQ

def vcOrdK (P : Program) (N : Nat) (o : Oper) (s : SS) (K : SS → Prop) (g : Bool) (kd : Nat) : Prop :=
  match kd with
  | 0 => (match o.op with | .store .. => False | _ => True) ∧ vcDr1 P N o.dst s K g o.op
  | 1 => vcGrowO P N o s K o.op
  | _ => vcStep P N o s K
def vcOrdG (P : Program) (N : Nat) (o : Oper) (s : SS) (K : SS → Prop) (g : Bool) (kd : Nat) (G : Option (Option Bool)) : Prop :=
  match G with
  | none => False
  | some none => vcOrdK P N o s K g kd
  | some (some true) => vcOrdK P N o s K g kd
  | some (some false) => kPut N o.dst s K (.cnd false (.val (.bool false)))
def vcOrdO (P : Program) (N : Nat) (ops : List Oper) (s : SS) (K : SS → Prop) (g : Bool) (kd : Nat) (o : Option Oper) : Prop :=
  match o with
  | none => False
  | some o => vcOrdG P N o s K g kd (guardOf ops s.F o)
def vcOrd (P : Program) (N : Nat) (ops : List Oper) (gs : List Nat) (K : SS → Prop) : List (Nat × Nat) → SS → Prop
  | [], s => K s
  | (i, kd) :: r, s => vcOrdO P N ops s (vcOrd P N ops gs K r) (memN i gs) kd ops[i]?
def kdOf : List (Nat × Nat) → Nat → Nat
  | [], _ => 0
  | (i, k) :: r, j => if i = j then k else kdOf r j
def effOf (ord : List (Nat × Nat)) (i : Nat) : Bool := kdOf ord i != 0
def persOf (ord : List (Nat × Nat)) (i : Nat) : Bool := kdOf ord i == 1
def ordGood (ops : Array Oper) (F : Nat) (ord : List (Nat × Nat)) : Bool :=
  Region.noSelect ops && ordOk .any ops (wlAt ops) (effOf ord) (persOf ord) F (ord.map (·.1)) && ((List.range ops.size).all fun i => (ord.map (·.1)).elem i) && decide (ord.length = ops.size)
    && ord.all fun p => kdOf ord p.1 == p.2

theorem vcOrd_sound {P : Program} {N : Nat} {ops : List Oper} {gs : List Nat} (hN : dstsIn N ops) {ord0 : List (Nat × Nat)} {K : SS → Prop} {E : Env} : ∀ {ord : List (Nat × Nat)} {s : SS} {a : Act} {C : World → Prop}, vcOrd P N ops gs K ord s →
    (∀ p ∈ ord, kdOf ord0 p.1 = p.2) → FrameOk s.M N s.F a.tmps → a.defers = [] → (∀ w, C w → Mem E s.M s.Z w) → Closed C → (∃ w, C w) →
    wpLexC P ops.toArray (wlAt ops.toArray) (effOf ord0) (persOf ord0) (fun a' w' => ∃ s', Rel E N s' a' w' ∧ K s') (ord.map (·.1)) C a
  | [], s, a, C, h, _, hF, hd, hC, _, _ => fun w hw => ⟨s, ⟨hF, hd, hC w hw⟩, h⟩
  | (i, kd) :: r, s, a, C, h, hkd, hF, hd, hC, hcl, ⟨w0, hw0⟩ => by
    unfold vcOrd vcOrdO at h
    split at h
    · exact h.elim
    · rename_i o ho
      have hi : ops.toArray[i]? = some o := by simpa using ho
      have hk0 : kdOf ord0 i = kd := hkd (i, kd) (by simp)
      have hrest : ∀ p ∈ r, kdOf ord0 p.1 = p.2 := fun p hp => hkd p (by simp [hp])
      have look : LkStep P N ops.toArray i o s (vcOrd P N ops gs K r) E a → wpLexC P ops.toArray (wlAt ops.toArray) (effOf ord0) (persOf ord0) (fun a' w' => ∃ s', Rel E N s' a' w' ∧ K s') (((i, kd) :: r).map (·.1)) C a := by
        rintro ⟨v, F1, hK, hF1, hl⟩
        refine ⟨o, hi, .inl ⟨v, hl.toC hC, ?_⟩⟩
        exact vcOrd_sound hN (s := ⟨F1, s.M, s.Z⟩) hK hrest hF1 (by rw [put_defers]; exact hd) hC hcl ⟨w0, hw0⟩
      have act : Region.wanted o (yielded ops.toArray a.tmps) = true → vcOrdK P N o s (vcOrd P N ops gs K r) (memN i gs) kd → wpLexC P ops.toArray (wlAt ops.toArray) (effOf ord0) (persOf ord0) (fun a' w' => ∃ s', Rel E N s' a' w' ∧ K s') (((i, kd) :: r).map (·.1)) C a := by
        intro hw hk
        unfold vcOrdK at hk
        split at hk
        · obtain ⟨hns, hk⟩ := hk
          refine look (lkStep_one (hC w0 hw0) hi hF hw (fun t p x e => ?_) hk)
          rw [e] at hns; exact hns
        · refine ⟨o, hi, .inr ⟨by simp [effOf, hk0], hw, fun w hcw => ?_⟩⟩
          obtain ⟨v, w', hrun, hkept, s', hr', hK'⟩ := vcGrowO_sound hk ⟨hF, hd, hC w hcw⟩
          rw [Oper.wp, hrun, Oper.upon_value]
          exact ⟨fun w => C w ∧ Mem E s'.M s'.Z w, ⟨hcl w w' hcw hkept, hr'.mem⟩, fun _ _ h => h.1, closed_and hcl (closed_mem _ _ _), hr'.defers,
            vcOrd_sound hN hK' hrest hr'.frame hr'.defers (fun _ h => h.2) (closed_and hcl (closed_mem _ _ _)) ⟨w', hcl w w' hcw hkept, hr'.mem⟩⟩
        · rename_i hn0 hn1
          refine ⟨o, hi, .inr ⟨by simp [effOf, hk0]; exact hn0, hw, fun w hcw => ?_⟩⟩
          refine mono_raw (vcStep_sound hk E a w ⟨hF, hd, hC w hcw⟩) (fun a' w' ⟨s', hr', hK'⟩ => ?_) (fun _ _ _ f => f) (fun _ _ f => f)
          exact ⟨Mem E s'.M s'.Z, hr'.mem, fun hp => by
            simp only [persOf, hk0, beq_iff_eq] at hp
            exact absurd hp hn1, closed_mem _ _ _, hr'.defers, vcOrd_sound hN hK' hrest hr'.frame hr'.defers (fun _ h => h) (closed_mem _ _ _) ⟨w', hr'.mem⟩⟩
      unfold vcOrdG at h
      split at h
      · exact h.elim
      · rename_i hg; exact act (guard_sound' hg hF hN) h
      · rename_i hg; exact act (guard_sound' hg hF hN) h
      · rename_i hg
        have hw := guard_sound' hg hF hN
        simp only at hw
        refine look (lkStep_put hF (v := undef) (x := .cnd false (.val (.bool false))) ⟨fun f => (Bool.false_ne_true f).elim, fun _ => rfl⟩ h ?_)
        unfold lookG
        cases wlAt ops.toArray i with
        | true => exact .inr ⟨hw, rfl⟩
        | false => exact .inr ⟨hw, rfl⟩

/-- the order is given: F: how far a waiting is traced -/
theorem vcDrawE_intro {P : Program} {N : Nat} {ops : Array Oper} {K : SS → Prop} {s : SS} (F : Nat) (ord : List (Nat × Nat)) (hm : P.follows .mixedOrders = true) (hg : ordGood ops F ord = true) (hN : dstsIn N ops.toList)
    (h : vcOrd P N ops.toList (gIdx ops.toList) K ord s) : vcDrawE P N ops K s := by
  intro E a w hr id Q hQ
  simp only [ordGood, Bool.and_eq_true, decide_eq_true_eq, List.all_eq_true (l := ord), beq_iff_eq] at hg
  obtain ⟨⟨⟨⟨h1, h2⟩, h3⟩, h4⟩, h5⟩ := hg
  have h0 : Mem E s.M s.Z { w with drawn := w.drawn + 1 } := hr.mem.draw
  have hlex := vcOrd_sound (ord0 := ord) (E := E) (C := Mem E s.M s.Z) hN h h5 hr.frame hr.defers (fun _ h => h) (closed_mem _ _ _) ⟨_, h0⟩
  rw [Array.toArray_toList] at hlex
  exact wp_region_ord hm h1 h2 h3 (by rw [List.length_map]; exact h4) (closed_mem _ _ _) (fun a w ⟨s', k1, k2⟩ => hQ s' a w k1 k2) h0 hlex

end Go.SX
