/- A small layer for proofs about calls: a loop over a function's rounds. -/
import Derived.RangeFuncNested
import Derived.RangeFuncBound
import Derived.RangeFuncCalls
import Derived.RangeFuncLeaves
import Derived.TacticsInMore
import Derived.Test.YtaecppimppeebaaDoorSxI
namespace Go.SX
open Go Go.RowKit

/-! ## an operation in a round is carried out as everywhere -/
theorem rowsIn_of {l n : Nat} {P : Program} {row : String} {args : Array Value} {w : World} {R : Value → World → Prop} (h : Rows P row args w R) : RowsIn (Fence.wide.inRound l) n P row args w R :=
  fun c cs _ => let ⟨v, w', r, s⟩ := h c cs; ⟨v, w', r, (stepsIn_wide (P := P)).2 s⟩
theorem opIn_of {l n : Nat} {P : Program} {o : Oper} {a : Act} {w : World} {X : Act → World → Prop} {Q : Exit → Act → World → Prop} (ho : ∀ c, o.op ≠ .defer c) (h : o.wp P a w X Q) : o.wpIn (Fence.wide.inRound l) n P a w X Q := by
  refine ⟨fun _ _ => trivial, ?_⟩
  show o.uponIn _ n P a X Q ((o.semAt (some l) a.eval).run P w)
  rw [Oper.semAt_some l _ _ ho]
  unfold Oper.wp at h
  cases hr : (execOp a.eval o).run P w with
  | ok x w' =>
    rw [hr] at h
    cases x with
    | value v => exact h
    | skip => exact h
    | defer d => exact h
    | enter f args => exact ⟨fun hd => (by cases hd), (callsIn_wide (n := n - 1)).2 h⟩
    | row r args => exact ⟨fun hd => (by cases hd), rowsIn_of h⟩
    | _ => exact h.elim
  | halt hh w' =>
    rw [hr] at h
    cases hh <;> first | exact h | exact h.elim
theorem listIn_of {l n : Nat} {P : Program} {ops : Array Oper} {Q : Exit → Act → World → Prop} (hno : ∀ a w, ¬ Q .outgrown a w) : ∀ {os : List Oper} {a : Act} {w : World}, (∀ o ∈ os, ∀ c, o.op ≠ .defer c) →
    wpList P ops Q os a w → wpListIn (Fence.wide.inRound l) n P ops Q os a w
  | [], _, _, _, h => h
  | o :: os, a, w, hd, h => by
    unfold wpList at h
    unfold wpListIn
    split at h
    · rename_i hw
      rw [if_pos hw]
      rcases h with h | ⟨_, a1, w1, h⟩
      · refine opIn_of (hd o (by simp)) (mono_raw h (fun a1 w1 h1 => listIn_of hno (fun o' ho' => hd o' (by simp [ho'])) h1) (fun _ _ _ f => f) hno)
      · exact absurd h (hno _ _)
    · rename_i hw
      rw [if_neg hw]
      exact ⟨fun _ _ => trivial, listIn_of hno (fun o' ho' => hd o' (by simp [ho'])) h⟩

/-! ## memory over the rounds -/
def Res.plain : Res → Bool
  | .obj _ _ => false
  | _ => true
theorem plain_cells {M : List Res} {w : World} {r : Res} {b : Nat} (h : OwnRes M w r) (hp : r.plain = true) (hk : r.key = some b) : ∃ o, w.heap[b]? = some o ∧ o.isCells = true := by
  cases r with
  | gone => cases hk
  | blk b' cs ty => cases hk; obtain ⟨vs, h1, _⟩ := h; exact ⟨_, h1, rfl⟩
  | obj b' o => cases hp
  | arr b' xs ty fr => cases hk; exact ⟨_, h, rfl⟩
  | row A cap e size n xs =>
    obtain ⟨_, h | ⟨g, cap, cur, hv, _, hh, _⟩⟩ := h
    · obtain ⟨hv, _⟩ := h; cases hv; cases hk
    · cases hv; simp [Res.key] at hk; subst hk; exact ⟨_, hh, rfl⟩
theorem Mem.grownBy {E : Env} {M : List Res} {Z : Heap} {W W' : World} {row : Option Nat} (h : Mem E M Z W) (hp : ∀ r ∈ M, r.plain = true) (hg : W.grownBy W' row) (hn : ∀ r, row = some r → E.w0.heap.size ≤ r ∧ Z r = none ∧ ∃ o : Obj, W.heap[r]? = some o ∧ o.isCells = false) :
    Mem E M Z W' := by
  have hblk : ∀ b, b < W.heap.size → (∀ r, row = some r → r ≠ b) → W'.heap[b]? = W.heap[b]? := fun b hb hx => hg.block b hb fun e => hx b e.symm rfl
  refine ⟨fun b o hb => ?_, fun i r hi => (h.own i r hi).same fun b hb => hblk b (h.lt hi hb) fun r' er => ?_, h.apart, h.free, h.mine, h.zold, ⟨hg.os.trans h.kept.os, hg.tape.trans h.kept.tape, hg.output.trans h.kept.output, Nat.le_trans h.kept.size hg.size, fun b hb hK => ?_⟩⟩
  · rw [hblk b (heap_lt (h.frozen b o hb)) fun r er => ?_]
    · exact h.frozen b o hb
    · rintro rfl
      rw [(hn _ er).2.1] at hb; cases hb
  · rintro rfl
    obtain ⟨o, h1, h2⟩ := plain_cells (h.own i r hi) (hp r (List.mem_of_getElem? hi)) hb
    obtain ⟨_, _, o', h3, h4⟩ := hn _ er
    rw [h1] at h3; cases h3
    rw [h2] at h4; cases h4
  · rw [hblk b (Nat.lt_of_lt_of_le hb h.kept.size) fun r er => ?_]
    · exact h.kept.block b hb hK
    · rintro rfl
      have := (hn _ er).1
      omega
theorem Mem.within {E : Env} {M : List Res} {Z : Heap} {w : World} (h : Mem E M Z w) : Mem ⟨w, keysOf M, Z⟩ M Z w :=
  ⟨h.frozen, h.own, h.apart, h.free, fun i r b hi hk => .inr ⟨i, r, hi, hk⟩, fun b o hb => .inl hb, Kept.refl _ _⟩
theorem Mem.without {E : Env} {M M' : List Res} {Z : Heap} {w w' : World} (h : Mem E M Z w) (h' : Mem ⟨w, keysOf M, Z⟩ M' Z w') : Mem E M' Z w' := by
  refine ⟨h'.frozen, h'.own, h'.apart, h'.free, fun i r b hi hk => ?_, fun b o hb => ?_, h.kept.trans h'.kept fun x hx hK => ?_⟩
  · rcases h'.mine i r b hi hk with h1 | ⟨j, r', hj, hk'⟩
    · exact .inl (Nat.le_trans h.kept.size h1)
    · exact h.mine j r' b hj hk'
  · exact h.zold b o hb
  · obtain ⟨j, r', hj, hk'⟩ := hK
    rcases h.mine j r' x hj hk' with h1 | h1
    · omega
    · exact h1
theorem Mem.others {M M' : List Res} {Z : Heap} {E : Env} {w w' : World} (h : Mem E M Z w) (hp : ∀ r ∈ M, r.plain = true) (h' : Mem ⟨w, keysOf M, Z⟩ M' Z w') : KeepsOthers w w' := by
  refine ⟨h'.kept.size, fun k o hk ho => ?_⟩
  rw [h'.kept.block k (heap_lt hk) ?_]
  · exact hk
  · rintro ⟨j, r, hj, hkey⟩
    obtain ⟨o', h1, h2⟩ := plain_cells (h.own j r hj) (hp r (List.mem_of_getElem? hj)) hkey
    rw [hk] at h1; cases h1
    rw [ho] at h2; cases h2

/-! ## the loop -/
theorem range_wp {P : Program} {N : Nat} {E : Env} {a : Act} {w : World} {α : Type} {R : List α → List Res → Prop} {F : Fr} {Z : Heap} {g : Operand} {t d ida ib idb : Nat} {o1 : Oper} {ops : List Oper} {Q : Exit → Act → World → Prop}
    (_hda : a.defers = []) (hF : ∀ pre M, R pre M → FrameOk M N F a.tmps) (hcl : ∀ pre M, R pre M → ∀ r ∈ M, r.plain = true) {M0 : List Res} (h0 : R [] M0) (hm0 : Mem E M0 Z w)
    {gf : Nat} {lb : Array Value} (hg : a.eval g = .func (.func gf) #[] lb) (eg : ∀ args w, (callFunc gf args).run P w = .ok (.enter gf args) w)
    {enc : α → Value} {S Sp : List α → Prop} {Nm : Nat} (hseq : SeqStopsK Fence.wide 2 P gf lb (fun x => #[enc x]) (fun W W' => Fzn Z W → Fzn Z W') S Sp Nm w)
    (ho1 : o1.op = .assign (.tmp t)) (hod : o1.dst = some d) (hog : o1.guard = none) (ht : t < N) (hd : d < N) (hFt : F.get t = .any)
    (hN : dstsIn N ops) (hdf : ∀ o ∈ ops, ∀ c, o.op ≠ .defer c)
    (hbody : ∀ pre x M, R pre M → pre.length < Nm → vcOps P N ops (fun s => ∃ M', R (pre ++ [x]) M' ∧ ∀ E w, Mem E s.M s.Z w → Mem E M' Z w) ops ⟨(d, .val (enc x)) :: F, M, Z⟩)
    (hdone : ∀ (D : Nat) (xs : List α) (M : List Res) (W : World), S xs → R xs M → Mem E M Z W → w.heap.size ≤ D → W.heap[D]? = some (.deferred (some [])) → Q .normal { a with defers := { target := .collected D, args := #[] } :: a.defers } W) :
    (Code.rangeFunc g #[t] (.region ida #[o1] false) (.block ib (.region idb ops.toArray false))).wp P Q a w := by
  refine (wpIn_wide (n := 3)).1 (wpIn_rangeFunc_ownF (F := Fence.wide) rfl (by omega) hg trivial eg hseq (fun h k hz => k (h hz)) (fun W l o o' hl ho hc _ hz b ob hb => ?_) (Below.refl _ _) (fun _ => rfl)
    (fun pre W => ∃ M, R pre M ∧ Mem E M Z W) (fun _ _ _ => False) (fun pre W W' row ⟨M, hR, hm⟩ hgr hrow => ⟨M, hR, hm.grownBy (hcl _ _ hR) hgr fun r er => ?_⟩) (fun _ _ _ _ _ f _ _ => f) ⟨M0, h0, hm0⟩
    (fun x => ({ tmps := a.tmps.setIfInBounds t (enc x), defers := [] } : Act).put (some d) (enc x)) (fun l x W K hK => ?_) (fun l pre x W ⟨M, hR, hm⟩ hl => ?_) (fun D xs W hD hS ⟨M, hR, hm⟩ hdf => hdone D xs M W hS hR hm hD hdf) (fun _ _ _ _ _ _ f _ => f.elim))
  · have hne : b ≠ l := by
      rintro rfl
      have := heap_lt (hm0.frozen _ _ hb)
      omega
    have := (grownBy_putObj' W l o').block b (heap_lt (hz b ob hb)) (fun e => hne (by cases e; rfl))
    rw [this]; exact hz b ob hb
  · obtain ⟨hB, o, ho, hoc⟩ := hrow r er
    refine ⟨Nat.le_trans hm0.kept.size hB, ?_, o, ho, hoc⟩
    cases hz : Z r with
    | none => rfl
    | some ob => have := heap_lt (hm0.frozen _ _ hz); omega
  · have he : ((#[t].zip #[enc x]).foldl (fun t (p, v) => t.setIfInBounds p v) a.tmps) = a.tmps.setIfInBounds t (enc x) := by simp
    refine Eq.mp (congrArg (fun tm => Code.wpIn (Fence.wide.inRound l) (3 - 1 - 1) P (Code.region ida #[o1] false) (Exit.then K (fun _ _ _ => False)) { tmps := tm, defers := [] } W) he.symm) ?_
    refine wpIn_region_list ?_
    show wpListIn _ _ _ _ _ [o1] _ _
    unfold wpListIn
    rw [if_pos (wanted_none hog _)]
    refine opIn_of (by rw [ho1]; intro c e; cases e) ?_
    have hsz : t < a.tmps.size := by rw [(hF _ _ h0).1]; exact ht
    unfold Oper.wp
    have hrun : ∀ (a : Act), (execOp a.eval o1).run P W = .ok (.value (a.eval (.tmp t))) W := fun a => by simp [execOp, ho1]
    have hev : ({ tmps := a.tmps.setIfInBounds t (enc x), defers := [] } : Act).eval (.tmp t) = enc x := by
      simp [Act.eval, Array.getD_eq_getD_getElem?, hsz]
    rw [hrun, Oper.upon_value, hod]
    show K (({ tmps := a.tmps.setIfInBounds t (enc x), defers := [] } : Act).put (some d) (({ tmps := a.tmps.setIfInBounds t (enc x), defers := [] } : Act).eval (.tmp t))) W
    rw [hev]
    exact hK
  · refine wpIn_block (wpIn_region_list ?_)
    have hfr : FrameOk M N ((d, .val (enc x)) :: F) (({ tmps := a.tmps.setIfInBounds t (enc x), defers := [] } : Act).put (some d) (enc x)).tmps := by
      refine FrameOk.put (t := a.tmps.setIfInBounds t (enc x)) ?_ d hd rfl
      have := FrameOk.put (hF _ _ hR) t ht (s := .any) (x := enc x) trivial
      refine this.less fun i y hy => ?_
      simp only [Fr.get] at hy
      split at hy
      · rename_i e; subst e; rw [hFt]; trivial
      · exact hy
    refine listIn_of (fun _ _ f => f) (by simpa using hdf) ?_
    have := vcOps_sound hN (hbody pre x M hR hl) (E := ⟨W, keysOf M, Z⟩) (a := ({ tmps := a.tmps.setIfInBounds t (enc x), defers := [] } : Act).put (some d) (enc x)) (w := W) ⟨hfr, rfl, hm.within⟩ (Q := Exit.inBlock ib (ownPostK (fun W W' => Fzn Z W → Fzn Z W') (fun pre W => ∃ M, R pre M ∧ Mem E M Z W) (fun _ _ _ => False) (pre ++ [x]) W))
      (fun s' a' w' hr' ⟨M', hR', hmm⟩ => ⟨hm.others (hcl _ _ hR) (hmm _ _ hr'.mem), fun _ => (hmm _ _ hr'.mem).frozen, M', hR', hm.without (hmm _ _ hr'.mem)⟩)
    exact this

/-! ## what comes behind such a loop -/
def Act.more (ds : List Deferred) (a : Act) : Act := { a with defers := a.defers ++ ds }
theorem more_put (ds : List Deferred) (a : Act) (d : Option Nat) (v : Value) : Act.more ds (a.put d v) = (Act.more ds a).put d v := by cases d <;> rfl
theorem list_more {P : Program} {ops : Array Oper} {ds : List Deferred} {Q Q' : Exit → Act → World → Prop} (hno : ∀ a w, ¬ Q .outgrown a w) (hQ : ∀ e a w, Q e a w → Q' e (Act.more ds a) w) : ∀ {os : List Oper} {a : Act} {w : World},
    wpList P ops Q os a w → wpList P ops Q' os (Act.more ds a) w
  | [], a, w, h => hQ _ _ _ h
  | o :: os, a, w, h => by
    unfold wpList at h ⊢
    show if Region.wanted o (yielded ops a.tmps) then _ else _
    split at h
    · rename_i hw
      rw [if_pos hw]
      left
      rcases h with h | ⟨_, a1, w1, h⟩
      · unfold Oper.wp at h ⊢
        have he : (Act.more ds a).eval = a.eval := by funext x; cases x <;> rfl
        rw [he]
        cases hr : (execOp a.eval o).run P w with
        | ok n w' =>
          rw [hr] at h
          cases n with
          | value v => rw [Oper.upon_value] at h ⊢; rw [← more_put]; exact list_more hno hQ h
          | skip => rw [Oper.upon_skip] at h ⊢; rw [← more_put]; exact list_more hno hQ h
          | defer d => rw [Oper.upon_defer] at h ⊢; exact list_more hno hQ (a := { a with defers := d :: a.defers }.put o.dst undef) h |> fun h => by rw [more_put] at h; exact h
          | enter f args =>
            simp only [Oper.upon_enter] at h ⊢
            refine h.mono fun e w2 h2 => ?_
            cases e with
            | returned v => show wpList P ops Q' os ((Act.more ds a).put o.dst v) w2; rw [← more_put]; exact list_more hno hQ h2
            | panicked c => exact hQ _ _ _ h2
            | outgrown => obtain ⟨a0, w0, h0⟩ := h2; exact absurd h0 (hno a0 w0)
          | row r args => simp only [Oper.upon_row] at h ⊢; exact h.mono fun v w2 h2 => by rw [← more_put]; exact list_more hno hQ h2
          | _ => exact h.elim
        | halt hh w' =>
          rw [hr] at h
          cases hh <;> first | exact hQ _ _ _ h | exact h.elim
      · exact absurd h (hno _ _)
    · rename_i hw
      rw [if_neg hw, ← more_put]
      exact list_more hno hQ h
def Heap.with (Z : Heap) (D : Nat) (o : Obj) : Heap := fun b => if b = D then some o else Z b
theorem Mem.mark {E : Env} {M : List Res} {Z : Heap} {W : World} {D : Nat} {o : Obj} (h : Mem E M Z W) (hp : ∀ r ∈ M, r.plain = true) (hD : E.w0.heap.size ≤ D) (ho : W.heap[D]? = some o) (hc : o.isCells = false) : Mem E M (Heap.with Z D o) W := by
  refine ⟨fun b ob hb => ?_, h.own, h.apart, fun i r b hi hk => ?_, h.mine, fun b ob hb => ?_, h.kept⟩
  · unfold Heap.with at hb
    split at hb
    · rename_i e; cases hb; rw [e]; exact ho
    · exact h.frozen b ob hb
  · unfold Heap.with
    split
    · rename_i e
      subst e
      obtain ⟨o', h1, h2⟩ := plain_cells (h.own i r hi) (hp r (List.mem_of_getElem? hi)) hk
      rw [ho] at h1; cases h1
      rw [hc] at h2; cases h2
    · exact h.free i r b hi hk
  · unfold Heap.with at hb
    split at hb
    · rename_i e; subst e; exact .inr (.inl hD)
    · exact h.zold b ob hb
theorem Mem.unmark {E : Env} {M : List Res} {Z : Heap} {w : World} {D : Nat} {o o' : Obj} (h : Mem E M (Heap.with Z D o) w) (hz : Z D = none) (hp : ∀ r ∈ M, r.plain = true) (hD : E.w0.heap.size ≤ D) (hc : o.isCells = false) : Mem E M Z (w.putObj D o') := by
  have hd : w.heap[D]? = some o := h.frozen D o (by simp [Heap.with])
  have hm : Mem E M Z w := h.less fun b ob hb => by
    unfold Heap.with
    split
    · rename_i e; subst e; rw [hz] at hb; cases hb
    · exact hb
  exact hm.grownBy hp (grownBy_putObj' w D o') fun r e => by cases e; exact ⟨hD, hz, o, hd, hc⟩
theorem mem_adopt_box {E : Env} {Z : Heap} {w : World} {b z : Nat} {e ty : TypeId} (h : Mem E [.blk b [.val (.slice none 0 0)] ty] Z w) : Mem E [.row none 0 e z 0 [], .blk b [.row 0] ty] Z w := by
  have key : ∀ (i : Nat) (r : Res) (c : Nat), [Res.row none 0 e z 0 [], .blk b [.row 0] ty][i]? = some r → r.key = some c → i = 1 ∧ c = b := by
    intro i r c hi hk
    match i, hi with
    | 0, hi => simp at hi; subst hi; cases hk
    | 1, hi => simp at hi; subst hi; cases hk; exact ⟨rfl, rfl⟩
    | i + 2, hi => simp at hi
  refine ⟨h.frozen, fun i r hi => ?_, fun i j r r' c hij hi hj hk hk' => ?_, fun i r c hi hk => ?_, fun i r c hi hk => ?_, h.zold, h.kept⟩
  · match i, hi with
    | 0, hi => simp at hi; subst hi; exact World.ownsRow_nil w 0 e z
    | 1, hi =>
      simp at hi; subst hi
      obtain ⟨vs, h1, h2, h3⟩ := h.own 0 _ rfl
      refine ⟨vs, h1, h2, fun j c hc => ?_⟩
      match j, hc with
      | 0, hc => simp at hc; subst hc; have := h3 0 _ rfl; rw [show vs.getD 0 undef = .slice none 0 0 from Eq.symm this]; rfl
      | j + 1, hc => simp at hc
    | i + 2, hi => simp at hi
  · exact hij ((key i r c hi hk).1.trans (key j r' c hj hk').1.symm)
  · obtain ⟨_, rfl⟩ := key i r c hi hk; exact h.free 0 _ _ rfl rfl
  · obtain ⟨_, rfl⟩ := key i r c hi hk; exact h.mine 0 _ _ rfl rfl

/-! ## a function that holds such a loop -/
theorem piece {P : Program} {N : Nat} {x y : Code} {E : Env} {a : Act} {w : World} {s : SS} {K : SS → Prop} {Qr : Out} {Q : Exit → Act → World → Prop} (hr : Rel E N s a w) (hx : vcCode P N x (Out.then K Qr) s)
    (hK : ∀ s' a' w', Rel E N s' a' w' → K s' → y.wp P Q a' w') (hQ : ∀ e s' a' w', Rel E N s' a' w' → Out.then (fun _ => False) Qr e s' → Q e a' w') : (x.seq y).wp P Q a w := by
  refine wp_seq (Code.wp_mono ?_ (vcCode_sound hx hr))
  rintro e a' w' ⟨s', hr', hq⟩
  cases e with
  | normal => exact hK _ _ _ hr' hq
  | ret => exact hQ .ret s' a' w' hr' hq
  | exit i => exact hQ (.exit i) s' a' w' hr' hq
  | goto i => exact hQ (.goto i) s' a' w' hr' hq
  | panic c => exact hQ (.panic c) s' a' w' hr' hq
  | outgrown => exact hQ .outgrown s' a' w' hr' hq
def RH (E : Env) (Z : Heap) (Post : Value → Heap → Prop) (e : Ending) (w' : World) : Prop := ∃ v0 Z' L', e = .returned v0 ∧ Z.le Z' ∧ Mem E L' Z' w' ∧ Post v0 Z'
theorem fnH_marks {P : Program} {f : FuncId} {vs : List Value} {Z : Heap} {Post : Value → Heap → Prop} {fn : Func} {c : Code} (hf : P.funcs[f]? = some fn) (hb : fn.body = some c) (hn : vs.length ≤ fn.ntmps)
    (h : ∀ w a, Rel ⟨w, keysOf [], Z⟩ fn.ntmps ⟨argF 0 (vs.map .val), [], Z⟩ a w → c.wp P (bodyPostM Fence.wide 3 P fn (RH ⟨w, keysOf [], Z⟩ Z Post)) a w) : FnH P f vs Z Post := by
  intro w us hd hm
  refine (callsIn_wide (n := 3)).1 (callsIn_of_wp_marks hf hb trivial (wpIn_wide.2 (h w _ ⟨⟨?_, ?_⟩, rfl, hm⟩)))
  · have := denL_length hd
    simp at this ⊢
    omega
  · refine argF_ok _ us 0 _ hd fun j v hv => ?_
    have hl : j < us.length := (List.getElem?_eq_some_iff.1 hv).1
    simp only [Nat.zero_add, Array.getD_eq_getD_getElem?]
    rw [Array.getElem?_append_left (by simpa using hl)]
    simp [hv]
theorem ret_marks {P : Program} {Z : Heap} {Post : Value → Heap → Prop} {fn : Func} {E : Env} {N : Nat} {s : SS} {a : Act} {w : World} {e : Exit} (hr : Rel E N s a w) (hq : retQ P fn (finH Z Post) e s) :
    bodyPostM Fence.wide 3 P fn (RH E Z Post) e a w := by
  have key : resVals P s (retFin s (finH Z Post)) fn.results.toList [] → LeavesInM Fence.wide 3 P fn a.tmps (RH E Z Post) a.defers .returning w := by
    intro hq
    obtain ⟨l, ⟨hz, hp⟩, hrun⟩ := results_sound hr hq
    obtain ⟨Z', h1, h2, h3, _⟩ := hr.mem.freeze
    rw [hr.defers]
    exact ⟨_, hrun, _, Z', [], rfl, Heap.le.trans hz h1, h2, hp Z' h1 h3⟩
  cases e with
  | normal => exact key hq
  | ret => exact key hq
  | exit id => exact hq.elim
  | goto l => exact hq.elim
  | panic c => exact hq.elim
  | outgrown => exact hq.elim
/-- .. where it returns behind the loop -/
theorem ret_marked {P : Program} {Z Z2 : Heap} {Post : Value → Heap → Prop} {fn : Func} {E : Env} {N D : Nat} {F : Fr} {M : List Res} {a : Act} {w : World} (hr : Rel E N ⟨F, M, Heap.with Z2 D (.deferred (some []))⟩ a w) (hz : Z2 D = none)
    (hp : ∀ r ∈ M, r.plain = true) (hD : E.w0.heap.size ≤ D) (hq : retQ P fn (finH Z Post) .ret ⟨F, M, Z2⟩) :
    bodyPostM Fence.wide 3 P fn (RH E Z Post) .ret (Act.more [{ target := .collected D, args := #[] }] a) w := by
  have hd : w.heap[D]? = some (.deferred (some [])) := hr.mem.frozen D _ (by simp [Heap.with])
  have hm : Mem E M Z2 (w.putObj D (.deferred none)) := hr.mem.unmark hz hp hD rfl
  obtain ⟨l, ⟨hz', hpp⟩, hrun⟩ := results_sound (s := ⟨F, M, Z2⟩) (a := a) (E := E) (N := N) (w := w.putObj D (.deferred none)) ⟨hr.frame, hr.defers, hm⟩ hq
  obtain ⟨Z', h1, h2, h3, _⟩ := hm.freeze
  show LeavesInM Fence.wide 3 P fn a.tmps (RH E Z Post) (a.defers ++ [_]) .returning w
  rw [hr.defers]
  exact ⟨by simp, .inl ⟨D, _, rfl, run_takeDeferred hd, _, hrun, _, Z', [], rfl, Heap.le.trans hz' h1, h2, hpp Z' h1 h3⟩⟩
end Go.SX
