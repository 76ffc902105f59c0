/- A small layer for proofs about calls, part 12: what a function's contract says; how it is proved and used. -/
import Derived.Test.YtaecppimppeebaaDoorSxF
namespace Go.SX
open Go

def keysOf (L : List Res) : Nat → Prop := fun b => ∃ (i : Nat) (r : Res), L[i]? = some r ∧ r.key = some b

/-- the contract of function f: its arguments; what is known to stay (Z); what is lent (L); what comes of it -/
def FnR (P : Program) (f : FuncId) (args : List SV) (Z : Heap) (L : List Res) (Post : Value → Heap → List Res → Prop) : Prop :=
  ∀ w vs, denL L args = some vs → Mem ⟨w, keysOf L, Z⟩ L Z w →
    Calls P f vs.toArray w fun e w' => ∃ v Z' L', e = .returned v ∧ Z.le Z' ∧ Mem ⟨w, keysOf L, Z⟩ L' Z' w' ∧ Post v Z' L'
/-- .. that only tells values -/
def FnV (P : Program) (f : FuncId) (vs : List Value) (Z : Heap) (Post : Value → Prop) : Prop := FnR P f (vs.map .val) Z [] fun v _ _ => Post v
/-- .. that tells values and memory that stays -/
def FnH (P : Program) (f : FuncId) (vs : List Value) (Z : Heap) (Post : Value → Heap → Prop) : Prop := FnR P f (vs.map .val) Z [] fun v Z' _ => Post v Z'
/-- .. that tells just this value -/
def FnE (P : Program) (f : FuncId) (vs : List Value) (Z : Heap) (r : Value) : Prop := FnV P f vs Z (· = r)

theorem FnR.mono {P : Program} {f : FuncId} {args : List SV} {Z : Heap} {L : List Res} {Post Post' : Value → Heap → List Res → Prop} (h : FnR P f args Z L Post) (hp : ∀ v Z' L', Z.le Z' → Post v Z' L' → Post' v Z' L') : FnR P f args Z L Post' :=
  fun w vs hd hm => (h w vs hd hm).mono fun _ _ ⟨v, Z', L', e, h1, h2, h3⟩ => ⟨v, Z', L', e, h1, h2, hp _ _ _ h1 h3⟩
theorem FnV.mono {P : Program} {f : FuncId} {vs : List Value} {Z : Heap} {Post Post' : Value → Prop} (h : FnV P f vs Z Post) (hp : ∀ v, Post v → Post' v) : FnV P f vs Z Post' :=
  FnR.mono h fun _ _ _ _ => hp _
theorem FnH.mono {P : Program} {f : FuncId} {vs : List Value} {Z : Heap} {Post Post' : Value → Heap → Prop} (h : FnH P f vs Z Post) (hp : ∀ v Z', Z.le Z' → Post v Z' → Post' v Z') : FnH P f vs Z Post' :=
  FnR.mono h fun _ _ _ hz => hp _ _ hz

/-! ## what a call tells -/
def resDen (k : Value → Prop) (v : Option Value) : Prop :=
  match v with
  | some v => k v
  | none => False
def kDen (M : List Res) (k : Value → Prop) (x : SV) : Prop := resDen k (den M x)
def resCell (P : Program) (s : SS) (t : TypeId) (k : Value → Prop) (x : SV) : Prop :=
  match x with
  | .ptr i off => pvLoad P s.M s.Z True t (.ptr i off) (kDen s.M k)
  | _ => False
def resOne' (P : Program) (s : SS) (k : Value → Prop) (r : ResultVar) : Prop :=
  match r with
  | .tmp t => resDen k (den s.M (s.F.get t))
  | .cell a t => resCell P s t k (s.F.get a)
/-- the results, at most four of them, are handed to k -/
def kSnoc (l : List Value) (f : List Value → Prop) (v : Value) : Prop := f (l ++ [v])
def resVals (P : Program) (s : SS) (k : List Value → Prop) : List ResultVar → List Value → Prop
  | [], l => k l
  | r :: rs, l => resOne' P s (kSnoc l (resVals P s k rs)) r
def resMk : List Value → Value
  | [v] => v
  | l => .tuple l.toArray
def retFin (s : SS) (Fin : Value → SS → Prop) (l : List Value) : Prop := Fin (resMk l) s
def retQ (P : Program) (fn : Func) (Fin : Value → SS → Prop) : Out
  | .normal, s => resVals P s (retFin s Fin) fn.results.toList []
  | .ret, s => resVals P s (retFin s Fin) fn.results.toList []
  | _, _ => False

def resOne (_P : Program) (tmps : Array Value) : ResultVar → Sem Value
  | .tmp t => pure (tmps.getD t undef)
  | .cell a t => do loadVar t (← asAddr (tmps.getD a undef))

theorem resOne_sound {P : Program} {E : Env} {N : Nat} {s : SS} {a : Act} {w : World} (hr : Rel E N s a w) {r : ResultVar} {k : Value → Prop} (h : resOne' P s k r) :
    ∃ v, k v ∧ (resOne P a.tmps r).run P w = .ok v w := by
  unfold resOne' resCell at h
  split at h
  · rename_i t
    unfold resDen at h
    split at h
    · rename_i v hv
      have e := has_den (hr.frame.get t) hv
      exact ⟨v, h, by rw [← e]; rfl⟩
    · exact h.elim
  · rename_i c t
    split at h
    · rename_i i off hc
      obtain ⟨x, hk, hx⟩ := pvLoad_sound h
      unfold kDen resDen at hk
      split at hk
      · rename_i v hv
        have hp := hr.frame.get c
        rw [hc] at hp
        obtain ⟨u, hu, hhu⟩ := hx E w _ hr.mem trivial hp
        have e1 := has_den hhu hv
        subst e1
        obtain ⟨b, e2, _⟩ := ptr_form hp
        rw [e2] at hu
        simp only [Instr.loadAt, Instr.sureAddr, Sem.run_bind, Sem.run_pure, Result.andThen_ok] at hu
        exact ⟨u, hk, by simp only [resOne, e2, asAddr, Sem.run_bind, Sem.run_pure, Result.andThen_ok, hu]⟩
      · exact hk.elim
    · exact h.elim

theorem resVals_sound {P : Program} {E : Env} {N : Nat} {s : SS} {a : Act} {w : World} (hr : Rel E N s a w) {k : List Value → Prop} : ∀ {l : List ResultVar} {acc : List Value}, resVals P s k l acc →
    ∃ vs, k (acc ++ vs) ∧ (l.mapM (resOne P a.tmps)).run P w = .ok vs w
  | [], acc, h => ⟨[], by simpa [resVals] using h, by simp⟩
  | r :: rs, acc, h => by
    obtain ⟨v, hk, hv⟩ := resOne_sound hr (r := r) h
    obtain ⟨vs, hk2, hrun⟩ := resVals_sound hr (l := rs) hk
    exact ⟨v :: vs, by simpa using hk2, by simp only [List.mapM_cons, Sem.run_bind, hv, hrun, Result.andThen_ok, Sem.run_pure]⟩

theorem results_eq (P : Program) (fn : Func) (tmps : Array Value) : results fn tmps = (do
    let vs ← fn.results.mapM (resOne P tmps)
    pure (if h : vs.size = 1 then vs[0] else .tuple vs)) := by
  unfold results
  congr 1

theorem results_sound {P : Program} {E : Env} {N : Nat} {s : SS} {a : Act} {w : World} {fn : Func} {k : List Value → Prop} (hr : Rel E N s a w) (h : resVals P s k fn.results.toList []) :
    ∃ vs, k vs ∧ (results fn a.tmps).run P w = .ok (resMk vs) w := by
  obtain ⟨vs, hk, hrun⟩ := resVals_sound hr h
  rw [List.nil_append] at hk
  refine ⟨vs, hk, ?_⟩
  have e := List.mapM_toArray (m := Sem) (f := resOne P a.tmps) (l := fn.results.toList)
  rw [Array.toArray_toList] at e
  rw [results_eq P, Sem.run_bind]
  have e2 : (fn.results.mapM (resOne P a.tmps)).run P w = .ok vs.toArray w := by
    rw [e, Sem.run_map, hrun]; rfl
  rw [e2]
  simp only [Result.andThen_ok, Sem.run_pure]
  congr 1
  match vs with
  | [] => rfl
  | [v] => rfl
  | _ :: _ :: _ => rfl

def argF : Nat → List SV → Fr
  | _, [] => []
  | i, x :: r => (i, x) :: argF (i + 1) r

theorem argF_ok {M : List Res} : ∀ (args : List SV) (vs : List Value) (start : Nat) (t : Array Value), denL M args = some vs → (∀ (j : Nat) (v : Value), vs[j]? = some v → t.getD (start + j) undef = v) →
    ∀ i, has M ((argF start args).get i) (t.getD i undef)
  | [], _, _, _, _, _, i => trivial
  | x :: r, vs, start, t, h, ht, i => by
    simp only [denL, Option.bind_eq_some_iff, Option.map_eq_some_iff] at h
    obtain ⟨v, hv, us, hus, rfl⟩ := h
    simp only [argF, Fr.get]
    split
    · rename_i hi
      subst hi
      have := ht 0 v rfl
      rw [Nat.add_zero] at this
      rw [this]
      exact has_of hv
    · exact argF_ok r us (start + 1) t hus (fun j u hu => by
        have := ht (j + 1) u (by simpa using hu)
        rw [← this]
        congr 1
        omega) i

/-- a contract is proved: walk the body -/
theorem fn_intro {P : Program} {f : FuncId} {args : List SV} {Z : Heap} {L : List Res} {Post : Value → Heap → List Res → Prop} {fn : Func} {c : Code} (hf : P.funcs[f]? = some fn) (hb : fn.body = some c) (hn : args.length ≤ fn.ntmps)
    (Fin : Value → SS → Prop) (hfin : ∀ v s, Fin v s → ∀ E w, E.Z0 = Z → E.K = keysOf L → Mem E s.M s.Z w → ∃ Z' L', Z.le Z' ∧ Mem E L' Z' w ∧ Post v Z' L')
    (h : vcCode P fn.ntmps c (retQ P fn Fin) ⟨argF 0 args, L, Z⟩) : FnR P f args Z L Post := by
  intro w vs hd hm
  refine calls_of_wp hf hb (Code.wp_mono ?_ (vcCode_sound h (E := ⟨w, keysOf L, Z⟩) (a := { tmps := vs.toArray ++ Array.replicate (fn.ntmps - vs.toArray.size) undef, defers := [] }) (w := w) ⟨⟨?_, ?_⟩, rfl, hm⟩))
  · rintro e a' w' ⟨s, hr, hq⟩
    have key : resVals P s (retFin s Fin) fn.results.toList [] → a'.defers = [] ∧ ∃ v, (results fn a'.tmps).run P w' = .ok v w' ∧
        ∃ v0 Z' L', Ending.returned v = .returned v0 ∧ Z.le Z' ∧ Mem ⟨w, keysOf L, Z⟩ L' Z' w' ∧ Post v0 Z' L' := by
      intro hq
      obtain ⟨l, hk, hrun⟩ := results_sound hr hq
      obtain ⟨Z', L', h1, h2, h3⟩ := hfin _ _ hk ⟨w, keysOf L, Z⟩ w' rfl rfl hr.mem
      exact ⟨hr.defers, _, hrun, _, Z', L', rfl, h1, h2, h3⟩
    cases e with
    | normal => exact key hq
    | ret => exact key hq
    | exit id => exact hq.elim
    | goto l => exact hq.elim
    | panic c => exact hq.elim
    | outgrown => exact hq.elim
  · have := denL_length hd
    simp
    omega
  · refine argF_ok args vs 0 _ hd fun j v hv => ?_
    have hl : j < vs.length := (List.getElem?_eq_some_iff.1 hv).1
    simp only [Nat.zero_add, Array.getD_eq_getD_getElem?]
    rw [Array.getElem?_append_left (by simpa using hl)]
    simp [hv]

/-- only a value is told -/
def finV (Z : Heap) (Post : Value → Prop) (v : Value) (s : SS) : Prop := Z.le s.Z ∧ Post v
theorem fnV_intro {P : Program} {f : FuncId} {vs : List Value} {Z : Heap} {Post : Value → Prop} {fn : Func} {c : Code} (hf : P.funcs[f]? = some fn) (hb : fn.body = some c) (hn : vs.length ≤ fn.ntmps)
    (h : vcCode P fn.ntmps c (retQ P fn (finV Z Post)) ⟨argF 0 (vs.map .val), [], Z⟩) : FnV P f vs Z Post :=
  fn_intro hf hb (by simpa using hn) _ (fun _ s h _ _ _ _ hm => ⟨s.Z, s.M, h.1, hm, h.2⟩) h

/-! ## what a call leaves stays -/
def frz1 (M : List Res) (Z : Heap) : Res → Prop
  | .gone => True
  | .blk b cs _ => ∀ (j : Nat) (c : SV) (v : Value), cs[j]? = some c → den M c = some v → Z.cell ⟨b, j, none⟩ = some v
  | .row A cap _ _ n xs => Rds Z A 0 xs ∧ n ≤ cap
  | .arr b xs _ _ => ∀ (j : Nat) (v : Value), xs[j]? = some v → Z.cell ⟨b, j, none⟩ = some v
  | .obj b o => Z b = some o
def frzL (M : List Res) (Z : Heap) : List Res → Prop
  | [] => True
  | r :: rs => frz1 M Z r ∧ frzL M Z rs
theorem frzL_of {M : List Res} {Z : Heap} : ∀ {l : List Res}, (∀ r ∈ l, frz1 M Z r) → frzL M Z l
  | [], _ => trivial
  | r :: rs, h => ⟨h r (by simp), frzL_of fun r' hr' => h r' (by simp [hr'])⟩

theorem row_cap {w : World} {A : Option Addr} {cap : Nat} {e : TypeId} {z n : Nat} {xs : List Value} (h : w.ownsRow 0 e z (.slice A n cap) n xs) : n ≤ cap := by
  obtain ⟨_, ⟨he, hn⟩ | ⟨g, cap', cur, he, hg0, hh, hnc, _⟩⟩ := h
  · cases he; exact Nat.le_refl _
  · cases he; exact hnc

theorem Mem.freeze {E : Env} {M : List Res} {Z : Heap} {w : World} (h : Mem E M Z w) : ∃ Z' : Heap, Z.le Z' ∧ Mem E [] Z' w ∧ frzL M Z' M ∧ ∀ b o, Z' b = some o → Z b = some o ∨ ∃ (i : Nat) (r : Res), M[i]? = some r ∧ r.key = some b := by
  classical
  let Z' : Heap := fun b => if (∃ (i : Nat) (r : Res), M[i]? = some r ∧ r.key = some b) then w.heap[b]? else Z b
  have hin : ∀ (i : Nat) (r : Res) (b : Nat), M[i]? = some r → r.key = some b → Z' b = w.heap[b]? := fun i r b hi hk => if_pos ⟨i, r, hi, hk⟩
  have hle : Z.le Z' := fun b o hb => by
    show (if _ then _ else _) = _
    split
    · exact h.frozen b o hb
    · exact hb
  have hback : ∀ b o, Z' b = some o → Z b = some o ∨ ∃ (i : Nat) (r : Res), M[i]? = some r ∧ r.key = some b := by
    intro b o hb
    by_cases hk : ∃ (i : Nat) (r : Res), M[i]? = some r ∧ r.key = some b
    · exact .inr hk
    · left
      have : Z' b = Z b := if_neg hk
      rw [← this]; exact hb
  have hfz : Fzn Z' w := fun b o hb => by
    by_cases hk : ∃ (i : Nat) (r : Res), M[i]? = some r ∧ r.key = some b
    · have : Z' b = w.heap[b]? := if_pos hk
      rw [← this]; exact hb
    · have : Z' b = Z b := if_neg hk
      exact h.frozen b o (by rw [← this]; exact hb)
  have hcell : ∀ (i : Nat) (r : Res) (b : Nat) (off : Nat) (v : Value), M[i]? = some r → r.key = some b → w.cell? ⟨b, off, none⟩ = some v → Z'.cell ⟨b, off, none⟩ = some v := by
    intro i r b off v hi hk hc
    unfold Heap.cell
    simp only [hin i r b hi hk]
    exact hc
  refine ⟨Z', hle, ⟨hfz, by simp, by simp, by simp, by simp, fun b o hb => ?_, h.kept⟩, ?_, hback⟩
  · rcases hback b o hb with h1 | ⟨i, r, hi, hk⟩
    · exact h.zold b o h1
    · exact .inr (h.mine i r b hi hk)
  · refine frzL_of fun r hr => ?_
    obtain ⟨i, hi⟩ := List.getElem?_of_mem hr
    cases r with
    | gone => trivial
    | blk b cs ty =>
      intro j c v hc hv
      obtain ⟨x, hx, hh⟩ := h.cell hi hc
      rw [has_den hh hv] at hx
      exact hcell i _ b j v hi rfl hx
    | row A cap e z n xs =>
      have ho : w.ownsRow 0 e z (.slice A n cap) n xs := h.own i _ hi
      refine ⟨fun j u hj => ?_, row_cap ho⟩
      obtain ⟨g, cap', he, hc, _⟩ := row_cell ho hj
      cases he
      rw [Nat.zero_add]
      show Z'.cell ((⟨g, 0, none⟩ : Addr).add j) = some u
      rw [lit_add, Nat.zero_add]
      exact hcell i _ g j u hi rfl hc
    | arr b xs ty fr =>
      intro j v hj
      have ho : w.heap[b]? = some (.cells xs.toArray ty fr) := h.own i _ hi
      exact hcell i _ b j v hi rfl (by simp [World.cell?, ho, hj])
    | obj b o =>
      have ho : w.heap[b]? = some o := h.own i _ hi
      show Z' b = some o
      rw [hin i _ b hi rfl]; exact ho

/-- a value is told, and memory that stays -/
def finH (Z : Heap) (Post : Value → Heap → Prop) (v : Value) (s : SS) : Prop := Z.le s.Z ∧ ∀ Z', s.Z.le Z' → frzL s.M Z' s.M → Post v Z'
theorem fnH_intro {P : Program} {f : FuncId} {vs : List Value} {Z : Heap} {Post : Value → Heap → Prop} {fn : Func} {c : Code} (hf : P.funcs[f]? = some fn) (hb : fn.body = some c) (hn : vs.length ≤ fn.ntmps)
    (h : vcCode P fn.ntmps c (retQ P fn (finH Z Post)) ⟨argF 0 (vs.map .val), [], Z⟩) : FnH P f vs Z Post :=
  fn_intro hf hb (by simpa using hn) _ (fun _ s h _ _ _ _ hm => by
    obtain ⟨Z', h1, h2, h3, _⟩ := hm.freeze
    exact ⟨Z', [], h.1.trans h1, h2, h.2 Z' h1 h3⟩) h

/-! ## a call -/
theorem mem_start {E : Env} {M : List Res} {Z : Heap} {w : World} (h : Mem E M Z w) : Mem ⟨w, keysOf [], Z⟩ [] Z w :=
  ⟨h.frozen, by simp, by simp, by simp, by simp, fun b o hb => .inl hb, Kept.refl _ _⟩

theorem vcCall_H {P : Program} {N : Nat} {dst : Option Nat} {g : FuncId} {args : List SV} {s : SS} {K : SS → Prop} {Post : Value → Heap → Prop} (vs : List Value) (hd : denL s.M args = some vs)
    (h : FnH P g vs s.Z Post) (k : ∀ v Z', s.Z.le Z' → Post v Z' → kPut N dst ⟨s.F, s.M, Z'⟩ K (.val v)) : vcCall P N dst g args s K := by
  intro E a w hr us hus
  rw [hd] at hus; cases hus
  refine (h w vs (denL_vals vs) (mem_start hr.mem)).mono ?_
  rintro e w' ⟨v, Z', L', rfl, hz, hm, hp⟩
  refine ⟨v, rfl, ?_⟩
  have hk : Kept w (fun _ => False) w' := ⟨hm.kept.os, hm.kept.tape, hm.kept.output, hm.kept.size, fun b hb _ => hm.kept.block b hb (by rintro ⟨i, r, hi, _⟩; simp at hi)⟩
  have hm' : Mem E s.M Z' w' := hr.mem.after hk hm.frozen (fun b o hb => by
    rcases hm.zold b o hb with h1 | h1 | ⟨i, r, hi, _⟩
    · exact .inl h1
    · exact .inr h1
    · simp at hi)
  exact rel_put (x := .val v) (v := v) hr.frame hr.defers hm' rfl (k v Z' hz hp)


theorem Mem.less {E : Env} {M : List Res} {Z Z' : Heap} {w : World} (h : Mem E M Z' w) (hz : Z.le Z') : Mem E M Z w :=
  ⟨fun b o hb => h.frozen b o (hz b o hb), h.own, h.apart, (fun i r b hi hk => by
    cases hzb : Z b with
    | none => rfl
    | some o => have := hz b o hzb; rw [h.free i r b hi hk] at this; exact absurd this (by simp)),
   h.mine, fun b o hb => h.zold b o (hz b o hb), h.kept⟩

theorem vcCall_V {P : Program} {N : Nat} {dst : Option Nat} {g : FuncId} {args : List SV} {s : SS} {K : SS → Prop} {Post : Value → Prop} (vs : List Value) (hd : denL s.M args = some vs)
    (h : FnV P g vs s.Z Post) (k : ∀ v, Post v → kPut N dst s K (.val v)) : vcCall P N dst g args s K := by
  intro E a w hr us hus
  rw [hd] at hus; cases hus
  refine (h w vs (denL_vals vs) (mem_start hr.mem)).mono ?_
  rintro e w' ⟨v, Z', L', rfl, hz, hm, hp⟩
  refine ⟨v, rfl, ?_⟩
  have hk : Kept w (fun _ => False) w' := ⟨hm.kept.os, hm.kept.tape, hm.kept.output, hm.kept.size, fun b hb _ => hm.kept.block b hb (by rintro ⟨i, r, hi, _⟩; simp at hi)⟩
  have hm' : Mem E s.M s.Z w' := hr.mem.after hk (hm.less hz).frozen (fun b o hb => .inl hb)
  exact rel_put (x := .val v) (v := v) hr.frame hr.defers hm' rfl (k v hp)

theorem vcCall_E {P : Program} {N : Nat} {dst : Option Nat} {g : FuncId} {args : List SV} {s : SS} {K : SS → Prop} {r : Value} (vs : List Value) (hd : denL s.M args = some vs)
    (h : FnE P g vs s.Z r) (k : kPut N dst s K (.val r)) : vcCall P N dst g args s K :=
  vcCall_V vs hd h fun v hv => by subst hv; exact k

/-- the callee may look at what the caller owns -/
theorem vcCall_frz {P : Program} {N : Nat} {dst : Option Nat} {g : FuncId} {args : List SV} {s : SS} {K : SS → Prop} {Post : Value → Prop} (vs : List Value) (hd : denL s.M args = some vs)
    (h : ∀ Z', s.Z.le Z' → frzL s.M Z' s.M → FnV P g vs Z' Post) (k : ∀ v, Post v → kPut N dst s K (.val v)) : vcCall P N dst g args s K := by
  intro E a w hr us hus
  rw [hd] at hus; cases hus
  obtain ⟨Z1, h1, h2, h3, _⟩ := hr.mem.freeze
  refine (h Z1 h1 h3 w vs (denL_vals vs) (mem_start h2)).mono ?_
  rintro e w' ⟨v, Z', L', rfl, hz, hm, hp⟩
  refine ⟨v, rfl, ?_⟩
  have hk : Kept w (fun _ => False) w' := ⟨hm.kept.os, hm.kept.tape, hm.kept.output, hm.kept.size, fun b hb _ => hm.kept.block b hb (by rintro ⟨i, r, hi, _⟩; simp at hi)⟩
  have hm' : Mem E s.M s.Z w' := hr.mem.after hk ((hm.less hz).less h1).frozen (fun b o hb => .inl hb)
  exact rel_put (x := .val v) (v := v) hr.frame hr.defers hm' rfl (k v hp)

/-- the callee makes one row of its own, and hands it on alone -/
def FnO (P : Program) (f : FuncId) (vs : List Value) (Z : Heap) (e : TypeId) (z : Nat) (Post : Nat → List Value → Prop) : Prop :=
  FnR P f (vs.map .val) Z [] fun v _ L' => ∃ (i : Nat) (A : Option Addr) (cap n : Nat) (xs : List Value), L'[i]? = some (.row A cap e z n xs) ∧ v = .slice A n cap ∧ Post n xs

theorem vcCall_O {P : Program} {N : Nat} {dst : Option Nat} {g : FuncId} {args : List SV} {s : SS} {K : SS → Prop} {e : TypeId} {z : Nat} {Post : Nat → List Value → Prop} (vs : List Value) (hd : denL s.M args = some vs)
    (h : FnO P g vs s.Z e z Post) (k : ∀ A cap n xs, Post n xs → kPut N dst ⟨s.F, s.M ++ [.row A cap e z n xs], s.Z⟩ K (.row s.M.length)) : vcCall P N dst g args s K := by
  intro E a w hr us hus
  rw [hd] at hus; cases hus
  refine (h w vs (denL_vals vs) (mem_start hr.mem)).mono ?_
  rintro e' w' ⟨v, Z', L', rfl, hz, hm, i, A, cap, n, xs, hi, rfl, hp⟩
  refine ⟨_, rfl, ?_⟩
  have hk : Kept w (fun _ => False) w' := ⟨hm.kept.os, hm.kept.tape, hm.kept.output, hm.kept.size, fun b hb _ => hm.kept.block b hb (by rintro ⟨i, r, hi, _⟩; simp at hi)⟩
  have hm' : Mem E (s.M ++ [.row A cap e z n xs]) s.Z w' := hr.mem.add hk (fun c hc => by
    rcases hm.mine i _ c hi hc with h1 | ⟨j, r, hj, _⟩
    · exact h1
    · simp at hj) (hm.own i _ hi)
  exact rel_put (x := .row s.M.length) (v := .slice A n cap) (hr.frame.mono (Grows.append s.M _).places.has_) hr.defers hm' (by simp [has, den, Res.rowVal]) (k A cap n xs hp)

/-! ## less is known -/
theorem has_less_refl {M : List Res} {s : SV} {x : Value} (h : has M s x) : has M s x := h
/-- every slot that F' names holds what F says of it, or less -/
def subF (F : Fr) : Fr → Prop
  | [] => True
  | (i, x) :: r => (x = .any ∨ F.get i = x) ∧ subF F r
theorem subF_get {F : Fr} : ∀ {F' : Fr}, subF F F' → ∀ i, F'.get i = .any ∨ F'.get i = F.get i
  | [], _, i => .inl rfl
  | (j, x) :: r, h, i => by
    simp only [Fr.get]
    split
    · rename_i hj; subst hj
      rcases h.1 with e | e
      · exact .inl e
      · exact .inr e.symm
    · exact subF_get h.2 i

theorem incl_of {N : Nat} {F F' : Fr} {M : List Res} {Z : Heap} (h : subF F F') : Incl N ⟨F, M, Z⟩ ⟨F', M, Z⟩ := fun E a w hr =>
  ⟨hr.frame.less fun i x hx => by
    rcases subF_get h i with e | e
    · rw [e]; trivial
    · rw [e]; exact hx, hr.defers, hr.mem⟩
theorem Incl.trans {N : Nat} {a b c : SS} (h : Incl N a b) (k : Incl N b c) : Incl N a c := fun E x w hr => k E x w (h E x w hr)
theorem Incl.refl (N : Nat) (s : SS) : Incl N s s := fun _ _ _ h => h
/-- a nil slice is a row of nothing -/
theorem incl_adopt {N : Nat} {F : Fr} {M : List Res} {Z : Heap} (i : Nat) (e : TypeId) (z : Nat) (h : F.get i = .val (.slice none 0 0)) :
    Incl N ⟨F, M, Z⟩ ⟨(i, .row M.length) :: F, M ++ [.row none 0 e z 0 []], Z⟩ := fun E a w hr => by
  refine ⟨⟨hr.frame.1, fun j => ?_⟩, hr.defers, hr.mem.add (Kept.refl _ _) (fun c hc => by cases hc) (World.ownsRow_nil w 0 e z)⟩
  simp only [Fr.get]
  split
  · rename_i hj
    subst hj
    have := hr.frame.get i
    simp only at this
    rw [h] at this
    simp only [has] at this
    rw [← this]
    simp [has, den, Res.rowVal]
  · exact (Grows.append M _).places.has_ _ _ (hr.frame.get j)

/-! ## resources are let go -/
mutual
def within (n : Nat) : SV → Bool
  | .any | .val _ | .xptr _ _ => true
  | .ptr j _ | .row j | .rptr j _ | .mp j | .sl j _ _ _ => decide (j < n)
  | .agg cs | .tup cs | .fn _ cs => withinL n cs
  | .cnd _ x => within n x
def withinL (n : Nat) : List SV → Bool
  | [] => true
  | c :: cs => within n c && withinL n cs
end
mutual
theorem den_take {M : List Res} {n : Nat} : ∀ (s : SV), within n s = true → den (M.take n) s = den M s
  | .any, _ => rfl
  | .val _, _ => rfl
  | .xptr _ _, _ => rfl
  | .cnd _ _, _ => rfl
  | .ptr j _, h => by simp only [within, decide_eq_true_eq] at h; simp [den, h]
  | .row j, h => by simp only [within, decide_eq_true_eq] at h; simp [den, h]
  | .rptr j _, h => by simp only [within, decide_eq_true_eq] at h; simp [den, h]
  | .mp j, h => by simp only [within, decide_eq_true_eq] at h; simp [den, h]
  | .sl j _ _ _, h => by simp only [within, decide_eq_true_eq] at h; simp [den, h]
  | .agg cs, h => by simp only [den, denL_take' cs h]
  | .tup cs, h => by simp only [den, denL_take' cs h]
  | .fn _ cs, h => by simp only [den, denL_take' cs h]
theorem denL_take' {M : List Res} {n : Nat} : ∀ (cs : List SV), withinL n cs = true → denL (M.take n) cs = denL M cs
  | [], _ => rfl
  | c :: cs, h => by
    simp only [withinL, Bool.and_eq_true] at h
    simp only [denL, den_take c h.1, denL_take' cs h.2]
end
theorem has_take {M : List Res} {n : Nat} : ∀ (s : SV) (x : Value), within n s = true → has M s x → has (M.take n) s x
  | .any, _, _, _ => trivial
  | .val _, _, _, e => e
  | .cnd _ s, x, h, e => ⟨fun hb => has_take s x h (e.1 hb), e.2⟩
  | .ptr _ _, _, h, e => (den_take _ h).trans e
  | .row _, _, h, e => (den_take _ h).trans e
  | .rptr _ _, _, h, e => (den_take _ h).trans e
  | .mp _, _, h, e => (den_take _ h).trans e
  | .sl _ _ _ _, _, h, e => (den_take _ h).trans e
  | .xptr _ _, _, h, e => (den_take _ h).trans e
  | .agg _, _, h, e => (den_take _ h).trans e
  | .tup _, _, h, e => (den_take _ h).trans e
  | .fn _ _, _, h, e => (den_take _ h).trans e
def withinF (n : Nat) : Fr → Bool
  | [] => true
  | (_, x) :: r => within n x && withinF n r
def withinM (n : Nat) : List Res → Bool
  | [] => true
  | .blk _ cs _ :: r => withinL n cs && withinM n r
  | _ :: r => withinM n r
theorem withinF_get {n : Nat} : ∀ {F : Fr}, withinF n F = true → ∀ i, within n (F.get i) = true
  | [], _, i => rfl
  | (j, x) :: r, h, i => by
    simp only [withinF, Bool.and_eq_true] at h
    simp only [Fr.get]
    split
    · exact h.1
    · exact withinF_get h.2 i
theorem withinL_get {n : Nat} : ∀ {cs : List SV}, withinL n cs = true → ∀ (j : Nat) (c : SV), cs[j]? = some c → within n c = true
  | [], _, j, c, hc => by simp at hc
  | x :: cs, h, j, c, hc => by
    simp only [withinL, Bool.and_eq_true] at h
    cases j with
    | zero => simp at hc; subst hc; exact h.1
    | succ j => exact withinL_get h.2 j c (by simpa using hc)
theorem withinM_get {n : Nat} : ∀ {M : List Res}, withinM n M = true → ∀ (i b : Nat) (cs : List SV) (ty : TypeId), M[i]? = some (.blk b cs ty) → withinL n cs = true
  | [], _, i, b, cs, ty, hi => by simp at hi
  | r :: M, h, i, b, cs, ty, hi => by
    cases i with
    | zero => simp at hi; subst hi; simp only [withinM, Bool.and_eq_true] at h; exact h.1
    | succ i =>
      refine withinM_get (M := M) ?_ i b cs ty (by simpa using hi)
      cases r <;> simp only [withinM, Bool.and_eq_true] at h <;> first | exact h | exact h.2
theorem mem_take {E : Env} {M : List Res} {Z : Heap} {w : World} (h : Mem E M Z w) (n : Nat) (hM : withinM n (M.take n) = true) : Mem E (M.take n) Z w := by
  have hat : ∀ (i : Nat) (r : Res), (M.take n)[i]? = some r → M[i]? = some r := by
    intro i r hi
    rw [List.getElem?_take] at hi
    split at hi
    · exact hi
    · cases hi
  refine ⟨h.frozen, fun i r hi => ?_, fun i j r r' b hij hi hj => h.apart i j r r' b hij (hat i r hi) (hat j r' hj), fun i r b hi => h.free i r b (hat i r hi), fun i r b hi => h.mine i r b (hat i r hi), h.zold, h.kept⟩
  have ho := h.own i r (hat i r hi)
  cases r with
  | blk b cs ty =>
    obtain ⟨vs, h1, h2, h3⟩ := ho
    exact ⟨vs, h1, h2, fun j c hc => has_take _ _ (withinL_get (withinM_get hM i b cs ty hi) j c hc) (h3 j c hc)⟩
  | _ => exact ho

/-- less of the frame, fewer resources -/
theorem incl_take {N : Nat} {F F' : Fr} {M M' : List Res} {Z : Heap} (n : Nat) (hM : M' = M.take n) (h : subF F F') (hw : withinF n F' = true) (hm : withinM n M' = true) : Incl N ⟨F, M, Z⟩ ⟨F', M', Z⟩ := fun E a w hr => by
  subst hM
  refine ⟨⟨hr.frame.1, fun i => ?_⟩, hr.defers, mem_take hr.mem n hm⟩
  refine has_take _ _ (withinF_get hw i) ?_
  rcases subF_get h i with e | e
  · rw [e]; trivial
  · rw [e]; exact hr.frame.get i

/-- less is known to stay -/
theorem incl_Z {N : Nat} {F : Fr} {M : List Res} {Z Z' : Heap} (h : Z.le Z') : Incl N ⟨F, M, Z'⟩ ⟨F, M, Z⟩ := fun _ _ _ hr => ⟨hr.frame, hr.defers, hr.mem.less h⟩

end Go.SX
