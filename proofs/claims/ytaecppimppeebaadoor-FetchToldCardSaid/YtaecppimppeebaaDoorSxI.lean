/- A small layer for proofs about calls, part 12b: a row is lent; calls within a region that draws. -/
import Derived.Test.YtaecppimppeebaaDoorSxC
namespace Go.SX
open Go

theorem Mem.lend {E : Env} {M : List Res} {Z : Heap} {w : World} (h : Mem E M Z w) (i : Nat) : ∃ Z' : Heap, Z.le Z' ∧ Fzn Z' w ∧ (∀ j r, j ≠ i → M[j]? = some r → frz1 M Z' r) ∧
    (∀ r b, M[i]? = some r → r.key = some b → Z' b = none) := by
  classical
  let Z' : Heap := fun b => if (∃ (j : Nat) (r : Res), j ≠ i ∧ M[j]? = some r ∧ r.key = some b) then w.heap[b]? else Z b
  have hin : ∀ (j : Nat) (r : Res) (b : Nat), j ≠ i → M[j]? = some r → r.key = some b → Z' b = w.heap[b]? := fun j r b hj hi hk => if_pos ⟨j, r, hj, hi, hk⟩
  have hcell : ∀ (j : Nat) (r : Res) (b : Nat) (off : Nat) (v : Value), j ≠ i → M[j]? = some r → r.key = some b → w.cell? ⟨b, off, none⟩ = some v → Z'.cell ⟨b, off, none⟩ = some v := by
    intro j r b off v hj hi hk hc
    unfold Heap.cell
    simp only [hin j r b hj hi hk]
    exact hc
  refine ⟨Z', fun b o hb => ?_, fun b o hb => ?_, fun j r hj hi => ?_, fun r b hi hk => ?_⟩
  · show (if _ then _ else _) = _
    split
    · exact h.frozen b o hb
    · exact hb
  · by_cases hk : ∃ (j : Nat) (r : Res), j ≠ i ∧ M[j]? = some r ∧ r.key = some b
    · have : Z' b = w.heap[b]? := if_pos hk
      rw [← this]; exact hb
    · have : Z' b = Z b := if_neg hk
      exact h.frozen b o (by rw [← this]; exact hb)
  · cases r with
    | gone => trivial
    | blk b cs ty =>
      intro k c v hc hv
      obtain ⟨x, hx, hh⟩ := h.cell hi hc
      rw [has_den hh hv] at hx
      exact hcell j _ b k v hj hi rfl hx
    | row A cap e z n xs =>
      have ho : w.ownsRow 0 e z (.slice A n cap) n xs := h.own j _ hi
      refine ⟨fun k u hk => ?_, row_cap ho⟩
      obtain ⟨g, cap', he, hc, _⟩ := row_cell ho hk
      cases he
      rw [Nat.zero_add]
      show Z'.cell ((⟨g, 0, none⟩ : Addr).add k) = some u
      rw [lit_add, Nat.zero_add]
      exact hcell j _ g k u hj hi rfl hc
    | arr b xs ty fr =>
      intro k v hk
      have ho : w.heap[b]? = some (.cells xs.toArray ty fr) := h.own j _ hi
      exact hcell j _ b k v hj hi rfl (by simp [World.cell?, ho, hk])
    | obj b o =>
      have ho : w.heap[b]? = some o := h.own j _ hi
      show Z' b = some o
      rw [hin j _ b hj hi rfl]; exact ho
  · have hno : ¬ (∃ (j : Nat) (r : Res), j ≠ i ∧ M[j]? = some r ∧ r.key = some b) := by
      rintro ⟨j, r', hj, hj2, hk2⟩
      exact h.apart i j r r' b (Ne.symm hj) hi hj2 hk hk2
    have : Z' b = Z b := if_neg hno
    rw [this]; exact h.free i r b hi hk

/-- a function that is lent a row, writes into it and gives it back -/
def FnW (P : Program) (f : FuncId) (args : List SV) (Z : Heap) (A : Option Addr) (cap : Nat) (e : TypeId) (z n : Nat) (xs : List Value) (Post : List Value → Prop) : Prop :=
  FnR P f args Z [.row A cap e z n xs] fun v _ L => ∃ xs', v = .tuple #[] ∧ L = [.row A cap e z n xs'] ∧ Post xs'

theorem FnW.mono {P : Program} {f : FuncId} {args : List SV} {Z : Heap} {A : Option Addr} {cap : Nat} {e : TypeId} {z n : Nat} {xs : List Value} {Post Post' : List Value → Prop} (h : FnW P f args Z A cap e z n xs Post)
    (hp : ∀ xs', Post xs' → Post' xs') : FnW P f args Z A cap e z n xs Post' :=
  FnR.mono h fun _ _ _ _ ⟨xs', h1, h2, h3⟩ => ⟨xs', h1, h2, hp _ h3⟩

def finW (Z : Heap) (A : Option Addr) (cap : Nat) (e : TypeId) (z n : Nat) (Post : List Value → Prop) (v : Value) (s : SS) : Prop :=
  v = .tuple #[] ∧ Z.le s.Z ∧ ∃ xs' r, s.M = .row A cap e z n xs' :: r ∧ Post xs'
theorem fnW_intro {P : Program} {f : FuncId} {args : List SV} {Z : Heap} {A : Option Addr} {cap : Nat} {e : TypeId} {z n : Nat} {xs : List Value} {Post : List Value → Prop} {fn : Func} {c : Code} (hf : P.funcs[f]? = some fn)
    (hb : fn.body = some c) (hn : args.length ≤ fn.ntmps) (h : vcCode P fn.ntmps c (retQ P fn (finW Z A cap e z n Post)) ⟨argF 0 args, [.row A cap e z n xs], Z⟩) : FnW P f args Z A cap e z n xs Post :=
  fn_intro hf hb hn _ (fun v s ⟨hv, hz, xs', r, hM, hp⟩ E w h1 h2 hm => by
    refine ⟨s.Z, [.row A cap e z n xs'], hz, ?_, xs', hv, rfl, hp⟩
    have := mem_take hm 1 (by rw [hM]; rfl)
    rw [hM] at this
    exact this) h

theorem vcCall_W {P : Program} {N : Nat} {dst : Option Nat} {g : FuncId} {args : List SV} {s : SS} {K : SS → Prop} (i : Nat) {A : Option Addr} {cap : Nat} {e : TypeId} {z n : Nat} {xs : List Value} {Post : List Value → Prop} (args' : List SV) (vs : List Value)
    (hi : s.M[i]? = some (.row A cap e z n xs)) (hd : denL s.M args = some vs) (hd' : denL [.row A cap e z n xs] args' = some vs)
    (h : ∀ Z', s.Z.le Z' → (∀ j r, j ≠ i → s.M[j]? = some r → frz1 s.M Z' r) → FnW P g args' Z' A cap e z n xs Post)
    (k : ∀ xs', Post xs' → kPut N dst ⟨s.F, s.M.set i (.row A cap e z n xs'), s.Z⟩ K (.val (.tuple #[]))) : vcCall P N dst g args s K := by
  intro E a w hr us hus
  rw [hd] at hus; cases hus
  obtain ⟨Z1, hle, hfz, hfr, hno⟩ := hr.mem.lend i
  have hstart : Mem ⟨w, keysOf [.row A cap e z n xs], Z1⟩ [.row A cap e z n xs] Z1 w := by
    refine ⟨hfz, fun j r hj => ?_, fun j k r r' b hjk hj hk => ?_, fun j r b hj hb => ?_, fun j r b hj hb => ?_, fun b o hb => .inl hb, Kept.refl _ _⟩
    · match j, hj with
      | 0, hj => simp at hj; subst hj; exact hr.mem.own i _ hi
      | j + 1, hj => simp at hj
    · match j, k, hj, hk with
      | 0, 0, _, _ => exact absurd rfl hjk
      | j + 1, _, hj, _ => simp at hj
      | 0, k + 1, _, hk => simp at hk
    · match j, hj with
      | 0, hj => simp at hj; subst hj; exact hno _ b hi hb
      | j + 1, hj => simp at hj
    · exact .inr ⟨j, r, hj, hb⟩
  refine (h Z1 hle hfr w vs hd' hstart).mono ?_
  rintro e' w' ⟨v, Z', L', rfl, hz, hm, xs', rfl, rfl, hp⟩
  refine ⟨_, rfl, ?_⟩
  have hown' : OwnRes (s.M.set i (.row A cap e z n xs')) w' (.row A cap e z n xs') := hm.own 0 _ rfl
  have hP : Places s.M (s.M.set i (.row A cap e z n xs')) := places_set hi (fun _ _ e => e) (fun _ e => e) (fun _ _ e => e) (fun _ e => e) (fun _ _ _ _ e => e)
  have hmem : Mem E (s.M.set i (.row A cap e z n xs')) s.Z w' := by
    cases A with
    | some ad =>
      refine hr.mem.turn hi rfl ⟨hm.kept.os, hm.kept.tape, hm.kept.output, hm.kept.size, fun b hb hn => hm.kept.block b hb ?_⟩ hP (fun c hc => by cases hc; exact .inl rfl) hown'
      rintro ⟨j, r, hj, hk⟩
      match j, hj with
      | 0, hj => simp at hj; subst hj; cases hk; exact hn rfl
      | j + 1, hj => simp at hj
    | none =>
      have hk : Kept w (fun _ => False) w' := ⟨hm.kept.os, hm.kept.tape, hm.kept.output, hm.kept.size, fun b hb _ => hm.kept.block b hb (by
        rintro ⟨j, r, hj, hk⟩
        match j, hj with
        | 0, hj => simp at hj; subst hj; cases hk
        | j + 1, hj => simp at hj)⟩
      have hm' : Mem E s.M s.Z w' := hr.mem.after hk (fun b o hb => hm.frozen b o (hz b o (hle b o hb))) (fun b o hb => .inl hb)
      have e1 : xs' = xs := by
        have h1 : w.ownsRow 0 e z (.slice none n cap) n xs := hr.mem.own i _ hi
        have h2 : w'.ownsRow 0 e z (.slice none n cap) n xs' := hown'
        obtain ⟨hl1, ⟨hx, _⟩ | ⟨g, cap', cur, hx, _⟩⟩ := h1
        · cases hx
          obtain ⟨hl2, _⟩ := h2
          simp at hl1 hl2
          rw [hl1, hl2]
        · cases hx
      subst e1
      have e2 : s.M.set i (.row none cap e z n xs') = s.M := by
        apply List.ext_getElem?
        intro j
        rw [List.getElem?_set]
        split
        · rename_i hij; subst hij; rw [if_pos (List.getElem?_eq_some_iff.1 hi).1, hi]
        · rfl
      rw [e2]; exact hm'
  exact rel_put (x := .val (.tuple #[])) (v := .tuple #[]) (hr.frame.mono hP.has_) hr.defers hmem rfl (k xs' hp)

/-- a function that is lent a block of plain cells, writes into it and gives it back -/
def FnB (P : Program) (f : FuncId) (args : List SV) (Z : Heap) (b : Nat) (vs : List Value) (ty : TypeId) (Post : List Value → Prop) : Prop :=
  FnR P f args Z [.blk b (vs.map .val) ty] fun v _ L => ∃ vs', v = .tuple #[] ∧ L = [.blk b (vs'.map .val) ty] ∧ Post vs'
def finB (Z : Heap) (b : Nat) (ty : TypeId) (Post : List Value → Prop) (v : Value) (s : SS) : Prop :=
  v = .tuple #[] ∧ Z.le s.Z ∧ ∃ vs' r, s.M = .blk b (vs'.map .val) ty :: r ∧ Post vs'
theorem withinL_vals (n : Nat) : ∀ l : List Value, withinL n (l.map .val) = true
  | [] => rfl
  | v :: l => by simp [withinL, within, withinL_vals n l]
theorem fnB_intro {P : Program} {f : FuncId} {args : List SV} {Z : Heap} {b : Nat} {vs : List Value} {ty : TypeId} {Post : List Value → Prop} {fn : Func} {c : Code} (hf : P.funcs[f]? = some fn)
    (hb : fn.body = some c) (hn : args.length ≤ fn.ntmps) (h : vcCode P fn.ntmps c (retQ P fn (finB Z b ty Post)) ⟨argF 0 args, [.blk b (vs.map .val) ty], Z⟩) : FnB P f args Z b vs ty Post :=
  fn_intro hf hb hn _ (fun v s ⟨hv, hz, vs', r, hM, hp⟩ E w h1 h2 hm => by
    refine ⟨s.Z, [.blk b (vs'.map .val) ty], hz, ?_, vs', hv, rfl, hp⟩
    have := mem_take hm 1 (by rw [hM]; simp [withinM, withinL_vals])
    rw [hM] at this
    exact this) h
theorem vcCall_B {P : Program} {N : Nat} {dst : Option Nat} {g : FuncId} {args : List SV} {s : SS} {K : SS → Prop} (i : Nat) {b : Nat} {cs : List SV} {ty : TypeId} {Post : List Value → Prop} (old : List Value) (args' : List SV) (vs : List Value)
    (hi : s.M[i]? = some (.blk b cs ty)) (hcs : cs = old.map .val) (hd : denL s.M args = some vs) (hd' : denL [.blk b (old.map .val) ty] args' = some vs)
    (h : ∀ Z', s.Z.le Z' → (∀ j r, j ≠ i → s.M[j]? = some r → frz1 s.M Z' r) → FnB P g args' Z' b old ty Post)
    (k : ∀ new, Post new → kPut N dst ⟨s.F, s.M.set i (.blk b (new.map .val) ty), s.Z⟩ K (.val (.tuple #[]))) : vcCall P N dst g args s K := by
  subst hcs
  intro E a w hr us hus
  rw [hd] at hus; cases hus
  obtain ⟨Z1, hle, hfz, hfr, hno⟩ := hr.mem.lend i
  have hown0 : OwnRes [.blk b (old.map .val) ty] w (.blk b (old.map .val) ty) := by
    obtain ⟨cur, h1, h2, h3⟩ := hr.mem.own i _ hi
    refine ⟨cur, h1, h2, fun j c hc => ?_⟩
    have := h3 j c hc
    rw [List.getElem?_map, Option.map_eq_some_iff] at hc
    obtain ⟨y, _, rfl⟩ := hc
    exact this
  have hstart : Mem ⟨w, keysOf [.blk b (old.map .val) ty], Z1⟩ [.blk b (old.map .val) ty] Z1 w := by
    refine ⟨hfz, fun j r hj => ?_, fun j k r r' b' hjk hj hk => ?_, fun j r b' hj hb => ?_, fun j r b' hj hb => ?_, fun b' o hb => .inl hb, Kept.refl _ _⟩
    · match j, hj with
      | 0, hj => simp at hj; subst hj; exact hown0
      | j + 1, hj => simp at hj
    · match j, k, hj, hk with
      | 0, 0, _, _ => exact absurd rfl hjk
      | j + 1, _, hj, _ => simp at hj
      | 0, k + 1, _, hk => simp at hk
    · match j, hj with
      | 0, hj => simp at hj; subst hj; exact hno _ b' hi hb
      | j + 1, hj => simp at hj
    · exact .inr ⟨j, r, hj, hb⟩
  refine (h Z1 hle hfr w vs hd' hstart).mono ?_
  rintro e' w' ⟨v, Z', L', rfl, hz, hm, new, rfl, rfl, hp⟩
  refine ⟨_, rfl, ?_⟩
  have hP : Places s.M (s.M.set i (.blk b (new.map .val) ty)) := places_set hi (fun _ _ e => e) (fun _ e => e) (fun _ _ e => e) (fun _ e => e) (fun _ _ _ _ e => e)
  have hown' : OwnRes (s.M.set i (.blk b (new.map .val) ty)) w' (.blk b (new.map .val) ty) := by
    obtain ⟨cur, h1, h2, h3⟩ := hm.own 0 _ rfl
    refine ⟨cur, h1, h2, fun j c hc => ?_⟩
    have := h3 j c hc
    rw [List.getElem?_map, Option.map_eq_some_iff] at hc
    obtain ⟨y, _, rfl⟩ := hc
    exact this
  have hmem : Mem E (s.M.set i (.blk b (new.map .val) ty)) s.Z w' := by
    refine hr.mem.turn hi rfl ⟨hm.kept.os, hm.kept.tape, hm.kept.output, hm.kept.size, fun b' hb hn => hm.kept.block b' hb ?_⟩ hP (fun c hc => by cases hc; exact .inl rfl) hown'
    rintro ⟨j, r, hj, hk⟩
    match j, hj with
    | 0, hj => simp at hj; subst hj; cases hk; exact hn rfl
    | j + 1, hj => simp at hj
  exact rel_put (x := .val (.tuple #[])) (v := .tuple #[]) (hr.frame.mono hP.has_) hr.defers hmem rfl (k new hp)

theorem rds_frz {M : List Res} {Z : Heap} {b : Nat} {ty : TypeId} {vs : List Value} (h : frz1 M Z (.blk b (vs.map .val) ty)) : Rds Z (some ⟨b, 0, none⟩) 0 vs := by
  intro j v hv
  rw [Nat.zero_add]
  show Z.cell ((⟨b, 0, none⟩ : Addr).add j) = some v
  rw [lit_add, Nat.zero_add]
  exact h j (.val v) v (by simp [hv]) rfl
/-- one row of its own is handed on -/
def finO (Z : Heap) (e : TypeId) (z : Nat) (Post : Nat → List Value → Prop) (v : Value) (s : SS) : Prop :=
  Z.le s.Z ∧ ∃ (i : Nat) (A : Option Addr) (cap n : Nat) (xs : List Value), s.M[i]? = some (.row A cap e z n xs) ∧ v = .slice A n cap ∧ Post n xs
theorem fnO_intro {P : Program} {f : FuncId} {vs : List Value} {Z : Heap} {e : TypeId} {z : Nat} {Post : Nat → List Value → Prop} {fn : Func} {c : Code} (hf : P.funcs[f]? = some fn) (hb : fn.body = some c) (hn : vs.length ≤ fn.ntmps)
    (h : vcCode P fn.ntmps c (retQ P fn (finO Z e z Post)) ⟨argF 0 (vs.map .val), [], Z⟩) : FnO P f vs Z e z Post :=
  fn_intro hf hb (by simpa using hn) _ (fun v s ⟨hz, i, A, cap, n, xs, hi, hv, hp⟩ E w _ _ hm => ⟨s.Z, s.M, hz, hm, i, A, cap, n, xs, hi, hv, hp⟩) h

/-- a contract of the kit's, as one of mine -/
theorem fnE_of_calls {P : Program} {f : FuncId} {vs : List Value} {Z : Heap} {r : Value} (h : ∀ w : World, Fzn Z w → Calls P f vs.toArray w fun e w' => e = .returned r ∧ Kept w (fun _ => False) w') : FnE P f vs Z r := by
  intro w us hus hm
  rw [denL_vals] at hus; cases hus
  refine (h w hm.frozen).mono ?_
  rintro e w' ⟨rfl, hk⟩
  exact ⟨r, Z, [], rfl, Heap.le.refl _, hm.after hk (fun b o hb => (hk.block b (heap_lt (hm.frozen b o hb)) (fun f => f)).trans (hm.frozen b o hb)) (fun _ _ hb => .inl hb), rfl⟩

theorem vcCallX_E {P : Program} {g : FuncId} {args : List SV} {s : SS} {k : SV → Prop} {r : Value} (vs : List Value) (hd : denL s.M args = some vs) (h : FnE P g vs s.Z r) (hk : k (.val r)) : vcCallX P g args s k := by
  refine ⟨r, fun E w us hus hm => ?_, hk⟩
  rw [hd] at hus; cases hus
  refine (h w vs (denL_vals vs) (mem_start hm)).mono ?_
  rintro e w' ⟨v, Z', L', rfl, hz, hm', rfl⟩
  have hkp : Kept w (fun _ => False) w' := ⟨hm'.kept.os, hm'.kept.tape, hm'.kept.output, hm'.kept.size, fun b hb _ => hm'.kept.block b hb (by rintro ⟨i, r, hi, _⟩; simp at hi)⟩
  exact ⟨rfl, hkp⟩
/-- .. that may look at what the caller owns -/
theorem vcCallX_frz {P : Program} {g : FuncId} {args : List SV} {s : SS} {k : SV → Prop} {r : Value} (vs : List Value) (hd : denL s.M args = some vs) (h : ∀ Z', s.Z.le Z' → frzL s.M Z' s.M → FnE P g vs Z' r) (hk : k (.val r)) : vcCallX P g args s k := by
  refine ⟨r, fun E w us hus hm => ?_, hk⟩
  rw [hd] at hus; cases hus
  obtain ⟨Z1, h1, h2, h3, _⟩ := hm.freeze
  refine (h Z1 h1 h3 w vs (denL_vals vs) (mem_start h2)).mono ?_
  rintro e w' ⟨v, Z', L', rfl, hz, hm', rfl⟩
  exact ⟨rfl, hm'.kept.os, hm'.kept.tape, hm'.kept.output, hm'.kept.size, fun b hb _ => hm'.kept.block b hb (by rintro ⟨i, r, hi, _⟩; simp at hi)⟩

/-- what is owned becomes memory that stays -/
def denO (v : Option Value) : SV :=
  match v with
  | some v => .val v
  | none => .any
def denS (M : List Res) (s : SV) : SV := denO (den M s)
theorem denS_has {M : List Res} {s : SV} {x : Value} (h : has M s x) : has [] (denS M s) x := by
  unfold denS denO
  split
  · rename_i v hv; exact (has_den h hv).symm
  · trivial

theorem vcCall_HF {P : Program} {N : Nat} {dst : Option Nat} {g : FuncId} {args : List SV} {s : SS} {K : SS → Prop} {Post : Value → Heap → Prop} (vs : List Value) (hd : denL s.M args = some vs)
    (h : ∀ Z1, s.Z.le Z1 → frzL s.M Z1 s.M → FnH P g vs Z1 Post)
    (k : ∀ v Z1 Z2, s.Z.le Z1 → frzL s.M Z1 s.M → Z1.le Z2 → Post v Z2 → kPut N dst ⟨s.F.map (denS s.M), [], Z2⟩ K (.val v)) : vcCall P N dst g args s K := by
  intro E a w hr us hus
  rw [hd] at hus; cases hus
  obtain ⟨Z1, h1, h2, h3, _⟩ := hr.mem.freeze
  refine (h Z1 h1 h3 w vs (denL_vals vs) (mem_start h2)).mono ?_
  rintro e w' ⟨v, Z', L', rfl, hz, hm, hp⟩
  refine ⟨v, rfl, ?_⟩
  have hk : Kept w (fun _ => False) w' := ⟨hm.kept.os, hm.kept.tape, hm.kept.output, hm.kept.size, fun b hb _ => hm.kept.block b hb (by rintro ⟨i, r, hi, _⟩; simp at hi)⟩
  have hm' : Mem E [] Z' w' := h2.after hk hm.frozen (fun b o hb => by
    rcases hm.zold b o hb with h1 | h1 | ⟨i, r, hi, _⟩
    · exact .inl h1
    · exact .inr h1
    · simp at hi)
  exact rel_put (x := .val v) (v := v) (hr.frame.map (denS s.M) rfl fun s x hx => denS_has hx) hr.defers hm' rfl (k v Z1 Z' h1 h3 hz hp)

end Go.SX
