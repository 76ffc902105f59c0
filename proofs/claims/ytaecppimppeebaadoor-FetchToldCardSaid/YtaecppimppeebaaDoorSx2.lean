/- A small layer for proofs about calls, part 2: what is known of memory, and what each step does to it. -/
import Derived.Test.YtaecppimppeebaaDoorSx1
namespace Go.SX
open Go

/-- where a call began: its world, the blocks that were lent to it, what was known to stay -/
structure Env where
  w0 : World
  K : Nat → Prop
  Z0 : Heap

def OwnRes (M : List Res) (w : World) : Res → Prop
  | .gone => True
  | .blk b cs ty => ∃ vs : Array Value, w.heap[b]? = some (.cells vs ty (0, 0)) ∧ vs.size = cs.length ∧ ∀ (j : Nat) (c : SV), cs[j]? = some c → has M c (vs.getD j undef)
  | .row A cap e size n xs => w.ownsRow 0 e size (.slice A n cap) n xs
  | .obj b o => w.heap[b]? = some o
  | .arr b xs ty fr => w.heap[b]? = some (.cells xs.toArray ty fr)

structure Mem (E : Env) (M : List Res) (Z : Heap) (w : World) : Prop where
  frozen : Fzn Z w
  own : ∀ (i : Nat) (r : Res), M[i]? = some r → OwnRes M w r
  apart : ∀ (i j : Nat) (r r' : Res) (b : Nat), i ≠ j → M[i]? = some r → M[j]? = some r' → r.key = some b → r'.key ≠ some b
  free : ∀ (i : Nat) (r : Res) (b : Nat), M[i]? = some r → r.key = some b → Z b = none
  mine : ∀ (i : Nat) (r : Res) (b : Nat), M[i]? = some r → r.key = some b → E.w0.heap.size ≤ b ∨ E.K b
  zold : ∀ b o, Z b = some o → E.Z0 b = some o ∨ E.w0.heap.size ≤ b ∨ E.K b
  kept : Kept E.w0 E.K w

theorem key_lt {M : List Res} {w : World} {r : Res} {b : Nat} (h : OwnRes M w r) (hk : r.key = some b) : b < w.heap.size := by
  cases r with
  | gone => cases hk
  | blk b' cs ty => cases hk; obtain ⟨vs, h1, _⟩ := h; exact heap_lt h1
  | obj b' o => cases hk; exact heap_lt h
  | arr b' xs ty fr => cases hk; exact heap_lt h
  | row A cap e size n xs =>
    obtain ⟨_, h | ⟨g, cap, cur, hv, _, hh, _⟩⟩ := h
    · obtain ⟨hv, _⟩ := h; cases hv; cases hk
    · cases hv; simp [Res.key] at hk; subst hk; exact heap_lt hh

/-- a resource is as it was where its block is -/
theorem OwnRes.same {M : List Res} {w w' : World} {r : Res} (h : OwnRes M w r) (hb : ∀ b, r.key = some b → w'.heap[b]? = w.heap[b]?) : OwnRes M w' r := by
  cases r with
  | gone => trivial
  | blk b cs ty => obtain ⟨vs, h1, h2⟩ := h; exact ⟨vs, (hb b rfl).trans h1, h2⟩
  | obj b o => exact (hb b rfl).trans h
  | arr b xs ty fr => exact (hb b rfl).trans h
  | row A cap e size n xs =>
    obtain ⟨h0, h | ⟨g, cap, cur, hv, h1, hh, h2⟩⟩ := h
    · exact ⟨h0, .inl h⟩
    · exact ⟨h0, .inr ⟨g, cap, cur, hv, h1, (hb g (by cases hv; rfl)).trans hh, h2⟩⟩

theorem OwnRes.mono {M M' : List Res} {w : World} {r : Res} (h : OwnRes M w r) (hM : ∀ s x, has M s x → has M' s x) : OwnRes M' w r := by
  cases r with
  | blk b cs ty => obtain ⟨vs, h1, h2, h3⟩ := h; exact ⟨vs, h1, h2, fun j c hc => hM _ _ (h3 j c hc)⟩
  | _ => exact h

section
variable {E : Env} {M : List Res} {Z : Heap} {w : World}

theorem Mem.drew (h : Mem E M Z w) : Mem E M Z w.drew :=
  ⟨h.frozen, h.own, h.apart, h.free, h.mine, h.zold, ⟨h.kept.os, h.kept.tape, h.kept.output, h.kept.size, h.kept.block⟩⟩
theorem Mem.drawn (h : Mem E M Z w) (n : Nat) : Mem E M Z { w with drawn := n } :=
  ⟨h.frozen, h.own, h.apart, h.free, h.mine, h.zold, ⟨h.kept.os, h.kept.tape, h.kept.output, h.kept.size, h.kept.block⟩⟩

theorem Mem.lt (h : Mem E M Z w) {i : Nat} {r : Res} {b : Nat} (hi : M[i]? = some r) (hk : r.key = some b) : b < w.heap.size := key_lt (h.own i r hi) hk

/-- what another call leaves: new blocks, and more that stays -/
theorem Mem.after (h : Mem E M Z w) {Z' : Heap} {w' : World} (hk : Kept w (fun _ => False) w') (hz : Fzn Z' w')
    (hn : ∀ b o, Z' b = some o → Z b = some o ∨ w.heap.size ≤ b) : Mem E M Z' w' := by
  refine ⟨hz, fun i r hi => (h.own i r hi).same fun b hb => hk.block b (h.lt hi hb) (fun f => f), h.apart, fun i r b hi hb => ?_, h.mine, fun b o hb => ?_, h.kept.trans hk fun _ _ f => f.elim⟩
  · cases hz' : Z' b with
    | none => rfl
    | some o =>
      rcases hn b o hz' with h1 | h1
      · rw [h.free i r b hi hb] at h1; cases h1
      · have := h.lt hi hb; omega
  · rcases hn b o hb with h1 | h1
    · exact h.zold b o h1
    · exact .inr (.inl (Nat.le_trans h.kept.size h1))

theorem heap_alloc_lt {o : Obj} {b : Nat} (hb : b < w.heap.size) : (w.alloc o).heap[b]? = w.heap[b]? := by
  show (w.heap.push o)[b]? = _
  rw [Array.getElem?_push, if_neg (by omega)]
theorem heap_alloc_at (o : Obj) : (w.alloc o).heap[w.heap.size]? = some o := by
  show (w.heap.push o)[w.heap.size]? = _
  rw [Array.getElem?_push, if_pos rfl]
theorem heap_alloc_size (o : Obj) : (w.alloc o).heap.size = w.heap.size + 1 := by
  show (w.heap.push o).size = _; simp

/-- a new block, and what is known of it -/
theorem Mem.new (h : Mem E M Z w) (o : Obj) (r : Res) (hk : ∀ b, r.key = some b → b = w.heap.size) (hr : OwnRes (M ++ [r]) (w.alloc o) r) : Mem E (M ++ [r]) Z (w.alloc o) := by
  have hg : ∀ s x, has M s x → has (M ++ [r]) s x := (Grows.append M [r]).places.has_
  have hat : ∀ i r', (M ++ [r])[i]? = some r' → M[i]? = some r' ∨ (i = M.length ∧ r' = r) := by
    intro i r' hi
    rw [List.getElem?_append] at hi
    split at hi
    · exact .inl hi
    · rename_i hl
      right
      have : i - M.length = 0 := by
        cases hd : i - M.length with
        | zero => rfl
        | succ n => rw [hd] at hi; simp at hi
      rw [this] at hi
      simp at hi
      exact ⟨by omega, hi.symm⟩
  refine ⟨fun b o' hb => (heap_alloc_lt (heap_lt (h.frozen b o' hb))).trans (h.frozen b o' hb), ?_, ?_, ?_, ?_, h.zold, ?_⟩
  · intro i r' hi
    rcases hat i r' hi with hi | ⟨rfl, rfl⟩
    · exact ((h.own i r' hi).mono hg).same fun b hb => heap_alloc_lt (h.lt hi hb)
    · exact hr
  · intro i j r1 r2 b hij hi hj hb hb'
    rcases hat i r1 hi with hi1 | ⟨rfl, rfl⟩
    · rcases hat j r2 hj with hj1 | ⟨rfl, rfl⟩
      · exact h.apart i j r1 r2 b hij hi1 hj1 hb hb'
      · have := h.lt hi1 hb; have := hk b hb'; omega
    · rcases hat j r2 hj with hj1 | ⟨rfl, rfl⟩
      · have := h.lt hj1 hb'; have := hk b hb; omega
      · exact hij rfl
  · intro i r' b hi hb
    rcases hat i r' hi with hi | ⟨rfl, rfl⟩
    · exact h.free i r' b hi hb
    · have := hk b hb
      subst this
      cases hz : Z w.heap.size with
      | none => rfl
      | some o' => have := heap_lt (h.frozen _ _ hz); omega
  · intro i r' b hi hb
    rcases hat i r' hi with hi | ⟨rfl, rfl⟩
    · exact h.mine i r' b hi hb
    · rw [hk b hb]; exact .inl h.kept.size
  · refine ⟨h.kept.os, h.kept.tape, h.kept.output, ?_, fun b hb hn => (heap_alloc_lt (Nat.lt_of_lt_of_le hb h.kept.size)).trans (h.kept.block b hb hn)⟩
    rw [heap_alloc_size]
    have := h.kept.size
    omega

theorem Mem.new_blk (h : Mem E M Z w) (vs : Array Value) (cs : List SV) (ty : TypeId) (hs : vs.size = cs.length) (hc : ∀ (j : Nat) (c : SV), cs[j]? = some c → has M c (vs.getD j undef)) :
    Mem E (M ++ [.blk w.heap.size cs ty]) Z (w.alloc (.cells vs ty)) :=
  h.new _ _ (fun b hb => by cases hb; rfl) ⟨vs, heap_alloc_at _, hs, fun j c hj => (Grows.append M _).places.has_ _ _ (hc j c hj)⟩

theorem heap_set_ne {p : Addr} {u : Value} {b : Nat} (hb : b ≠ p.block) : (w.setCell p u).heap[b]? = w.heap[b]? := by
  simp only [World.setCell, Array.getElem?_modify]
  rw [if_neg (by omega)]

/-- the world has turned at one resource's block alone -/
theorem Mem.turn (h : Mem E M Z w) {i : Nat} {r r' : Res} {w' : World} {b : Nat} (hi : M[i]? = some r) (hb : r.key = some b)
    (hw : Kept w (· = b) w') (hP : Places M (M.set i r')) (hk : ∀ c, r'.key = some c → c = b ∨ w.heap.size ≤ c) (hr : OwnRes (M.set i r') w' r') : Mem E (M.set i r') Z w' := by
  have hlt : i < M.length := (List.getElem?_eq_some_iff.1 hi).1
  have hat : ∀ j r1, (M.set i r')[j]? = some r1 → (j ≠ i ∧ M[j]? = some r1) ∨ (j = i ∧ r1 = r') := by
    intro j r1 hj
    rw [List.getElem?_set] at hj
    by_cases hij : i = j
    · subst hij; simp [hlt] at hj; exact .inr ⟨rfl, hj.symm⟩
    · simp [hij] at hj; exact .inl ⟨fun e => hij e.symm, hj⟩
  have hbz : ∀ c o, Z c = some o → c ≠ b := fun c o hc e => by subst e; rw [h.free i r c hi hb] at hc; cases hc
  refine ⟨fun c o hc => (hw.block c (heap_lt (h.frozen c o hc)) (hbz c o hc)).trans (h.frozen c o hc), ?_, ?_, ?_, ?_, h.zold, ?_⟩
  · intro j r1 hj
    rcases hat j r1 hj with ⟨hne, hj⟩ | ⟨rfl, rfl⟩
    · exact ((h.own j r1 hj).mono hP.has_).same fun c hc => hw.block c (h.lt hj hc) fun e => h.apart i j r r1 b (fun e => hne e.symm) hi hj hb (by rw [← e]; exact hc)
    · exact hr
  · intro j k r1 r2 c hjk hj hk' hc hc'
    rcases hat j r1 hj with ⟨hne, hj1⟩ | ⟨e1, e2⟩
    · rcases hat k r2 hk' with ⟨hne', hk1⟩ | ⟨e1, e2⟩
      · exact h.apart j k r1 r2 c hjk hj1 hk1 hc hc'
      · rw [e2] at hc'
        rcases hk c hc' with e | hge
        · subst e; exact h.apart j _ r1 r c hne hj1 hi hc hb
        · have := h.lt hj1 hc; omega
    · rw [e2] at hc
      rcases hat k r2 hk' with ⟨hne', hk1⟩ | ⟨e3, e4⟩
      · rcases hk c hc with e | hge
        · subst e; exact h.apart k _ r2 r c hne' hk1 hi hc' hb
        · have := h.lt hk1 hc'; omega
      · exact hjk (e1.trans e3.symm)
  · intro j r1 c hj hc
    rcases hat j r1 hj with ⟨hne, hj⟩ | ⟨rfl, rfl⟩
    · exact h.free j r1 c hj hc
    · rcases hk c hc with rfl | hge
      · exact h.free _ r c hi hb
      · cases hz : Z c with
        | none => rfl
        | some o' => have := heap_lt (h.frozen _ _ hz); omega
  · intro j r1 c hj hc
    rcases hat j r1 hj with ⟨hne, hj⟩ | ⟨rfl, rfl⟩
    · exact h.mine j r1 c hj hc
    · rcases hk c hc with rfl | hge
      · exact h.mine _ r c hi hb
      · exact .inl (Nat.le_trans h.kept.size hge)
  · refine h.kept.trans hw fun x hx e => ?_
    subst e
    rcases h.mine i r x hi hb with h1 | h1
    · omega
    · exact h1

theorem places_set {i : Nat} {r r' : Res} (hi : M[i]? = some r) (h1 : ∀ off v, r.ptrAt off = some v → r'.ptrAt off = some v) (h2 : ∀ v, r.rowVal = some v → r'.rowVal = some v)
    (h3 : ∀ off v, r.rptrAt off = some v → r'.rptrAt off = some v) (h4 : ∀ v, r.mapVal = some v → r'.mapVal = some v)
    (h5 : ∀ off len cap v, r.slAt off len cap = some v → r'.slAt off len cap = some v) : Places M (M.set i r') := by
  intro j r1 hj
  by_cases hij : i = j
  · subst hij
    rw [hi] at hj; cases hj
    exact ⟨r', by rw [List.getElem?_set]; simp [(List.getElem?_eq_some_iff.1 hi).1], h1, h2, h3, h4, h5⟩
  · exact ⟨r1, by rw [List.getElem?_set]; simp [hij, hj], fun _ _ e => e, fun _ e => e, fun _ _ e => e, fun _ e => e, fun _ _ _ _ e => e⟩

/-- a store into a cell of a known block -/
theorem Mem.store (h : Mem E M Z w) {i b off : Nat} {cs : List SV} {ty : TypeId} {c : SV} {x : Value} (hi : M[i]? = some (.blk b cs ty)) (ho : off < cs.length) (hc : has M c x) :
    Mem E (M.set i (.blk b (cs.set off c) ty)) Z (w.setCell ⟨b, off, none⟩ x) := by
  have hP : Places M (M.set i (.blk b (cs.set off c) ty)) := places_set hi (fun _ _ e => e) (fun _ e => e) (fun _ _ e => e) (fun _ e => e) (fun _ _ _ _ e => e)
  refine h.turn hi rfl ⟨rfl, rfl, rfl, by simp [World.setCell], fun k _ hk => heap_set_ne hk⟩ hP (fun c hc => by cases hc; exact .inl rfl) ?_
  obtain ⟨vs, h1, h2, h3⟩ := h.own i _ hi
  refine ⟨vs.setIfInBounds off x, ?_, by simp [h2], fun j d hj => ?_⟩
  · simp [World.setCell, Array.getElem?_modify, h1]
  · rw [List.getElem?_set] at hj
    simp only [Array.getD_eq_getD_getElem?, Array.getElem?_setIfInBounds]
    by_cases hoj : off = j
    · subst hoj
      simp only [if_true] at hj ⊢
      rw [if_pos ho] at hj
      cases hj
      rw [if_pos (by omega)]
      exact hP.has_ _ _ hc
    · simp only [hoj, if_false] at hj ⊢
      have := h3 j d hj
      simp only [Array.getD_eq_getD_getElem?] at this
      exact hP.has_ _ _ this

/-- the cell of a known block -/
theorem Mem.cell (h : Mem E M Z w) {i b off : Nat} {cs : List SV} {ty : TypeId} {c : SV} (hi : M[i]? = some (.blk b cs ty)) (ho : cs[off]? = some c) :
    ∃ x, w.cell? ⟨b, off, none⟩ = some x ∧ has M c x := by
  obtain ⟨vs, h1, h2, h3⟩ := h.own i _ hi
  have hl : off < vs.size := by rw [h2]; exact (List.getElem?_eq_some_iff.1 ho).1
  refine ⟨vs[off], by simp [World.cell?, h1, hl], ?_⟩
  have := h3 off c ho
  simpa [Array.getD_eq_getD_getElem?, hl] using this
theorem Mem.unfrozen (h : Mem E M Z w) {i b off : Nat} {cs : List SV} {ty : TypeId} (hi : M[i]? = some (.blk b cs ty)) : w.frozen? ⟨b, off, none⟩ = false := by
  obtain ⟨vs, h1, _⟩ := h.own i _ hi
  simp [World.frozen?, h1]
end
end Go.SX
