/- A small layer for proofs about calls: what is known of a frame and of memory, as data. Words and their plain laws. -/
import Derived.WalkKit
namespace Go.SX
open Go

/-! ## memory that stays: a part of the heap that is known, and that nobody writes -/
abbrev Heap := Nat → Option Obj
def Heap.le (Z Z' : Heap) : Prop := ∀ b o, Z b = some o → Z' b = some o
theorem Heap.le.refl (Z : Heap) : Z.le Z := fun _ _ h => h
theorem Heap.le.trans {A B C : Heap} (h : A.le B) (k : B.le C) : A.le C := fun _ _ e => k _ _ (h _ _ e)
def Heap.cell (Z : Heap) (a : Addr) : Option Value :=
  match Z a.block with
  | some (.cells c _ _) => if a.spot.isSome then none else c[a.off]?
  | _ => none
theorem Heap.le.cell {Z Z' : Heap} (h : Z.le Z') {a : Addr} {v : Value} (hc : Z.cell a = some v) : Z'.cell a = some v := by
  unfold Heap.cell at hc ⊢
  cases hz : Z a.block with
  | none => rw [hz] at hc; cases hc
  | some o => rw [h _ _ hz]; rw [hz] at hc; exact hc

/-- what a slice's or a pointer's address leads to, so many cells behind it -/
def rd (Z : Heap) (A : Option Addr) (off : Nat) : Option Value := A.bind fun a => Z.cell (a.add off)
theorem Heap.le.rd {Z Z' : Heap} (h : Z.le Z') {A : Option Addr} {off : Nat} {v : Value} (hc : SX.rd Z A off = some v) : SX.rd Z' A off = some v := by
  cases A with
  | none => cases hc
  | some a => exact h.cell hc

def Fzn (Z : Heap) (w : World) : Prop := ∀ b o, Z b = some o → w.heap[b]? = some o
theorem Fzn.cell {Z : Heap} {w : World} (h : Fzn Z w) {a : Addr} {v : Value} (hc : Z.cell a = some v) : w.cell? a = some v := by
  unfold Heap.cell at hc
  unfold World.cell?
  cases hz : Z a.block with
  | none => rw [hz] at hc; cases hc
  | some o => rw [h _ _ hz]; rw [hz] at hc; exact hc

/-- 'w' is w0 with more blocks; of the old ones only those in K may have turned -/
structure Kept (w0 : World) (K : Nat → Prop) (w : World) : Prop where
  os : w.os = w0.os
  tape : w.tape = w0.tape
  output : w.output = w0.output
  size : w0.heap.size ≤ w.heap.size
  block : ∀ b, b < w0.heap.size → ¬ K b → w.heap[b]? = w0.heap[b]?
theorem Kept.refl (w : World) (K : Nat → Prop) : Kept w K w := ⟨rfl, rfl, rfl, Nat.le_refl _, fun _ _ _ => rfl⟩
theorem Kept.trans {a b c : World} {K K' : Nat → Prop} (h : Kept a K b) (k : Kept b K' c) (hK : ∀ x, x < a.heap.size → K' x → K x) : Kept a K c :=
  ⟨k.os.trans h.os, k.tape.trans h.tape, k.output.trans h.output, Nat.le_trans h.size k.size,
   fun x hx hn => (k.block x (Nat.lt_of_lt_of_le hx h.size) (fun hk => hn (hK x hx hk))).trans (h.block x hx hn)⟩
theorem heap_lt {w : World} {b : Nat} {o : Obj} (h : w.heap[b]? = some o) : b < w.heap.size := by
  rcases Nat.lt_or_ge b w.heap.size with hlt | hge
  · exact hlt
  · rw [Array.getElem?_eq_none hge] at h; cases h

/-! ## what is known of a value -/
inductive SV where
  | any
  | val (v : Value)
  | ptr (i off : Nat)
  | row (i : Nat)
  | rptr (i off : Nat)
  | mp (i : Nat)
  | sl (i off len cap : Nat)
  | xptr (A : Option Addr) (off : Nat)
  | agg (cs : List SV)
  | tup (cs : List SV)
  | fn (f : Fn) (cap : List SV)
  | cnd (b : Bool) (x : SV)

inductive Res where
  | gone
  | blk (b : Nat) (cs : List SV) (ty : TypeId)
  | row (A : Option Addr) (cap : Nat) (e : TypeId) (size n : Nat) (xs : List Value)
  | obj (b : Nat) (o : Obj)
  | arr (b : Nat) (xs : List Value) (ty : TypeId) (fr : Nat × Nat)

def Res.key : Res → Option Nat
  | .gone => none
  | .blk b _ _ => some b
  | .row A _ _ _ _ _ => A.map (·.block)
  | .obj b _ => some b
  | .arr b _ _ _ => some b
def Res.ptrAt (off : Nat) : Res → Option Value
  | .blk b _ _ | .arr b _ _ _ => some (.pointer (some ⟨b, off, none⟩))
  | _ => none
def Res.slAt (off len cap : Nat) : Res → Option Value
  | .blk b _ _ | .arr b _ _ _ => some (.slice (some ⟨b, off, none⟩) len cap)
  | _ => none
def Res.rowVal : Res → Option Value
  | .row A cap _ _ n _ => some (.slice A n cap)
  | _ => none
def Res.rptrAt (off : Nat) : Res → Option Value
  | .row A _ _ _ _ _ => A.map fun a => .pointer (some (a.add off))
  | _ => none
def Res.mapVal : Res → Option Value
  | .obj b _ => some (.map (some b))
  | _ => none

mutual
def den (M : List Res) : SV → Option Value
  | .any => none
  | .val v => some v
  | .ptr i off => (M[i]?).bind (Res.ptrAt off)
  | .row i => (M[i]?).bind Res.rowVal
  | .rptr i off => (M[i]?).bind (Res.rptrAt off)
  | .mp i => (M[i]?).bind Res.mapVal
  | .sl i off len cap => (M[i]?).bind (Res.slAt off len cap)
  | .xptr A off => A.map fun a => .pointer (some (a.add off))
  | .agg cs => (denL M cs).map fun vs => .agg vs.toArray
  | .tup cs => (denL M cs).map fun vs => .tuple vs.toArray
  | .fn f cap => (denL M cap).map fun vs => .func f #[] vs.toArray
  | .cnd _ _ => none
def denL (M : List Res) : List SV → Option (List Value)
  | [] => some []
  | c :: cs => (den M c).bind fun v => (denL M cs).map (v :: ·)
end

/-- a value is as is known of it -/
def has (M : List Res) : SV → Value → Prop
  | .any, _ => True
  | .cnd b s, x => (b = true → has M s x) ∧ (b = false → x = undef)
  | .val v, x => v = x
  | .ptr i off, x => den M (.ptr i off) = some x
  | .row i, x => den M (.row i) = some x
  | .rptr i off, x => den M (.rptr i off) = some x
  | .mp i, x => den M (.mp i) = some x
  | .sl i off len cap, x => den M (.sl i off len cap) = some x
  | .xptr A off, x => den M (.xptr A off) = some x
  | .agg cs, x => den M (.agg cs) = some x
  | .tup cs, x => den M (.tup cs) = some x
  | .fn f cap, x => den M (.fn f cap) = some x

/-- what may be said of a part, if more resources are known -/
def Grows (M M' : List Res) : Prop := ∀ (i : Nat) (r : Res), M[i]? = some r → M'[i]? = some r
theorem Grows.refl (M : List Res) : Grows M M := fun _ _ h => h
theorem Grows.append (M L : List Res) : Grows M (M ++ L) := fun i r h => by
  have hl : i < M.length := (List.getElem?_eq_some_iff.1 h).1
  rw [List.getElem?_append_left hl]; exact h

def Places (M M' : List Res) : Prop :=
  ∀ (i : Nat) (r : Res), M[i]? = some r → ∃ r' : Res, M'[i]? = some r' ∧ (∀ off v, r.ptrAt off = some v → r'.ptrAt off = some v) ∧ (∀ v, r.rowVal = some v → r'.rowVal = some v) ∧
    (∀ off v, r.rptrAt off = some v → r'.rptrAt off = some v) ∧ (∀ v, r.mapVal = some v → r'.mapVal = some v) ∧ (∀ off len cap v, r.slAt off len cap = some v → r'.slAt off len cap = some v)

theorem Places.ptr_ {M M' : List Res} (h : Places M M') (i off : Nat) (v : Value) (hv : (M[i]?).bind (Res.ptrAt off) = some v) : (M'[i]?).bind (Res.ptrAt off) = some v := by
  cases hr : M[i]? with
  | none => rw [hr] at hv; cases hv
  | some r => obtain ⟨r', h', h1, h2, h3, h4, h5⟩ := h i r hr; rw [hr] at hv; rw [h']; exact h1 _ _ hv
theorem Places.row_ {M M' : List Res} (h : Places M M') (i : Nat) (v : Value) (hv : (M[i]?).bind Res.rowVal = some v) : (M'[i]?).bind Res.rowVal = some v := by
  cases hr : M[i]? with
  | none => rw [hr] at hv; cases hv
  | some r => obtain ⟨r', h', h1, h2, h3, h4, h5⟩ := h i r hr; rw [hr] at hv; rw [h']; exact h2 _ hv
theorem Places.rptr_ {M M' : List Res} (h : Places M M') (i off : Nat) (v : Value) (hv : (M[i]?).bind (Res.rptrAt off) = some v) : (M'[i]?).bind (Res.rptrAt off) = some v := by
  cases hr : M[i]? with
  | none => rw [hr] at hv; cases hv
  | some r => obtain ⟨r', h', h1, h2, h3, h4, h5⟩ := h i r hr; rw [hr] at hv; rw [h']; exact h3 _ _ hv
theorem Places.mp_ {M M' : List Res} (h : Places M M') (i : Nat) (v : Value) (hv : (M[i]?).bind Res.mapVal = some v) : (M'[i]?).bind Res.mapVal = some v := by
  cases hr : M[i]? with
  | none => rw [hr] at hv; cases hv
  | some r => obtain ⟨r', h', h1, h2, h3, h4, h5⟩ := h i r hr; rw [hr] at hv; rw [h']; exact h4 _ hv

theorem Places.sl_ {M M' : List Res} (h : Places M M') (i off len cap : Nat) (v : Value) (hv : (M[i]?).bind (Res.slAt off len cap) = some v) : (M'[i]?).bind (Res.slAt off len cap) = some v := by
  cases hr : M[i]? with
  | none => rw [hr] at hv; cases hv
  | some r => obtain ⟨r', h', h1, h2, h3, h4, h5⟩ := h i r hr; rw [hr] at hv; rw [h']; exact h5 _ _ _ _ hv

mutual
theorem Places.den_ {M M' : List Res} (h : Places M M') : ∀ (s : SV) (v : Value), den M s = some v → den M' s = some v
  | .any, v, e => by simp [den] at e
  | .val _, v, e => by simpa [den] using e
  | .ptr i off, v, e => by simp only [den] at e ⊢; exact h.ptr_ _ _ _ e
  | .row i, v, e => by simp only [den] at e ⊢; exact h.row_ _ _ e
  | .rptr i off, v, e => by simp only [den] at e ⊢; exact h.rptr_ _ _ _ e
  | .mp i, v, e => by simp only [den] at e ⊢; exact h.mp_ _ _ e
  | .sl i off len cap, v, e => by simp only [den] at e ⊢; exact h.sl_ _ _ _ _ _ e
  | .xptr A off, v, e => by simpa [den] using e
  | .agg cs, v, e => by
    simp only [den, Option.map_eq_some_iff] at e ⊢
    obtain ⟨vs, h1, h2⟩ := e
    exact ⟨vs, Places.denL_ h cs vs h1, h2⟩
  | .tup cs, v, e => by
    simp only [den, Option.map_eq_some_iff] at e ⊢
    obtain ⟨vs, h1, h2⟩ := e
    exact ⟨vs, Places.denL_ h cs vs h1, h2⟩
  | .fn f cap, v, e => by
    simp only [den, Option.map_eq_some_iff] at e ⊢
    obtain ⟨vs, h1, h2⟩ := e
    exact ⟨vs, Places.denL_ h cap vs h1, h2⟩
  | .cnd _ _, v, e => by simp [den] at e
theorem Places.denL_ {M M' : List Res} (h : Places M M') : ∀ (cs : List SV) (vs : List Value), denL M cs = some vs → denL M' cs = some vs
  | [], vs, e => by simpa [denL] using e
  | c :: cs, vs, e => by
    simp only [denL, Option.bind_eq_some_iff, Option.map_eq_some_iff] at e ⊢
    obtain ⟨v, hv, us, hus, rfl⟩ := e
    exact ⟨v, Places.den_ h c v hv, us, Places.denL_ h cs us hus, rfl⟩
end

theorem Grows.places {M M' : List Res} (h : Grows M M') : Places M M' := fun i r hr => ⟨r, h i r hr, fun _ _ e => e, fun _ e => e, fun _ _ e => e, fun _ e => e, fun _ _ _ _ e => e⟩

theorem Places.has_ {M M' : List Res} (h : Places M M') : ∀ (s : SV) (x : Value), has M s x → has M' s x
  | .any, _, _ => trivial
  | .cnd _ s, x, e => ⟨fun hb => Places.has_ h s x (e.1 hb), e.2⟩
  | .val _, _, e => e
  | .ptr _ _, _, e => h.den_ _ _ e
  | .row _, _, e => h.den_ _ _ e
  | .rptr _ _, _, e => h.den_ _ _ e
  | .mp _, _, e => h.den_ _ _ e
  | .sl _ _ _ _, _, e => h.den_ _ _ e
  | .xptr _ _, _, e => h.den_ _ _ e
  | .agg _, _, e => h.den_ _ _ e
  | .tup _, _, e => h.den_ _ _ e
  | .fn _ _, _, e => h.den_ _ _ e

theorem has_of {M : List Res} {s : SV} {v : Value} (h : den M s = some v) : has M s v := by
  cases s <;> simp_all [has, den]

mutual
def names (i : Nat) : SV → Bool
  | .any | .val _ | .xptr _ _ => false
  | .ptr j _ | .row j | .rptr j _ | .mp j | .sl j _ _ _ => j == i
  | .agg cs | .tup cs | .fn _ cs => namesL i cs
  | .cnd _ x => names i x
def namesL (i : Nat) : List SV → Bool
  | [] => false
  | c :: cs => names i c || namesL i cs
end
def kill (i : Nat) (s : SV) : SV := if names i s then .any else s

mutual
theorem den_set {M : List Res} {i : Nat} {r : Res} : ∀ (s : SV), names i s = false → den (M.set i r) s = den M s
  | .any, _ => rfl
  | .val _, _ => rfl
  | .xptr _ _, _ => rfl
  | .cnd _ _, _ => rfl
  | .ptr j _, h => by simp only [names, beq_eq_false_iff_ne] at h; simp [den, Ne.symm h]
  | .row j, h => by simp only [names, beq_eq_false_iff_ne] at h; simp [den, Ne.symm h]
  | .rptr j _, h => by simp only [names, beq_eq_false_iff_ne] at h; simp [den, Ne.symm h]
  | .mp j, h => by simp only [names, beq_eq_false_iff_ne] at h; simp [den, Ne.symm h]
  | .sl j _ _ _, h => by simp only [names, beq_eq_false_iff_ne] at h; simp [den, Ne.symm h]
  | .agg cs, h => by simp only [den, denL_set cs h]
  | .tup cs, h => by simp only [den, denL_set cs h]
  | .fn _ cs, h => by simp only [den, denL_set cs h]
theorem denL_set {M : List Res} {i : Nat} {r : Res} : ∀ (cs : List SV), namesL i cs = false → denL (M.set i r) cs = denL M cs
  | [], _ => rfl
  | c :: cs, h => by
    simp only [namesL, Bool.or_eq_false_iff] at h
    simp only [denL, den_set c h.1, denL_set cs h.2]
end
theorem has_set {M : List Res} {i : Nat} {r : Res} : ∀ (s : SV) (x : Value), names i s = false → has M s x → has (M.set i r) s x
  | .any, _, _, _ => trivial
  | .val _, _, _, e => e
  | .cnd _ s, x, h, e => ⟨fun hb => has_set s x h (e.1 hb), e.2⟩
  | .ptr _ _, _, h, e => (den_set _ h).trans e
  | .row _, _, h, e => (den_set _ h).trans e
  | .rptr _ _, _, h, e => (den_set _ h).trans e
  | .mp _, _, h, e => (den_set _ h).trans e
  | .sl _ _ _ _, _, h, e => (den_set _ h).trans e
  | .xptr _ _, _, h, e => (den_set _ h).trans e
  | .agg _, _, h, e => (den_set _ h).trans e
  | .tup _, _, h, e => (den_set _ h).trans e
  | .fn _ _, _, h, e => (den_set _ h).trans e
theorem has_kill {M : List Res} {i : Nat} {r : Res} {s : SV} {x : Value} (e : has M s x) : has (M.set i r) (kill i s) x := by
  unfold kill
  cases h : names i s with
  | true => simp [has]
  | false => simpa using has_set s x h e

/-! ## the frame: what is known of its slots; a slot that is not named may hold anything -/
abbrev Fr := List (Nat × SV)
def Fr.get : Fr → Nat → SV
  | [], _ => .any
  | (j, x) :: r, i => if j = i then x else Fr.get r i
def Fr.map (g : SV → SV) : Fr → Fr
  | [] => []
  | (j, x) :: r => (j, g x) :: Fr.map g r
theorem Fr.get_map (g : SV → SV) (hg : g .any = .any) : ∀ (F : Fr) (i : Nat), (F.map g).get i = g (F.get i)
  | [], _ => hg.symm
  | (j, x) :: r, i => by
    simp only [Fr.map, Fr.get]
    split
    · rfl
    · exact Fr.get_map g hg r i

def FrameOk (M : List Res) (N : Nat) (F : Fr) (t : Array Value) : Prop :=
  t.size = N ∧ ∀ i, has M (F.get i) (t.getD i undef)

theorem FrameOk.map {M M' : List Res} {N : Nat} {F : Fr} {t : Array Value} (h : FrameOk M N F t) (g : SV → SV) (hg : g .any = .any) (hM : ∀ s x, has M s x → has M' (g s) x) : FrameOk M' N (F.map g) t :=
  ⟨h.1, fun i => by rw [Fr.get_map g hg]; exact hM _ _ (h.2 i)⟩
theorem FrameOk.mono {M M' : List Res} {N : Nat} {F : Fr} {t : Array Value} (h : FrameOk M N F t) (hM : ∀ s x, has M s x → has M' s x) : FrameOk M' N F t :=
  ⟨h.1, fun i => hM _ _ (h.2 i)⟩
theorem FrameOk.put {M : List Res} {N : Nat} {F : Fr} {t : Array Value} (h : FrameOk M N F t) (d : Nat) (hd : d < N) {s : SV} {x : Value} (hx : has M s x) :
    FrameOk M N ((d, s) :: F) (t.setIfInBounds d x) := by
  refine ⟨by simp [h.1], fun i => ?_⟩
  have h2 := h.2 i
  simp only [Array.getD_eq_getD_getElem?, Array.getElem?_setIfInBounds, Fr.get] at h2 ⊢
  by_cases hdi : d = i
  · subst hdi
    simp only [if_true]
    rw [if_pos (by have := h.1; omega)]
    exact hx
  · simp only [hdi, if_false]
    exact h2
theorem FrameOk.get {M : List Res} {N : Nat} {F : Fr} {t : Array Value} (h : FrameOk M N F t) (i : Nat) : has M (F.get i) (t.getD i undef) := h.2 i
/-- less is known -/
theorem FrameOk.less {M : List Res} {N : Nat} {F F' : Fr} {t : Array Value} (h : FrameOk M N F t) (hs : ∀ i, ∀ x, has M (F.get i) x → has M (F'.get i) x) : FrameOk M N F' t :=
  ⟨h.1, fun i => hs i _ (h.2 i)⟩

end Go.SX
