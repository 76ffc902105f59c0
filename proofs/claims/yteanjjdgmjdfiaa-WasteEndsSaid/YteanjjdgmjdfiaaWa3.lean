/- slices.SortStableFunc over a list of numbers: what the code computes. -/
import Derived.Test.YteanjjdgmjdfiaaWa2
namespace Go.Proofs.Yteanjjdgmjdfiaa
open Go Go.SX

theorem FnV_grow {P : Program} {f : FuncId} {vs : List Value} {Z Z' : Heap} {Post : Value → Prop} (h : FnV P f vs Z Post) (hz : Z.le Z') : FnV P f vs Z' Post := by
  intro w us hd hm
  refine (h w us hd (mem_start (hm.less hz))).mono ?_
  rintro e w' ⟨v, Z1, L', rfl, hz1, hm', hp⟩
  have hkp : Kept w (fun _ => False) w' := ⟨hm'.kept.os, hm'.kept.tape, hm'.kept.output, hm'.kept.size, fun b hb _ => hm'.kept.block b hb (by rintro ⟨i, r, hi, _⟩; simp at hi)⟩
  exact ⟨v, Z', [], rfl, Heap.le.refl _, hm.after hkp (fun b o hb => (hkp.block b (heap_lt (hm.frozen b o hb)) (fun f => f)).trans (hm.frozen b o hb)) (fun b o hb => .inl hb), hp⟩

/-- a function that compares numbers -/
structure Cmp (Z : Heap) (G : FuncId) (cap : List Value) (c : Int → Int → Int) (dom : Int → Prop) : Prop where
  ext : extOf Try.prog G = none
  can : canCall Try.prog G
  run : ∀ x y, dom x → dom y → FnE Try.prog G ([.int .i64 x, .int .i64 y] ++ cap) Z (.int .i64 (c x y))
theorem Cmp.grow {Z Z' : Heap} {G : FuncId} {cap : List Value} {c : Int → Int → Int} {dom : Int → Prop} (h : Cmp Z G cap c dom) (hz : Z.le Z') : Cmp Z' G cap c dom :=
  ⟨h.ext, h.can, fun x y hx hy => FnV_grow (h.run x y hx hy) hz⟩
/-- it, as a value -/
abbrev cmpV (G : FuncId) (cap : List Value) : Value := .func (.func G) #[] ⟨cap⟩

theorem icells_len (l : List Int) : (icells l).length = l.length := by simp [icells]
theorem icells_set (l : List Int) (k : Nat) (v : Int) (h : k < l.length) : (icells l).take k ++ [.int .i64 v] ++ (icells l).drop (k + 1) = icells (l.set k v) := by
  simp [icells, List.set_eq_take_append_cons_drop, h]
theorem icells_at (l : List Int) (k : Nat) (h : k < l.length) : ∀ (j : Nat) (v : Value), [Value.int .i64 (l.getD k 0)][j]? = some v → (icells l)[k + j]? = some v := by
  intro j v hv
  match j, hv with
  | 0, hv => simp at hv; subst hv; simp [icells, h]
  | j + 1, hv => simp at hv
theorem toNat_add (a b : Nat) : ((a : Int) + (b : Int)).toNat = a + b := by omega

def swapP (l : List Int) (a b : Nat) : Nat → List Int
  | 0 => l
  | i + 1 => ((swapP l a b i).set (a + i) ((swapP l a b i).getD (b + i) 0)).set (b + i) ((swapP l a b i).getD (a + i) 0)
theorem swapP_len (l : List Int) (a b n : Nat) : (swapP l a b n).length = l.length := by
  induction n with
  | zero => rfl
  | succ n ih => simp [swapP, ih]

set_option maxRecDepth 10000 in
theorem swapRange_any (Z : Heap) (A : Option Addr) (cap : Nat) (l : List Int) (a b n : Nat) (f : Value) (ha : a + n ≤ l.length) (hb : b + n ≤ l.length) (hl : l.length ≤ 100) :
    FnW Try.prog 23 [.row 0, .val (.int .i64 a), .val (.int .i64 b), .val (.int .i64 n), .val f] Z A cap 3 1 l.length (icells l)
      (fun xs => xs = icells (swapP l a b n)) := by
  refine fnW_intro Try.func23 rfl (Nat.le_of_ble_eq_true rfl) ?_
  simp only [go_sem]
  refine vcLoop_intro (ι := {k : Nat // k ≤ n})
      (fun k => ⟨[(10, .val (.int .i64 k.1)), (0, .row 0), (1, .val (.int .i64 a)), (2, .val (.int .i64 b)), (3, .val (.int .i64 n))], [.row A cap 3 1 l.length (icells (swapP l a b k.1))], Z⟩)
      (fun k => n - k.1) ⟨0, by simp⟩ (incl_of (by simp only [go_sem]; simp)) ?_
  rintro ⟨k, hk⟩
  simp only [go_sem]
  refine ⟨fun hlt => ?_, fun hge => ?_⟩
  · have hlt' : k < n := by simpa using hlt
    have hlen := swapP_len l a b k
    simp only [toNat_add]
    refine ⟨by kernel_rfl, by unfold inI64; omega, by unfold inI64; omega, by unfold inI64; omega, by omega, _, icells_at _ _ (by omega), by unfold inI64; omega, by omega, _, icells_at _ _ (by omega), by omega, by rw [icells_len]; omega, by omega, ?_, by unfold inI64; omega, ⟨k + 1, by omega⟩, ?_, ?_⟩
    · simp [icells_len]; omega
    · simp only []; omega
    · rw [icells_set _ _ _ (by omega), icells_set _ _ _ (by simp; omega)]
      exact incl_take 1 rfl (by simp only [go_sem]; simp) (by simp only [go_sem]) (by simp only [go_sem])
  · have hk' : k = n := by
      have : ¬ k < n := by simpa using hge
      omega
    subst hk'
    exact ⟨_, [], rfl, rfl⟩
theorem swapRange_at (Z : Heap) (A : Option Addr) (cap N : Nat) (l : List Int) (a b n : Nat) (f : Value) (hN : l.length = N) (ha : a + n ≤ N) (hb : b + n ≤ N) (hl : N ≤ 100) :
    FnW Try.prog 23 [.row 0, .val (.int .i64 a), .val (.int .i64 b), .val (.int .i64 n), .val f] Z A cap 3 1 N (icells l)
      (fun xs => xs = icells (swapP l a b n)) := by
  subst hN; exact swapRange_any Z A cap l a b n f ha hb hl
end Go.Proofs.Yteanjjdgmjdfiaa
