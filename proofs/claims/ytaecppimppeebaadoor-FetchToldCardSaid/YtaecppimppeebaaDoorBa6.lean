/- slices.Chunk's function value: what it hands to a loop's body. -/
import Derived.RangeFuncNested
import Derived.RangeFuncBound
import Derived.RangeFuncCalls
import Derived.RangeFuncLeaves
import Derived.Shelf.Abstract
import Derived.WalkKit
import Derived.OwnWalkIn
import Derived.TacticsInMore
import Derived.LoopNIn
import Derived.LoopIn
import Derived.Test.YtaecppimppeebaaDoorBa4
namespace Go.Proofs.YtaecppimppeebaaDoor
open Go Go.SX Go.RowKit Go.Shelf
attribute [local go_sem] Oper.semAt_some

/-- one piece -/
def pieceV (bk o n j : Nat) : Value := .slice (some ⟨bk, o + 1024 * j, none⟩) (min 1024 (n - 1024 * j)) (min 1024 (n - 1024 * j))
/-- how many -/
def pieces (n : Nat) : Nat := (n + 1023) / 1024
def uptoS (n k : Nat) : List {j : Nat // j < pieces n} := (List.range k).filterMap fun j => if h : j < pieces n then some ⟨j, h⟩ else none
theorem uptoS_length (n : Nat) : ∀ k, k ≤ pieces n → (uptoS n k).length = k
  | 0, _ => rfl
  | k + 1, h => by
    have ih := uptoS_length n k (by omega)
    have hk : k < pieces n := by omega
    simp only [uptoS] at ih ⊢
    rw [List.range_succ, List.filterMap_append, List.length_append, ih]
    simp [hk]
theorem uptoS_succ {n k : Nat} (h : k < pieces n) : uptoS n (k + 1) = uptoS n k ++ [⟨k, h⟩] := by
  simp only [uptoS]
  rw [List.range_succ, List.filterMap_append]
  simp [h]
theorem pieces_lt {n k : Nat} : k < pieces n ↔ 1024 * k < n := by unfold pieces; omega
set_option maxRecDepth 100000 in
set_option maxHeartbeats 2000000 in
theorem chunk1_in (n : Nat) (hn : 1 ≤ n) (l b1 b2 bk o len cap : Nat) (hlen : len ≤ cap) (hll : len ≤ 2048000) (Z : Heap) (J Jx : List {j : Nat // j < pieces len} → World → Prop)
    (h1 : Z.cell ⟨b1, 0, none⟩ = some (.slice (some ⟨bk, o, none⟩) len cap)) (h2 : Z.cell ⟨b2, 0, none⟩ = some (.int .i64 1024))
    (hY : ∀ pre (x : {j : Nat // j < pieces len}) W, J pre W → pre.length < pieces len → YieldAt Fence.wide (n - 1) Tryd.prog l #[pieceV bk o len x.1] W fun e W' =>
      (e = .returned (.bool true) ∧ J (pre ++ [x]) W' ∧ (Fzn Z W → Fzn Z W')) ∨ (e = .returned (.bool false) ∧ Jx (pre ++ [x]) W'))
    (hdrew : ∀ pre W, J pre W → J pre W.drew)
    (W : World) (hZ : Fzn Z W) (h0 : J [] W) :
    CallsIn Fence.wide n Tryd.prog 35 #[.func (.yield l) #[] #[], .pointer (some ⟨b1, 0, none⟩), .pointer (some ⟨b2, 0, none⟩)] W fun e W' => (∃ v, e = .returned v) ∧
      ((∃ ys, ys = uptoS len (pieces len) ∧ J ys W') ∨ (∃ pre, True ∧ Jx pre W')) := by
  have hro : Fence.wide.round = none := rfl
  have hF : Fence.wide.fn 35 := trivial
  refine callsIn_of_wp Tryd.func35 rfl hF ?_ hro
  simp only [Tryd.ntmps35, List.size_toArray, List.length_cons, List.length_nil, Nat.reduceAdd, Nat.reduceSub, Array.replicate_succ, Array.replicate_zero, List.push_toArray, List.append_toArray, List.nil_append, List.cons_append]
  gi_wp2
  gi_loopw [4] (fun i wr => ∃ k : Nat, k ≤ pieces len ∧ i = .int .i64 (1024 * (k : Int)) ∧ J (uptoS len k) wr ∧ Fzn Z wr)
    (fun i _ => len + 1024 - (intOf i).toNat)
  case atStart => exact ⟨0, Nat.zero_le _, by simp, h0, hZ⟩
  case round =>
    obtain ⟨k, hk, rfl, hJs, hZr⟩ := hrel
    have hc1 := hZr.cell h1
    have hc2 := hZr.cell h2
    by_cases hlt : 1024 * k < len
    · obtain ⟨fn, tmps, assign, body, hy, hR⟩ := hY _ ⟨k, pieces_lt.2 hlt⟩ wr.drew (hdrew _ _ hJs) (by rw [uptoS_length _ _ hk]; exact pieces_lt.2 hlt)
      have hm : min 1024 (len - 1024 * k) = (1024 * (k : Int) + min 1024 ((len - 1024 * k : Nat) : Int)).toNat - 1024 * k := by omega
      simp only [pieceV, hm] at hy
      gi_wp2
      gi_region
      gi_wp2
      refine hR.mono ?_
      rintro e W3 (⟨rfl, hJ3, hk3⟩ | ⟨rfl, hJx3⟩)
      · have hZ3 : Fzn Z W3 := hk3 (fun b o hb => hZr b o hb)
        have hc3 := hZ3.cell h2
        gi_wp2
        go_roundw
        case rel => exact ⟨k + 1, pieces_lt.2 hlt, by push_cast; rw [Int.mul_add, Int.mul_one], by rw [uptoS_succ (pieces_lt.2 hlt)]; exact hJ3, hZ3⟩
        case measure => simp [intOf]; omega
      · gi_wp2
        refine bodyPost_ret (results_none rfl _ _ _) rfl ?_
        exact ⟨⟨_, rfl⟩, .inr ⟨_, trivial, hJx3⟩⟩
    · obtain rfl : k = pieces len := by unfold pieces at hk ⊢; omega
      have hlt' : ¬ (1024 * (pieces len : Int) < len) := by omega
      gi_wp2
      go_end0
      exact ⟨⟨_, rfl⟩, .inl hJs⟩
set_option maxRecDepth 100000 in
set_option maxHeartbeats 1000000 in
theorem chunk1_nil (n : Nat) (l b1 b2 cap : Nat) (A : Option Addr) {β : Type} (J : List β → World → Prop) (Z : Heap)
    (h1 : Z.cell ⟨b1, 0, none⟩ = some (.slice A 0 cap)) (W : World) (hZ : Fzn Z W) (h0 : J [] W) :
    CallsIn Fence.wide n Tryd.prog 35 #[.func (.yield l) #[] #[], .pointer (some ⟨b1, 0, none⟩), .pointer (some ⟨b2, 0, none⟩)] W fun e W' => (∃ v, e = .returned v) ∧ J [] W' := by
  have hro : Fence.wide.round = none := rfl
  have hF : Fence.wide.fn 35 := trivial
  have hc1 := hZ.cell h1
  refine callsIn_of_wp Tryd.func35 rfl hF ?_ hro
  simp only [Tryd.ntmps35, List.size_toArray, List.length_cons, List.length_nil, Nat.reduceAdd, Nat.reduceSub, Array.replicate_succ, Array.replicate_zero, List.push_toArray, List.append_toArray, List.nil_append, List.cons_append]
  gi_wp2
  gi_loopw [4] (fun i wr => i = .int .i64 0 ∧ J [] wr ∧ Fzn Z wr) (fun _ _ => 0)
  case atStart => exact ⟨rfl, h0, hZ⟩
  case round =>
    obtain ⟨rfl, hJs, hZr⟩ := hrel
    have hc1 := hZr.cell h1
    gi_wp2
    go_end0
    exact ⟨⟨_, rfl⟩, hJs⟩
end Go.Proofs.YtaecppimppeebaaDoor
