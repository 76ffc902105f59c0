/- Small parts of the law on blobs; the first part of fetch.Texts. -/
import Derived.Test.YtaecppimppeebaaDoorBa3
namespace Go.Proofs.YtaecppimppeebaaDoor
open Go Go.SX

set_option maxRecDepth 20000 in
theorem rest_any (Z : Heap) (n m : Int) (hm : 0 < m) (hb : m ≤ 1000000000) : FnE Tryd.prog 7 [.int .i64 n, .int .i64 m] Z (.int .i64 ((n.tmod m + m).tmod m)) := by
  refine fnV_intro Tryd.func7 rfl (Nat.le_of_ble_eq_true rfl) ?_
  simp only [go_sem]
  have h1 : - m < n.tmod m := by
    rcases Int.le_total 0 n with h | h
    · have := Int.tmod_nonneg m h; omega
    · have h2 : (-n).tmod m = - n.tmod m := Int.neg_tmod ..
      have := Int.tmod_lt_of_pos (-n) hm
      omega
  have h2 : n.tmod m < m := Int.tmod_lt_of_pos n hm
  refine ⟨fun h => by simp at h; omega, fun _ => ⟨fun e => by omega, by unfold inI64; omega, fun e => by omega⟩⟩

theorem eqT_blob (x y : Int × List UInt8) : EqT Tryd.prog 28 (.agg #[.int .i64 x.1, .string (bs x.2)]) (.agg #[.int .i64 y.1, .string (bs y.2)]) (decide (x = y)) := by
  have := eqT_intString (P := Tryd.prog) (t := 28) (e1 := 3) (e2 := 9) (kd := .i64) (kd' := .i64) (by kernel_rfl) (by kernel_rfl) (by kernel_rfl) (by kernel_rfl) (by kernel_rfl) (by kernel_rfl) (by kernel_rfl) x.1 y.1 (bs x.2) (bs y.2)
  have e : (decide (x.1 = y.1) && decide ((bs x.2).data.toList = (bs y.2).data.toList)) = decide (x = y) := by
    rw [← Bool.decide_and]
    congr 1
    apply propext
    rw [Prod.ext_iff]
  rwa [e] at this
set_option maxHeartbeats 1000000 in
set_option maxRecDepth 20000 in
theorem equalB_any (Z : Heap) (A B : Option Addr) (l m : List (Int × List UInt8)) (c d : Nat) (h : Rds Z A 0 (bcells l)) (hk2 : Rds Z B 0 (bcells m)) (hl : l.length ≤ 9223372036854775807) (hm : m.length ≤ 9223372036854775807) :
    FnE Tryd.prog 8 [.slice A l.length c, .slice B m.length d] Z (.bool (decide (l = m))) := by
  refine fnV_intro Tryd.func8 rfl (Nat.le_of_ble_eq_true rfl) ?_
  simp only [go_sem]
  refine ⟨fun hne => ?_, fun he => ?_⟩
  · have hne' : l.length ≠ m.length := by
      intro e; rw [e] at hne; simp at hne
    have : l ≠ m := fun e => hne' (by rw [e])
    simp [this]
  · have he' : l.length = m.length := by
      have : (l.length : Int) = m.length := by simpa using he
      omega
    refine vcLoop_intro (ι := {k : Nat // k ≤ l.length ∧ l.take k = m.take k})
      (fun k => ⟨[(13, .val (.int .i64 k.1)), (12, .val (.int .i64 l.length)), (0, .val (.slice A l.length c)), (1, .val (.slice B m.length d))], [], Z⟩)
      (fun k => l.length - k.1) ⟨0, by simp⟩ (incl_of (by simp only [go_sem]; simp)) ?_
    rintro ⟨k, hk, hall⟩
    simp only [go_sem]
    refine ⟨fun hlt => ?_, fun hge => ?_⟩
    · have hlt' : k < l.length := by simpa using hlt
      obtain ⟨ha, hr⟩ := rds_b h hlt'
      obtain ⟨hb, hs⟩ := rds_b hk2 (show k < m.length by omega)
      refine ⟨by kernel_rfl, ⟨ha, by omega, by omega⟩, _, _, hr, ⟨hb, by omega, by omega⟩, _, _, hs, _, eqT_blob l[k] m[k], fun hne => ?_, fun heq => ⟨by unfold inI64; omega, ⟨k + 1, by omega, ?_⟩, ?_, ?_⟩⟩
      · have hne' : l[k] ≠ m[k] := by simpa using hne
        have : l ≠ m := by rintro rfl; exact hne' rfl
        simp [this]
      · have heq' : l[k] = m[k] := by simpa using heq
        rw [List.take_succ_eq_append_getElem hlt', List.take_succ_eq_append_getElem (show k < m.length by omega), hall, heq']
      · simp only []; omega
      · exact incl_take 0 rfl (by simp only [go_sem]; simp) (by simp only [go_sem]) (by simp only [go_sem])
    · have hk' : k = l.length := by
        have : ¬ k < l.length := by simpa using hge
        omega
      subst hk'
      rw [List.take_length, he', List.take_length] at hall
      simp [hall]

/-- slices.Chunk: a function value that holds the slice and the size -/
def chunked (A : Option Addr) (n c : Nat) (k : Int) (v : Value) (Z : Heap) : Prop :=
  ∃ b1 b2, v = .func (.func 35) #[] #[.pointer (some ⟨b1, 0, none⟩), .pointer (some ⟨b2, 0, none⟩)] ∧ Z.cell ⟨b1, 0, none⟩ = some (.slice A n c) ∧ Z.cell ⟨b2, 0, none⟩ = some (.int .i64 k)
set_option maxRecDepth 20000 in
theorem chunk_any (Z : Heap) (A : Option Addr) (n c : Nat) (k : Int) (hk : 1 ≤ k) : FnH Tryd.prog 20 [.slice A n c, .int .i64 k] Z (chunked A n c k) := by
  refine fnH_intro Tryd.func20 rfl (Nat.le_of_ble_eq_true rfl) ?_
  simp only [go_sem]
  exact fun b b1 => ⟨fun h => by simp at h; omega, fun _ Z' hz hf => ⟨b, b1, rfl, hf.1 0 _ _ rfl rfl, hf.2.1 0 _ _ rfl rfl⟩⟩
end Go.Proofs.YtaecppimppeebaaDoor
