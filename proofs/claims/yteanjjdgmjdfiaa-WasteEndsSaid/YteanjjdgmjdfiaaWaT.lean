/- waste.Total: what the code computes for packs that are named once each. -/
import Derived.Test.YteanjjdgmjdfiaaWaR
namespace Go.Proofs.Yteanjjdgmjdfiaa
open Go Go.SX

def seenL (l : List Int) : List (Value × Value) := l.map fun i => (.int .i64 i, .bool true)
theorem look_seen (x : Int) : ∀ l : List Int, lookL (.int .i64 x) (seenL l) = if x ∈ l then some (.bool true) else none
  | [] => rfl
  | y :: l => by
    have ih := look_seen x l
    simp only [seenL, List.map_cons, lookL, Value.int.injEq, true_and] at ih ⊢
    by_cases h : x = y
    · simp [h]
    · rw [if_neg h, ih]; simp [h]
theorem put_seen (x : Int) : ∀ l : List Int, x ∉ l → putL (.int .i64 x) (.bool true) (seenL l) = seenL (l ++ [x])
  | [], _ => rfl
  | y :: l, h => by
    have hxy : x ≠ y := fun e => h (by simp [e])
    have ih := put_seen x l fun hm => h (by simp [hm])
    simp only [seenL, List.map_cons, putL, Value.int.injEq, true_and, if_neg hxy, List.cons_append] at ih ⊢
    rw [ih]
theorem keys_seen {l : List Int} {es : Array MapEntry} (h : entL es = seenL l) : ∀ v ∈ es.toList.map (·.key), ∃ n, v = .int .i64 n := by
  intro v hv
  have : v ∈ (entL es).map (·.1) := by
    unfold entL
    rw [List.map_map]
    exact hv
  rw [h] at this
  simp only [seenL, List.map_map, List.mem_map] at this
  obtain ⟨n, _, rfl⟩ := this
  exact ⟨n, rfl⟩

structure TotI (l : List (Int × Int)) (a : List Int) where
  k : Nat
  es : Array MapEntry
  c : Nat
  s : Int
  d : Int
  hk : k ≤ a.length
  he : entL es = seenL (a.take k)
  hd : 0 ≤ d
  hds : d ≤ s
  hs : s ≤ k * 1099511627776

set_option maxHeartbeats 1000000 in
set_option maxRecDepth 10000 in
theorem total_any (Z : Heap) (A B : Option Addr) (l : List (Int × Int)) (a : List Int) (c c' : Nat) (h : Rds Z A 0 (wcells l)) (h2 : Rds Z B 0 (icells a)) (hg : checkP l = 0) (ha : ∀ x ∈ a, domOf l x) (hn : a.Nodup) (hal : a.length ≤ 100) :
    FnV Try.prog 11 [.slice A l.length c, .slice B a.length c'] Z (fun v => ∃ s d : Int, v = .tuple #[.agg #[.int .i64 s, .int .i64 d], .int .i64 0] ∧ d ≤ s) := by
  obtain ⟨hl, hok⟩ := chk_ok hg
  refine fnV_intro Try.func11 rfl (Nat.le_of_ble_eq_true rfl) ?_
  simp only [go_sem]
  intro b
  refine vcCall_E _ rfl (check_any _ A l c h) ?_
  simp only [go_sem, hg]
  intro b1 b2
  refine vcLoop_intro (ι := TotI l a)
    (fun u => ⟨[(20, .val (.int .i64 u.k)), (19, .val (.int .i64 a.length)), (18, .val (.slice B a.length c')), (8, .ptr 2 0), (7, .mp 1), (4, .ptr 0 0), (0, .val (.slice A l.length c)), (5, .val (.int .i64 0))],
      [.blk b [.val (.int .i64 0), .val (.int .i64 0)] 29, .obj b1 (.map u.es u.c), .blk b2 [.val (.int .i64 u.s), .val (.int .i64 u.d)] 29], Z⟩)
    (fun u => a.length - u.k) ⟨0, #[], 0, 0, 0, by omega, by simp [entL, seenL], by omega, by omega, by omega⟩ (incl_of (by simp only [go_sem]; simp)) ?_
  rintro ⟨k, es, cc, s, d, hk, he, hd, hds, hs⟩
  simp only [go_sem]
  refine ⟨fun hlt => ?_, fun hge => ?_⟩
  · have hlt' : k < a.length := by simpa using hlt
    obtain ⟨haB, hrx⟩ := Rds.i h2 hlt'
    obtain ⟨hx0, hx⟩ := ha _ (List.getElem_mem hlt')
    have okx : wOk l[a[k].toNat] = true := List.all_eq_true.1 hok _ (List.getElem_mem hx)
    rw [wOk_iff] at okx
    obtain ⟨haA, hwx⟩ := Rds.w h hx
    have hnot : a[k] ∉ a.take k := by
      intro hm
      obtain ⟨j, hj, e⟩ := List.getElem_of_mem hm
      rw [List.getElem_take] at e
      have hj' : j < k := by simp at hj; omega
      exact (List.pairwise_iff_getElem.1 hn) j k (by omega) hlt' hj' e
    refine ⟨⟨haB, by omega, by omega⟩, _, hrx, fun hbad => ?_, fun hgood => ?_⟩
    · exfalso
      simp only [Bool.or_eq_true, decide_eq_true_eq] at hbad
      omega
    · simp only [lookE_eq, he, look_seen, if_neg hnot]
      have hks : KeysOk Try.prog 3 (.int .i64 a[k] :: es.toList.map (·.key)) := keysOk_int Try.underlying3 (by
        intro v hv
        rcases List.mem_cons.1 hv with rfl | hv
        · exact ⟨_, rfl⟩
        · exact keys_seen he v hv)
      have hw0 : Rds Z A (a[k].toNat * 2) [.int .i64 l[a[k].toNat].1] := fun j v hv => hwx j v (by
        match j, hv with
        | 0, hv => exact hv
        | j + 1, hv => simp at hv)
      have hw1 : Rds Z A (a[k].toNat * 2 + 1) [.int .i64 l[a[k].toNat].2] := fun j v hv => by
        match j, hv with
        | 0, hv => exact hwx 1 v hv
        | j + 1, hv => simp at hv
      refine ⟨hks, false, ⟨by simp, by simp⟩, by simp, fun _ => ⟨hks, by kernel_rfl, ⟨haA, by omega, by omega⟩, _, hw0, by unfold inI64; omega, by kernel_rfl, ⟨haA, by omega, by omega⟩, _, hw1, by unfold inI64; omega, by unfold inI64; omega,
        ⟨k + 1, putE es cc (.int .i64 a[k]) (.bool true), putC es cc (.int .i64 a[k]), s + l[a[k].toNat].1, d + l[a[k].toNat].2, by omega, ?_, by omega, by omega, by omega⟩, ?_, ?_⟩⟩
      · rw [putE_eq, he, put_seen _ _ hnot, List.take_succ_eq_append_getElem hlt']
      · simp only []; omega
      · exact incl_of (by simp only [go_sem] <;> simp)
  · have hk' : k = a.length := by
      have : ¬ k < a.length := by simpa using hge
      omega
    exact ⟨s, d, rfl, hds⟩
end Go.Proofs.Yteanjjdgmjdfiaa
