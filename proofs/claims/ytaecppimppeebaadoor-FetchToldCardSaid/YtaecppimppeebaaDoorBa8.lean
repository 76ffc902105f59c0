/- lumkeep.FetchTold answers true. -/
import Derived.Test.YtaecppimppeebaaDoorBa7
namespace Go.Proofs.YtaecppimppeebaaDoor
open Go Go.SX

theorem rds_pre {Z : Heap} {A : Option Addr} {l : List (Int × List UInt8)} {j : Nat} (h : Rds Z A 0 (bcells l)) : Rds Z A 0 (bcells (l.take j)) := fun i v hv => by
  refine h i v ?_
  have e : bcells l = bcells (l.take j) ++ bcells (l.drop j) := by
    simp only [bcells]
    rw [← List.flatMap_append, List.take_append_drop]
  rw [e, List.getElem?_append_left (List.getElem?_eq_some_iff.1 hv).1]
  exact hv
theorem canary1 : ∃ xs, allP [(1, [97])] [] = .ok xs ∧ (splitP xs).length = 1 := by
  have hp : pidP 1 [97] = 0 := rfl
  have hb : (blobT 1 [97]).length = 2 := rfl
  have hl := frameP_len (blobT 1 [97])
  rw [hb] at hl
  have hd : (digP ((2 : Nat) : Int)).length = 1 := by rw [digP_form (by omega)]; rfl
  rw [hd] at hl
  refine ⟨frameP (blobT 1 [97]), ?_, ?_⟩
  · simp only [allP, hp, hb, List.nil_append, hl]
    rfl
  · rw [splitP_length, hl]; rfl
set_option maxHeartbeats 4000000 in
set_option maxRecDepth 20000 in
theorem told_any (Z : Heap) (A : Option Addr) (cap : Nat) (l : List (Int × List UInt8)) (n : Int) (h : Rds Z A 0 (bcells l)) (hn : l.length ≤ 9223372036854775807) (hc : l.length ≤ cap) (_hi : inI64 n) :
    FnE Tryd.prog 3 [.slice A l.length cap, .int .i64 n] Z (.bool true) := by
  refine fnV_intro Tryd.func3 rfl (Nat.le_of_ble_eq_true rfl) ?_
  simp only [go_sem]
  intro b
  refine vcCall_HF _ rfl (fun Z1 hz hf => texts_any Z1 (some ⟨b, 0, none⟩) 1 [(1, [97])] (rds_frz (vs := bcells [(1, [97])]) hf.1) (by decide)) ?_
  intro v Z1 Z2 hz1 hf hz2 hv
  obtain ⟨xs0, hx0, hl0⟩ := canary1
  unfold texted at hv
  rw [hx0] at hv
  obtain ⟨A0, cap0, rfl, hr0, hc0⟩ := hv
  have hzz : Z.le Z2 := Heap.le.trans hz1 hz2
  clear hf hz1 hz2
  simp only [hl0, go_sem]
  have h2 : Rds Z2 A 0 (bcells l) := fun j v hv => hzz.rd (h j v hv)
  refine ⟨fun h => by simp at h, fun _ => ?_⟩
  refine vcCall_H _ rfl (texts_any Z2 A cap l h2 hn) ?_
  intro v1 Z3 hz3 hv1
  unfold texted at hv1
  cases hal : allP l [] with
  | error e =>
    rw [hal] at hv1
    subst hv1
    have he := allP_err hal
    simp only [go_sem]
    exact ⟨fun _ => ⟨Heap.le.trans hzz hz3, rfl⟩, fun hc => by simp at hc; exact absurd hc he⟩
  | ok xs =>
    rw [hal] at hv1
    obtain ⟨A3, cap3, rfl, hr3, hc3⟩ := hv1
    have hsp := splitP_length xs
    have hxl : xs.length ≤ 2048000 := (allP_ok hal (by simp)).2.1
    have hsl : (splitP xs).length ≤ 2001 := by rw [hsp]; unfold pieces; omega
    simp only [go_sem]
    refine vcLoop_intro (ι := {k : Nat // k ≤ (splitP xs).length})
      (fun k => ⟨[(40, .val (.int .i64 k.1)), (39, .val (.int .i64 (splitP xs).length)), (38, .val (.slice A3 (splitP xs).length cap3)), (7, .val (.slice A3 (splitP xs).length cap3)), (0, .val (.slice A l.length cap)), (1, .val (.int .i64 n))], [], Z3⟩)
      (fun k => (splitP xs).length - k.1) ⟨0, by omega⟩ (incl_of (by simp only [go_sem] <;> simp)) ?_
    rintro ⟨k, hk⟩
    simp only [go_sem]
    refine ⟨fun hlt => ?_, fun hge => ?_⟩
    · have hlt' : k < (splitP xs).length := by simpa using hlt
      obtain ⟨hs, hr'⟩ := rds_s hr3 hlt'
      refine ⟨⟨hs, by omega, by omega⟩, _, hr', ?_⟩
      have hget := splitP_get hlt'
      have hkx := pieces_lt.1 (show k < pieces xs.length by omega)
      have hln : ((splitP xs)[k]).length = min 1024 (xs.length - 1024 * k) := by rw [hget]; simp
      have hne : (splitP xs)[k] ≠ [] := by intro e; rw [e] at hln; simp at hln; omega
      have hlast : k + 1 < (splitP xs).length → 1024 ≤ xs.length - 1024 * k := fun hh => by
        have := pieces_lt.1 (show k + 1 < pieces xs.length by omega)
        omega
      generalize (splitP xs)[k] = s at hne hln
      have e1 : decide ((bs s).data.toList = []) = false := by simpa using hne
      have e2 : decide ((1024 : Int) < ((bs s).size : Int)) = false := by
        rw [decide_eq_false_iff_not]; show ¬ (1024 : Int) < (s.length : Int); omega
      have e3 : (decide (((bs s).size : Int) < 1024) && decide ((k : Int) < ((splitP xs).length : Int) - 1)) = false := by
        rw [← Bool.decide_and, decide_eq_false_iff_not]
        rintro ⟨h1, h2⟩
        have h1 : (s.length : Int) < 1024 := h1
        have := hlast (by omega)
        omega
      refine ⟨fun _ => ?_, fun a b => ?_, fun hc => ?_, fun _ => ⟨by unfold inI64; omega, ⟨k + 1, by omega⟩, by simp only []; omega, incl_take 0 rfl (by simp only [go_sem] <;> simp) (by simp only [go_sem]) (by simp only [go_sem])⟩⟩
      · unfold inI64; omega
      · rw [a, b]; rfl
      · rw [e1, e2, e3] at hc; cases hc
    · have hfl : (splitP xs).flatten.length ≤ 2048000 := by rw [splitP_flat]; exact hxl
      obtain ⟨hb1, hb2⟩ := back_all hal
      refine vcCall_H _ rfl (blobs_any Z3 A3 cap3 (splitP xs) hr3 hc3 (by omega) (by omega)) ?_
      intro v2 Z4 hz4 hv2
      unfold blobbed at hv2
      rw [hb1, hb2] at hv2
      obtain ⟨A5, cap5, rfl, hr5, hc5⟩ := hv2
      simp only [go_sem]
      refine ⟨by unfold inI64; omega, ?_⟩
      refine vcCall_E _ rfl (rest_any Z4 n ((splitP xs).length + 1) (by omega) (by omega)) ?_
      have hr0 : 0 ≤ (n.tmod ((splitP xs).length + 1) + ((splitP xs).length + 1)).tmod ((splitP xs).length + 1) ∧ (n.tmod ((splitP xs).length + 1) + ((splitP xs).length + 1)).tmod ((splitP xs).length + 1) < (splitP xs).length + 1 := by
        have hN : (0 : Int) < ((splitP xs).length : Int) + 1 := by omega
        have h1 : - (((splitP xs).length : Int) + 1) < n.tmod (((splitP xs).length : Int) + 1) := by
          rcases Int.le_total 0 n with h | h
          · have := Int.tmod_nonneg (((splitP xs).length : Int) + 1) h; omega
          · have h2 : (-n).tmod (((splitP xs).length : Int) + 1) = - n.tmod (((splitP xs).length : Int) + 1) := Int.neg_tmod ..
            have := Int.tmod_lt_of_pos (-n) hN
            omega
        exact ⟨Int.tmod_nonneg _ (by omega), Int.tmod_lt_of_pos _ hN⟩
      generalize (n.tmod (((splitP xs).length : Int) + 1) + (((splitP xs).length : Int) + 1)).tmod (((splitP xs).length : Int) + 1) = r at hr0 ⊢
      simp only [go_sem]
      refine ⟨⟨by omega, by omega⟩, ?_⟩
      have htl : ((splitP xs).take r.toNat).length = r.toNat := by rw [List.length_take]; omega
      obtain ⟨m, hm⟩ := splitP_take xs r.toNat
      have hr4 : Rds Z4 A3 0 (scells ((splitP xs).take r.toNat)) := fun j v hv => by
        refine hz4.rd (hr3 j v ?_)
        rw [scells, List.map_take, List.getElem?_take] at hv
        split at hv
        · exact hv
        · cases hv
      have hbl := blobs_any Z4 A3 cap3 ((splitP xs).take r.toNat) hr4 (by omega) (by omega) (by rw [hm, List.length_take]; omega)
      rw [htl] at hbl
      obtain ⟨j, hj⟩ := back_some hal r.toNat
      refine vcCall_H _ rfl hbl ?_
      intro v3 Z5 hz5 hv3
      unfold blobbed at hv3
      rw [hj] at hv3
      obtain ⟨A6, cap6, rfl, hr6, hc6⟩ := hv3
      generalize ((blobsP (recsOf ((splitP xs).take r.toNat)).1).2 && decide ((recsOf ((splitP xs).take r.toNat)).2 = ((splitP xs).take r.toNat).flatten.length)) = ok6
      simp only [go_sem]
      have h5 : Rds Z5 A 0 (bcells l) := fun j v hv => hz5.rd (hz4.rd (hz3.rd (h2 j v hv)))
      have hr55 : Rds Z5 A5 0 (bcells l) := fun j v hv => hz5.rd (hr5 j v hv)
      have hq1 := equalB_any Z5 A5 A l l cap5 cap hr55 h5 hn hn
      rw [decide_eq_true (rfl : l = l)] at hq1
      refine vcCall_E _ rfl hq1 ?_
      simp only [go_sem]
      have hle : (l.take j).length ≤ l.length := by rw [List.length_take]; omega
      have hd : decide ((((l.take j).length : Nat) : Int) ≤ (l.length : Int)) = true := by simpa using hle
      rw [hd]
      have h6 : Rds Z5 A6 0 (bcells (l.take j)) := hr6
      have h7 : Rds Z5 A 0 (bcells (l.take j)) := rds_pre h5
      have hq2 := equalB_any Z5 A6 A (l.take j) (l.take j) cap6 cap h6 h7 (by omega) (by omega)
      rw [decide_eq_true (rfl : l.take j = l.take j)] at hq2
      refine ⟨fun _ => ⟨⟨by omega, by omega⟩, ?_⟩, fun hc => by cases hc⟩
      refine vcCall_E _ rfl hq2 ?_
      simp only [go_sem]
      exact Heap.le.trans hzz (Heap.le.trans hz3 (Heap.le.trans hz4 hz5))
end Go.Proofs.YtaecppimppeebaaDoor
