/- Plain facts: frames are found again. -/
import Derived.Test.YtaecppimppeebaaDoorBa5
namespace Go.Proofs.YtaecppimppeebaaDoor
open Go Go.SX

theorem val1 : ∀ a < 256, valP [UInt8.ofNat a] = (a : Int) := by decide +kernel
theorem val2 : ∀ a < 17, ∀ b < 256, valP [UInt8.ofNat a, UInt8.ofNat b] = ((a * 256 + b : Nat) : Int) := by decide +kernel
theorem b8_low {n k : Nat} (h : n < 65536) (hk : 16 ≤ k) (hk' : k ≤ 64) : b8 (n : Int) k = 0 := by
  unfold b8
  rw [Nat.min_eq_left hk']
  have h2 : (65536 : Int) ≤ 2 ^ k := by
    have : 2 ^ 16 ≤ 2 ^ k := Nat.pow_le_pow_right (by omega) hk
    have h3 : ((2 ^ k : Nat) : Int) = (2 : Int) ^ k := by rw [Int.natCast_pow]; rfl
    rw [← h3]
    exact (Int.ofNat_le.2 this : ((2 ^ 16 : Nat) : Int) ≤ _)
  have : Int.fdiv (n : Int) (2 ^ k) = 0 := by
    rw [Int.fdiv_eq_ediv_of_nonneg _ (Int.le_trans (by decide) h2)]
    exact Int.ediv_eq_zero_of_lt (Int.natCast_nonneg n) (Int.lt_of_lt_of_le (Int.ofNat_lt.2 h) h2)
  rw [this]
  rfl
theorem digP_form {n : Nat} (h : n < 4098) : digP (n : Int) = if n = 0 then [] else if n < 256 then [UInt8.ofNat n] else [UInt8.ofNat (n / 256), UInt8.ofNat (n % 256)] := by
  have h1 : b8 (n : Int) 8 = UInt8.ofNat (n / 256) := by
    unfold b8
    rw [Int.fdiv_eq_ediv_of_nonneg _ (by decide), u8_wrap]
    congr 1
    have : (2 : Int) ^ min 8 64 = 256 := rfl
    rw [this]; omega
  have h0 : UInt8.ofNat (IntKind.u8.wrap (n : Int)).toNat = UInt8.ofNat (n % 256) := by
    rw [u8_wrap]; congr 1
  unfold digP be8
  rw [b8_low (by omega) (by omega) (by omega), b8_low (by omega) (by omega) (by omega), b8_low (by omega) (by omega) (by omega), b8_low (by omega) (by omega) (by omega), b8_low (by omega) (by omega) (by omega), b8_low (by omega) (by omega) (by omega), h1, h0]
  have hz : ∀ m, m < 256 → (UInt8.ofNat m == 0) = decide (m = 0) := by decide +kernel
  simp only [List.dropWhile_cons, beq_self_eq_true, if_true, hz (n / 256) (by omega), hz (n % 256) (by omega)]
  by_cases e0 : n = 0
  · subst e0; rfl
  · rw [if_neg e0]
    by_cases e1 : n < 256
    · rw [if_pos e1]
      have : n / 256 = 0 := by omega
      have h3 : n % 256 = n := by omega
      simp [this, h3, e0]
    · rw [if_neg e1]
      have : n / 256 ≠ 0 := by omega
      simp [this]
theorem ofNat_ne {m : Nat} (h : m < 256) (h0 : m ≠ 0) : UInt8.ofNat m ≠ 0 := fun e => h0 (by
  have := congrArg UInt8.toNat e
  rw [UInt8.toNat_ofNat'] at this
  have h2 : (0 : UInt8).toNat = 0 := rfl
  omega)
theorem digP_facts {n : Nat} (h : n < 4098) : valP (digP (n : Int)) = n ∧ (digP (n : Int)).head? ≠ some 0 := by
  rw [digP_form h]
  split
  · subst n; exact ⟨rfl, by simp⟩
  · split
    · exact ⟨val1 n (by omega), by simpa using ofNat_ne (by omega) (by omega)⟩
    · refine ⟨?_, by simpa using ofNat_ne (by omega) (by omega)⟩
      rw [val2 _ (by omega) _ (by omega)]
      omega
theorem getP_put {n : Nat} (h : n < 4098) (rest : List UInt8) : getP (putP (n : Int) ++ rest) = ((n : Int), 1 + ((digP (n : Int)).length : Int), 0) := by
  have hl := digP_len (n : Int)
  have hc : (UInt8.ofNat (digP (n : Int)).length).toNat = (digP (n : Int)).length := by rw [UInt8.toNat_ofNat']; omega
  obtain ⟨hv, hh⟩ := digP_facts h
  unfold putP getP
  simp only [List.cons_append, hc]
  rw [if_neg (by omega), if_neg (by simp), if_neg, List.take_left, hv]
  rintro ⟨h1, h2⟩
  cases hd : digP (n : Int) with
  | nil => rw [hd] at h1; simp at h1
  | cons x r => rw [hd] at h2 hh; simp at h2 hh; exact hh h2
theorem putP_len {n : Int} : (putP n).length = 1 + (digP n).length := by simp [putP]; omega
theorem pieceP_frame {s : List UInt8} (h : s.length ≤ 4096) (X : List UInt8) : pieceP (frameP s ++ X) = some (s, (frameP s).length) := by
  have hl := frameP_len s
  have hp := @putP_len s.length
  have e : frameP s ++ X = putP s.length ++ (s ++ (idP (frameT s) ++ X)) := by simp [frameP, frameT]
  have hg : getP (frameP s ++ X) = ((s.length : Int), 1 + ((digP (s.length : Int)).length : Int), 0) := by rw [e]; exact getP_put (by omega) _
  unfold pieceP
  rw [hg]
  simp only []
  have hE : (1 + ((digP (s.length : Int)).length : Int) + (s.length : Int)).toNat = (frameT s).length := by simp [frameT, hp]; omega
  have hK : (1 + ((digP (s.length : Int)).length : Int)).toNat = (putP s.length).length := by rw [hp]; omega
  have hF : (frameT s).length + 8 = (frameP s).length := by simp [frameP, idP_len]
  rw [hE, hK, if_neg (by simp; omega), if_neg (by rw [List.length_append]; omega)]
  have t1 : (frameP s ++ X).take (frameT s).length = frameT s := by simp [frameP]
  have t2 : ((frameP s ++ X).drop (frameT s).length).take 8 = idP (frameT s) := by
    simp only [frameP, List.append_assoc, List.drop_left]
    rw [List.take_left' (idP_len _)]
  rw [t1, t2, if_pos rfl, hF]
  simp [frameT]
theorem pieceP_short {s : List UInt8} (h : s.length ≤ 4096) {m : Nat} (hm : m < (frameP s).length) : pieceP ((frameP s).take m) = none := by
  have hl := frameP_len s
  have hp := @putP_len s.length
  have hd := digP_len (s.length : Int)
  have e : frameP s = putP s.length ++ (s ++ idP (frameT s)) := by simp [frameP, frameT]
  by_cases h1 : m < (putP s.length).length
  · unfold pieceP
    rw [if_pos]
    left
    rw [e, List.take_append_of_le_length (by omega)]
    cases m with
    | zero => simp [getP]
    | succ m =>
      have hc : (UInt8.ofNat (digP (s.length : Int)).length).toNat = (digP (s.length : Int)).length := by rw [UInt8.toNat_ofNat']; omega
      simp only [putP, List.take_succ_cons, getP, hc]
      rw [if_neg (by omega), if_pos (by simp; omega)]
      simp
  · have e2 : (frameP s).take m = putP s.length ++ (s ++ idP (frameT s)).take (m - (putP s.length).length) := by
      rw [e, List.take_append, List.take_of_length_le (by omega)]
    have hg : getP ((frameP s).take m) = ((s.length : Int), 1 + ((digP (s.length : Int)).length : Int), 0) := by rw [e2]; exact getP_put (by omega) _
    unfold pieceP
    rw [hg]
    simp only []
    rw [if_neg (by simp; omega), if_pos]
    rw [List.length_take]
    omega
/-- the frames of records -/
def framesP (rs : List (List UInt8)) : List UInt8 := (rs.map frameP).flatten
theorem scanP_frames : ∀ (rs : List (List UInt8)) (m f : Nat), (∀ r ∈ rs, r.length ≤ 4096) → min m (framesP rs).length < f → ∃ j, (scanP f ((framesP rs).take m)).1 = rs.take j ∧ ((framesP rs).length ≤ m → j = rs.length ∧ (scanP f ((framesP rs).take m)).2 = (framesP rs).length)
  | [], m, f, _, hf => by
    refine ⟨0, ?_, fun _ => ⟨rfl, ?_⟩⟩ <;>
    · cases f with
      | zero => simp at hf
      | succ f => simp [scanP, framesP, pieceP, getP]
  | r :: rs, m, 0, _, hf => by omega
  | r :: rs, m, f + 1, hr, hf => by
    have hr0 := hr r (by simp)
    have e : framesP (r :: rs) = frameP r ++ framesP rs := by simp [framesP]
    have hl := frameP_len r
    rw [e] at hf ⊢
    rw [List.length_append] at hf
    by_cases hm : m < (frameP r).length
    · rw [List.take_append_of_le_length (by omega)]
      refine ⟨0, ?_, fun h => ?_⟩
      · simp only [scanP, pieceP_short hr0 hm, List.take_zero]
      · rw [List.length_append] at h; omega
    · obtain ⟨j, h1, h2⟩ := scanP_frames rs (m - (frameP r).length) f (fun x hx => hr x (by simp [hx])) (by omega)
      have e2 : (frameP r ++ framesP rs).take m = frameP r ++ (framesP rs).take (m - (frameP r).length) := by
        rw [List.take_append, List.take_of_length_le (by omega)]
      rw [e2]
      have hs : scanP (f + 1) (frameP r ++ (framesP rs).take (m - (frameP r).length)) = (r :: (scanP f ((framesP rs).take (m - (frameP r).length))).1, (frameP r).length + (scanP f ((framesP rs).take (m - (frameP r).length))).2) := by
        simp only [scanP, pieceP_frame hr0, List.drop_left]
      rw [hs]
      refine ⟨j + 1, by simp [h1], fun h => ?_⟩
      rw [List.length_append] at h ⊢
      obtain ⟨h3, h4⟩ := h2 (by omega)
      exact ⟨by simp [h3], by simp only []; omega⟩

/-- what a blob's record holds -/
theorem pid_zero {k : Int} {t : List UInt8} (h : pidP k t = 0) : 1 ≤ k ∧ k ≤ 3 := by
  unfold pidP at h
  split at h
  · rename_i hk; simp [knownP] at hk; exact hk
  · cases h
theorem allP_ok : ∀ {l : List (Int × List UInt8)} {acc xs : List UInt8}, allP l acc = .ok xs → acc.length ≤ 2048000 → xs = acc ++ framesP (l.map fun x => blobT x.1 x.2) ∧ xs.length ≤ 2048000 ∧ ∀ x ∈ l, (1 ≤ x.1 ∧ x.1 ≤ 3) ∧ (blobT x.1 x.2).length ≤ 4096
  | [], acc, xs, h, ha => by
    simp only [allP] at h
    cases h
    exact ⟨by simp [framesP], ha, by simp⟩
  | (k, t) :: r, acc, xs, h, ha => by
    simp only [allP] at h
    split at h
    · cases h
    · split at h
      · cases h
      · split at h
        · cases h
        · rename_i h1 h2 h3
          obtain ⟨e1, e2, e3⟩ := allP_ok h (by omega)
          refine ⟨by rw [e1]; simp [framesP], e2, fun x hx => ?_⟩
          rcases List.mem_cons.1 hx with rfl | hx
          · exact ⟨pid_zero (by simpa using h1), Nat.le_of_not_lt h2⟩
          · exact e3 x hx
theorem allP_err : ∀ {l : List (Int × List UInt8)} {acc : List UInt8} {e : Int}, allP l acc = .error e → e ≠ 0
  | [], acc, e, h => by simp only [allP] at h; cases h
  | (k, t) :: r, acc, e, h => by
    simp only [allP] at h
    split at h
    · rename_i h1; cases h; exact h1
    · split at h
      · cases h; decide
      · split at h
        · cases h; decide
        · exact allP_err h
theorem blobsP_back : ∀ (l : List (Int × List UInt8)), (∀ x ∈ l, 1 ≤ x.1 ∧ x.1 ≤ 3) → blobsP (l.map fun x => blobT x.1 x.2) = (l, true)
  | [], _ => rfl
  | (k, t) :: r, h => by
    have hk := h (k, t) (by simp)
    simp only at hk
    have ih := blobsP_back r fun x hx => h x (by simp [hx])
    have hc : (((UInt8.ofNat (IntKind.u8.wrap k).toNat).toNat : Nat) : Int) = k := by rw [u8_back, u8_wrap]; omega
    have hkn : knownP k = true := by simp [knownP]; exact hk
    simp only [List.map_cons, blobT, blobsP, hc, hkn, if_true]
    rw [show (r.map fun x => UInt8.ofNat (IntKind.u8.wrap x.1).toNat :: x.2) = r.map fun x => blobT x.1 x.2 from rfl, ih]
theorem take_drop_all (xs : List UInt8) : ∀ k, (((List.range k).map fun j => (xs.drop (1024 * j)).take 1024)).flatten = xs.take (1024 * k)
  | 0 => by simp
  | k + 1 => by
    rw [List.range_succ, List.map_append, List.flatten_append, take_drop_all xs k, Nat.mul_add, Nat.mul_one, List.take_add]
    simp
theorem splitP_flat (xs : List UInt8) : (splitP xs).flatten = xs := by
  unfold splitP
  rw [take_drop_all, List.take_of_length_le (by unfold pieces; omega)]
theorem splitP_take (xs : List UInt8) (r : Nat) : ∃ m, ((splitP xs).take r).flatten = xs.take m := by
  unfold splitP
  rw [← List.map_take, List.take_range, take_drop_all]
  exact ⟨_, rfl⟩
theorem splitP_length (xs : List UInt8) : (splitP xs).length = pieces xs.length := by simp [splitP]
theorem splitP_get {xs : List UInt8} {i : Nat} (h : i < (splitP xs).length) : (splitP xs)[i] = (xs.drop (1024 * i)).take 1024 := by simp [splitP]
/-- all blobs come back -/
theorem back_all {l : List (Int × List UInt8)} {xs : List UInt8} (h : allP l [] = .ok xs) : blobsP (recsOf (splitP xs)).1 = (l, true) ∧ (recsOf (splitP xs)).2 = (splitP xs).flatten.length := by
  obtain ⟨e1, e2, e3⟩ := allP_ok h (by simp)
  rw [List.nil_append] at e1
  have hr : ∀ r ∈ l.map (fun x => blobT x.1 x.2), r.length ≤ 4096 := by
    intro r hr
    obtain ⟨x, hx, rfl⟩ := List.mem_map.1 hr
    exact (e3 x hx).2
  obtain ⟨j, h1, h2⟩ := scanP_frames (l.map fun x => blobT x.1 x.2) xs.length (xs.length + 1) hr (by rw [← e1]; omega)
  rw [← e1, List.take_length] at h1 h2
  obtain ⟨h3, h4⟩ := h2 (Nat.le_refl _)
  unfold recsOf
  rw [splitP_flat]
  refine ⟨?_, h4⟩
  rw [h1, h3, List.take_length]
  exact blobsP_back l fun x hx => (e3 x hx).1
/-- of a beginning of the texts a beginning of the blobs -/
theorem back_some {l : List (Int × List UInt8)} {xs : List UInt8} (h : allP l [] = .ok xs) (r : Nat) : ∃ j, (blobsP (recsOf ((splitP xs).take r)).1).1 = l.take j := by
  obtain ⟨e1, e2, e3⟩ := allP_ok h (by simp)
  rw [List.nil_append] at e1
  have hr : ∀ r ∈ l.map (fun x => blobT x.1 x.2), r.length ≤ 4096 := by
    intro r hr
    obtain ⟨x, hx, rfl⟩ := List.mem_map.1 hr
    exact (e3 x hx).2
  obtain ⟨m, hm⟩ := splitP_take xs r
  unfold recsOf
  rw [hm]
  obtain ⟨j, h1, _⟩ := scanP_frames (l.map fun x => blobT x.1 x.2) m ((xs.take m).length + 1) hr (by rw [← e1, List.length_take]; omega)
  rw [← e1] at h1
  refine ⟨j, ?_⟩
  rw [h1, ← List.map_take, blobsP_back _ fun x hx => (e3 x (List.mem_of_mem_take hx)).1]
end Go.Proofs.YtaecppimppeebaaDoor
