/- waste.Choose: a greater threshold gives a beginning of what a smaller one gives. -/
import Derived.Test.YteanjjdgmjdfiaaWa8
import Derived.Test.YteanjjdgmjdfiaaWaP
import Derived.Test.YteanjjdgmjdfiaaPf
namespace Go.Proofs.Yteanjjdgmjdfiaa
open Go Go.SX

/-- what the law says of the two results -/
structure Ranks (l : List (Int × Int)) (t1 t2 : Nat) (a b : List Int) : Prop where
  ha : ∀ x ∈ a, domOf l x
  la : a.length ≤ 100
  lb : b.length ≤ 100
  desc : ∀ i, i + 1 < a.length → (Ieee.double.order (shareAt l (a.getD i 0)) (shareAt l (a.getD (i + 1) 0)) == some .lt) = false
  pre : (Ieee.double.order t1 t2 == some .lt || Ieee.double.order t1 t2 == some .eq) = true → b.length ≤ a.length ∧ a.take b.length = b

def shKey (l : List (Int × Int)) (x : Int) : Int := (Fl.key (shareAt l x)).getD 0
def ky (l : List (Int × Int)) (x : Int) : Int := x - 1000 * shKey l x

theorem key_fin (w : Nat) (h : w ≤ 4607182418800017408) : ∃ n, Fl.key w = some n := by
  unfold Fl.key
  rw [Fl.read_eq]
  split
  · exact ⟨_, rfl⟩
  · rw [if_pos (by omega)]; exact ⟨_, rfl⟩
theorem chk_ok {l : List (Int × Int)} (h : checkP l = 0) : l.length ≤ 100 ∧ l.all wOk = true := by
  unfold checkP at h; split at h
  · omega
  · split at h
    · exact ⟨by omega, by assumption⟩
    · omega
theorem share_key {l : List (Int × Int)} (h : checkP l = 0) {x : Int} (hx : domOf l x) : Fl.key (shareAt l x) = some (shKey l x) := by
  obtain ⟨_, hok⟩ := chk_ok h
  have hl : x.toNat < l.length := hx.2
  have e : shareAt l x = shareW l[x.toNat] := by simp [shareAt, hl]
  obtain ⟨n, hn⟩ := key_fin _ (shareW_le _ (List.all_eq_true.1 hok _ (List.getElem_mem hl)))
  rw [← e] at hn
  simp [shKey, hn]
theorem order_some {x y : Nat} {a b : Int} (hx : Fl.key x = some a) (hy : Fl.key y = some b) : Ieee.double.order x y = some (compare a b) := by
  rw [Fl.order_key, hx, hy]
theorem ord_lt (a b : Int) : (some (compare a b) == some Ordering.lt) = decide (a < b) := by
  by_cases h : a < b
  · simp [Int.compare_eq_lt.2 h, h]
  · rcases Int.lt_or_eq_of_le (Int.not_lt.1 h) with h1 | h1
    · simp [Int.compare_eq_gt.2 h1, h]
    · simp [h1]
theorem ord_gt (a b : Int) : (some (compare a b) == some Ordering.gt) = decide (b < a) := by
  by_cases h : b < a
  · simp [Int.compare_eq_gt.2 h, h]
  · rcases Int.lt_or_eq_of_le (Int.not_lt.1 h) with h1 | h1
    · simp [Int.compare_eq_lt.2 h1, h]
    · simp [h1]
theorem ord_eq (a b : Int) : (some (compare a b) == some Ordering.eq) = decide (a = b) := by
  by_cases h : a = b
  · simp [h]
  · rcases Int.lt_or_gt_of_ne h with h1 | h1
    · simp [Int.compare_eq_lt.2 h1, h]
    · simp [Int.compare_eq_gt.2 h1, h]
theorem nan_some {x : Nat} {a : Int} (hx : Fl.key x = some a) : fNaN x = false := by
  unfold fNaN
  rw [order_some hx hx]; simp

theorem choose_key {l : List (Int × Int)} (h : checkP l = 0) : Key (chooseC l) (ky l) (domOf l) where
  test := by
    intro x y hx hy hxy
    obtain ⟨hl, _⟩ := chk_ok h
    have kx := share_key h hx
    have kyy := share_key h hy
    have hx2 := hx.2; have hy2 := hy.2; have hx1 := hx.1
    unfold chooseC cmpF
    rw [nan_some kx, nan_some kyy, order_some kx kyy, ord_lt, ord_gt]
    unfold ky
    by_cases h1 : shKey l x < shKey l y
    · simp [h1]; omega
    · by_cases h2 : shKey l y < shKey l x
      · simp [h1, h2]; omega
      · simp [h1, h2]; omega
  inj := by
    intro x y hx hy hxy
    obtain ⟨hl, _⟩ := chk_ok h
    have hx2 := hx.2; have hy2 := hy.2; have hx1 := hx.1
    unfold ky
    omega

theorem pick_iff (l : List (Int × Int)) (t : Nat) : ∀ (k : Nat) (x : Int), x ∈ pickP l t k ↔ 0 ≤ x ∧ x.toNat < k ∧ wantW t (l.getD x.toNat (0, 0)) = true
  | 0, x => by simp [pickP]
  | k + 1, x => by
    have ih := pick_iff l t k x
    simp only [pickP]
    split
    · rename_i hw
      rw [List.mem_append, ih, List.mem_singleton]
      constructor
      · rintro (⟨h1, h2, h3⟩ | rfl)
        · exact ⟨h1, by omega, h3⟩
        · exact ⟨by omega, by omega, by simpa using hw⟩
      · rintro ⟨h1, h2, h3⟩
        by_cases e : x.toNat = k
        · exact .inr (by omega)
        · exact .inl ⟨h1, by omega, h3⟩
    · rename_i hw
      rw [ih]
      constructor
      · rintro ⟨h1, h2, h3⟩; exact ⟨h1, by omega, h3⟩
      · rintro ⟨h1, h2, h3⟩
        refine ⟨h1, ?_, h3⟩
        by_cases e : x.toNat = k
        · rw [e] at h3; exact absurd h3 hw
        · omega
theorem pick_inc (l : List (Int × Int)) (t : Nat) : ∀ (k : Nat), (pickP l t k).Pairwise (· < ·)
  | 0 => by simp [pickP]
  | k + 1 => by
    have ih := pick_inc l t k
    simp only [pickP]
    split
    · rw [List.pairwise_append]
      refine ⟨ih, by simp, fun a ha b hb => ?_⟩
      simp only [List.mem_singleton] at hb
      subst hb
      have := (pick_iff l t k a).1 ha
      omega
    · exact ih

theorem pair_gt {l : List Int} (h : l.Pairwise (· < ·)) : ∀ i j, i < j → j < l.length → gt l i < gt l j := fun i j h1 h2 => by
  have := List.pairwise_iff_getElem.1 h i j (by omega) h2 h1
  simpa [gt, h2, show i < l.length by omega] using this
theorem gt_pair {k : Int → Int} {l : List Int} (h : Srt k l 0 l.length) : l.Pairwise (fun x y => k x < k y) := by
  rw [List.pairwise_iff_getElem]
  intro i j h1 h2 h3
  have := h i j (Nat.zero_le _) h3 h2
  simpa [gt, h1, h2] using this
theorem choose_sorted {l : List (Int × Int)} (h : checkP l = 0) (t : Nat) : (chooseP l t).Pairwise (fun x y => ky l x < ky l y) := by
  refine gt_pair (sort_law (choose_key h) (pickP l t l.length) (pair_gt (pick_inc l t l.length)) fun i hi => ?_)
  have hm : gt (pickP l t l.length) i ∈ pickP l t l.length := by simp [gt, hi]
  have := (pick_iff l t _ _).1 hm
  exact ⟨this.1, this.2.1⟩
theorem choose_mem {l : List (Int × Int)} (t : Nat) (x : Int) : x ∈ chooseP l t ↔ 0 ≤ x ∧ x.toNat < l.length ∧ wantW t (l.getD x.toNat (0, 0)) = true := by
  rw [← pick_iff]; exact (sortP_perm _ _).mem_iff

/-- two lists that are sorted by a key and have the same members are the same -/
theorem sorted_eq {k : Int → Int} : ∀ {a b : List Int}, a.Pairwise (fun x y => k x < k y) → b.Pairwise (fun x y => k x < k y) → (∀ x, x ∈ a ↔ x ∈ b) → a = b
  | [], [], _, _, _ => rfl
  | [], y :: b, _, _, h => absurd ((h y).2 (by simp)) (by simp)
  | x :: a, [], _, _, h => absurd ((h x).1 (by simp)) (by simp)
  | x :: a, y :: b, ha, hb, h => by
    obtain ⟨ha1, ha2⟩ := List.pairwise_cons.1 ha
    obtain ⟨hb1, hb2⟩ := List.pairwise_cons.1 hb
    have hxy : x = y := by
      have hx := (h x).1 (by simp)
      have hy := (h y).2 (by simp)
      simp only [List.mem_cons] at hx hy
      rcases hx with e | hx
      · exact e
      · rcases hy with e | hy
        · exact e.symm
        · have := ha1 _ hy; have := hb1 _ hx; omega
    subst hxy
    rw [sorted_eq ha2 hb2 fun z => ?_]
    have hz := h z
    simp only [List.mem_cons] at hz
    constructor
    · intro h1
      rcases hz.1 (.inr h1) with e | e
      · subst e; have := ha1 _ h1; omega
      · exact e
    · intro h1
      rcases hz.2 (.inr h1) with e | e
      · subst e; have := hb1 _ h1; omega
      · exact e
/-- what holds of the first ones only is a beginning -/
theorem filter_take {R : Int → Int → Prop} (p : Int → Bool) : ∀ {a : List Int}, a.Pairwise R → (∀ x ∈ a, ∀ y ∈ a, R x y → p y = true → p x = true) → a.take (a.filter p).length = a.filter p
  | [], _, _ => by simp
  | x :: a, h, hp => by
    obtain ⟨h1, h2⟩ := List.pairwise_cons.1 h
    have ih := filter_take p h2 fun u hu v hv => hp u (by simp [hu]) v (by simp [hv])
    cases hx : p x with
    | true => simp [hx, ih]
    | false =>
      have : (x :: a).filter p = [] := by
        rw [List.filter_eq_nil_iff]
        intro y hy hpy
        simp only [List.mem_cons] at hy
        rcases hy with e | hy
        · subst e; rw [hx] at hpy; cases hpy
        · have := hp x (by simp) y (by simp [hy]) (h1 y hy) hpy
          rw [hx] at this; cases this
      rw [this]; simp

theorem ranks (l : List (Int × Int)) (t1 t2 : Nat) (h : checkP l = 0) : Ranks l t1 t2 (chooseP l t1) (chooseP l t2) := by
  obtain ⟨hl, hok⟩ := chk_ok h
  have len : ∀ t, (chooseP l t).length ≤ 100 := fun t => by
    have := pickP_len l t l.length
    have := (sortP_perm (chooseC l) (pickP l t l.length)).length_eq
    simp only [chooseP]; omega
  have dm : ∀ t, ∀ x ∈ chooseP l t, domOf l x := fun t x hx => by
    have := (choose_mem t x).1 hx; exact ⟨this.1, this.2.1⟩
  have ord : ∀ x y, domOf l x → domOf l y → ky l x < ky l y → shKey l y ≤ shKey l x := fun x y hx hy hk => by
    have := hx.1; have := hx.2; have := hy.1; have := hy.2
    unfold ky at hk; omega
  have want : ∀ t x, domOf l x → ∀ kt, Fl.key t = some kt → wantW t (l.getD x.toNat (0, 0)) = (decide (0 < (l.getD x.toNat (0, 0)).1) && decide (kt < shKey l x)) := fun t x hx kt hkt => by
    have := share_key h hx
    unfold shareAt at this
    unfold wantW
    rw [order_some this hkt, ord_gt]
  refine ⟨dm t1, len t1, len t2, fun i hi => ?_, fun hle => ?_⟩
  · have hp := List.pairwise_iff_getElem.1 (choose_sorted h t1) i (i + 1) (by omega) hi (by omega)
    have hx := dm t1 _ (List.getElem_mem (show i < (chooseP l t1).length by omega))
    have hy := dm t1 _ (List.getElem_mem hi)
    have := ord _ _ hx hy hp
    have e1 : (chooseP l t1).getD i 0 = (chooseP l t1)[i] := by simp [show i < (chooseP l t1).length by omega]
    have e2 : (chooseP l t1).getD (i + 1) 0 = (chooseP l t1)[i + 1] := by simp [hi]
    rw [e1, e2, order_some (share_key h hx) (share_key h hy), ord_lt]
    simp; omega
  · have hkk : ∃ k1 k2, Fl.key t1 = some k1 ∧ Fl.key t2 = some k2 ∧ k1 ≤ k2 := by
      rw [Fl.order_key] at hle
      cases h1 : Fl.key t1 with
      | none => rw [h1] at hle; simp at hle
      | some k1 =>
        cases h2 : Fl.key t2 with
        | none => rw [h1, h2] at hle; simp at hle
        | some k2 =>
          rw [h1, h2] at hle
          simp only [ord_lt, ord_eq, Bool.or_eq_true, decide_eq_true_eq] at hle
          exact ⟨k1, k2, rfl, rfl, by omega⟩
    obtain ⟨k1, k2, e1, e2, h12⟩ := hkk
    have hs1 := choose_sorted h t1
    have hs2 := choose_sorted h t2
    have hb : chooseP l t2 = (chooseP l t1).filter (fun x => wantW t2 (l.getD x.toNat (0, 0))) := by
      refine sorted_eq hs2 (hs1.filter _) fun x => ?_
      rw [List.mem_filter, choose_mem, choose_mem]
      constructor
      · rintro ⟨a1, a2, a3⟩
        refine ⟨⟨a1, a2, ?_⟩, a3⟩
        rw [want t2 x ⟨a1, a2⟩ k2 e2] at a3
        rw [want t1 x ⟨a1, a2⟩ k1 e1]
        simp only [Bool.and_eq_true, decide_eq_true_eq] at a3 ⊢
        exact ⟨a3.1, by omega⟩
      · rintro ⟨⟨a1, a2, a3⟩, a4⟩; exact ⟨a1, a2, a4⟩
    refine ⟨by rw [hb]; exact List.length_filter_le _ _, ?_⟩
    rw [hb]
    refine filter_take _ hs1 fun x hx y hy hr hw => ?_
    have dx := dm t1 x hx; have dy := dm t1 y hy
    have wx := ((choose_mem t1 x).1 hx).2.2
    have := ord x y dx dy hr
    rw [want t2 y dy k2 e2] at hw
    rw [want t1 x dx k1 e1] at wx
    rw [want t2 x dx k2 e2]
    simp only [Bool.and_eq_true, decide_eq_true_eq] at hw wx ⊢
    exact ⟨wx.1, by omega⟩
end Go.Proofs.Yteanjjdgmjdfiaa
