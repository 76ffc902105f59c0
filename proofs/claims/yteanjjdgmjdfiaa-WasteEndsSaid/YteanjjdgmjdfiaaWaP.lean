/- The stable sort: its result is sorted by the key. -/
import Derived.Test.YteanjjdgmjdfiaaWa6
namespace Go.Proofs.Yteanjjdgmjdfiaa
/-! the sort's law -/
abbrev gt (l : List Int) (i : Nat) : Int := l.getD i 0
theorem gt_set (l : List Int) (i : Nat) (v : Int) (p : Nat) (h : i < l.length) : gt (l.set i v) p = if i = p then v else gt l p := by
  simp only [gt, List.getD_eq_getElem?_getD, List.getElem?_set]
  split
  · rename_i e; subst e; simp [h]
  · rfl
theorem gt_sw (l : List Int) (i k : Nat) (hi : i < l.length) (hk : k < l.length) (p : Nat) : gt (sw l i k) p = if k = p then gt l i else if i = p then gt l k else gt l p := by
  unfold sw
  rw [gt_set _ _ _ _ (by simp; exact hk), gt_set _ _ _ _ hi]
theorem gt_swap (l : List Int) (a b : Nat) : ∀ (n : Nat), a + n ≤ l.length → b + n ≤ l.length → (a + n ≤ b ∨ b + n ≤ a) → ∀ p, gt (swapP l a b n) p = if a ≤ p ∧ p < a + n then gt l (p - a + b) else if b ≤ p ∧ p < b + n then gt l (p - b + a) else gt l p
  | 0, _, _, _, p => by rw [if_neg (by omega), if_neg (by omega)]; rfl
  | n + 1, h1, h2, h3, p => by
    have ih := gt_swap l a b n (by omega) (by omega) (by omega)
    simp only [swapP]
    rw [gt_set _ _ _ _ (by rw [List.length_set, swapP_len]; omega), gt_set _ _ _ _ (by rw [swapP_len]; omega)]
    have e1 := ih (a + n)
    have e2 := ih (b + n)
    rw [if_neg (by omega), if_neg (by omega)] at e1 e2
    simp only [gt] at e1 e2
    rw [e1, e2, ih p]
    repeat' split
    all_goals first | omega | rfl | (simp only [gt]; congr 1 <;> omega)
theorem rotP_len (m : Nat) : ∀ (f i j : Nat) (l : List Int), (rotP l m f i j).length = l.length
  | 0, _, _, _ => rfl
  | f + 1, i, j, l => by
    simp only [rotP]
    split
    · exact swapP_len ..
    · split
      · rw [rotP_len m f, swapP_len]
      · rw [rotP_len m f, swapP_len]
theorem gt_rot (m : Nat) : ∀ (f i j : Nat) (l : List Int), 0 < i → 0 < j → i + j ≤ f + 1 → i ≤ m → m + j ≤ l.length →
    ∀ p, gt (rotP l m f i j) p = if m - i ≤ p ∧ p < m - i + j then gt l (p + i) else if m - i + j ≤ p ∧ p < m + j then gt l (p - j) else gt l p
  | 0, i, j, l, h1, h2, h3, _, _, p => by omega
  | f + 1, i, j, l, h1, h2, h3, h4, h5, p => by
    simp only [rotP]
    by_cases hij : i = j
    · subst hij
      rw [if_pos rfl, gt_swap _ _ _ _ (by omega) (by omega) (by omega)]
      repeat' split
      all_goals first | omega | rfl | (congr 1 <;> omega)
    · rw [if_neg hij]
      by_cases hlt : j < i
      · rw [if_pos hlt, gt_rot m f _ _ _ (by omega) (by omega) (by omega) (by omega) (by rw [swapP_len]; omega)]
        have e := gt_swap l (m - i) m j (by omega) (by omega) (by omega)
        rw [e, e, e]
        repeat' split
        all_goals first | omega | rfl | (congr 1 <;> omega)
      · rw [if_neg hlt, gt_rot m f _ _ _ (by omega) (by omega) (by omega) (by omega) (by rw [swapP_len]; omega)]
        have e := gt_swap l (m - i) (m + j - i) i (by omega) (by omega) (by omega)
        rw [e, e, e]
        repeat' split
        all_goals first | omega | rfl | (congr 1 <;> omega)
/-- sorted by the key k between two places -/
def Srt (k : Int → Int) (l : List Int) (a b : Nat) : Prop := ∀ i j, a ≤ i → i < j → j < b → k (gt l i) < k (gt l j)
/-- only turned between two places -/
structure Loc (l l' : List Int) (a b : Nat) : Prop where
  len : l'.length = l.length
  out : ∀ p, ¬ (a ≤ p ∧ p < b) → gt l' p = gt l p
  ins : ∀ p, a ≤ p → p < b → ∃ q, a ≤ q ∧ q < b ∧ gt l' p = gt l q
theorem Loc.refl (l : List Int) (a b : Nat) : Loc l l a b := ⟨rfl, fun _ _ => rfl, fun p h1 h2 => ⟨p, h1, h2, rfl⟩⟩
theorem Loc.trans {l m n : List Int} {a b : Nat} (h : Loc l m a b) (k : Loc m n a b) : Loc l n a b :=
  ⟨k.len.trans h.len, fun p hp => (k.out p hp).trans (h.out p hp), fun p h1 h2 => by
    obtain ⟨q, q1, q2, q3⟩ := k.ins p h1 h2
    obtain ⟨r, r1, r2, r3⟩ := h.ins q q1 q2
    exact ⟨r, r1, r2, q3.trans r3⟩⟩
theorem Loc.wide {l m : List Int} {a b a' b' : Nat} (h : Loc l m a b) (ha : a' ≤ a) (hb : b ≤ b') : Loc l m a' b' :=
  ⟨h.len, fun p hp => h.out p (by omega), fun p h1 h2 => by
    by_cases c : a ≤ p ∧ p < b
    · obtain ⟨q, q1, q2, q3⟩ := h.ins p c.1 c.2
      exact ⟨q, by omega, by omega, q3⟩
    · exact ⟨p, h1, h2, h.out p c⟩⟩
theorem Srt.out {k : Int → Int} {l l' : List Int} {a b c d : Nat} (h : Srt k l c d) (hl : Loc l l' a b) (ho : d ≤ a ∨ b ≤ c) : Srt k l' c d := fun i j h1 h2 h3 => by
  rw [hl.out i (by omega), hl.out j (by omega)]; exact h i j h1 h2 h3

/-- the comparison goes by the key, where the first argument is the later one -/
structure Key (c : Int → Int → Int) (k : Int → Int) (dom : Int → Prop) : Prop where
  test : ∀ x y, dom x → dom y → x < y → (c y x < 0 ↔ k y < k x)
  inj : ∀ x y, dom x → dom y → x < y → k x ≠ k y
/-- what lies between a and m came before what lies between m and b -/
def Crs (dom : Int → Prop) (l : List Int) (a m b : Nat) : Prop := ∀ i j, a ≤ i → i < m → m ≤ j → j < b → gt l i < gt l j ∧ dom (gt l i) ∧ dom (gt l j)

/-! inserting -/
theorem sink_law {c : Int → Int → Int} {k : Int → Int} {dom : Int → Prop} (hk : Key c k dom) (a e : Nat) : ∀ (j : Nat) (l : List Int), a ≤ j → j < e → e ≤ l.length →
    (∀ i i', a ≤ i → i < i' → i' < e → i ≠ j → i' ≠ j → k (gt l i) < k (gt l i')) → (∀ i, j < i → i < e → k (gt l j) < k (gt l i)) → (∀ i, a ≤ i → i < j → gt l i < gt l j) → (∀ i, a ≤ i → i < e → dom (gt l i)) →
    Loc l (sinkP c a j l) a e ∧ Srt k (sinkP c a j l) a e
  | 0, l, ha, he, hl, h1, h2, h3, h4 => by
    refine ⟨Loc.refl _ _ _, fun i i' a1 a2 a3 => ?_⟩
    show k (gt l i) < k (gt l i')
    by_cases e : i = 0
    · subst e; exact h2 _ a2 a3
    · exact h1 i i' a1 a2 a3 e (by omega)
  | j + 1, l, ha, he, hl, h1, h2, h3, h4 => by
    simp only [sinkP]
    split
    · rename_i hc
      obtain ⟨hc1, hc2⟩ := hc
      have hs := gt_sw l (j + 1) j (by omega) (by omega)
      have hlt := h3 j (by omega) (by omega)
      have ht : k (gt l (j + 1)) < k (gt l j) := (hk.test _ _ (h4 j (by omega) (by omega)) (h4 (j + 1) (by omega) (by omega)) hlt).1 hc2
      have hloc : Loc l (sw l (j + 1) j) a e := by
        refine ⟨sw_len _ _ _, fun p hp => by rw [hs, if_neg (by omega), if_neg (by omega)], fun p p1 p2 => ?_⟩
        rw [hs]
        split
        · exact ⟨j + 1, by omega, by omega, rfl⟩
        · split
          · exact ⟨j, by omega, by omega, rfl⟩
          · exact ⟨p, p1, p2, rfl⟩
      have g1 : ∀ i i', a ≤ i → i < i' → i' < e → i ≠ j → i' ≠ j → k (gt (sw l (j + 1) j) i) < k (gt (sw l (j + 1) j) i') := by
        intro i i' a1 a2 a3 a4 a5
        rw [hs i, hs i', if_neg (show ¬ j = i by omega), if_neg (show ¬ j = i' by omega)]
        split
        · rename_i e1; subst e1
          rw [if_neg (by omega)]
          exact h1 j i' (by omega) (by omega) a3 (by omega) (by omega)
        · split
          · rename_i e1; subst e1
            exact h1 i j a1 (by omega) (by omega) (by omega) (by omega)
          · exact h1 i i' a1 a2 a3 (by omega) (by omega)
      have g2 : ∀ i, j < i → i < e → k (gt (sw l (j + 1) j) j) < k (gt (sw l (j + 1) j) i) := by
        intro i a1 a2
        rw [hs, hs, if_pos rfl, if_neg (by omega)]
        split
        · exact ht
        · exact h2 i (by omega) a2
      have g3 : ∀ i, a ≤ i → i < j → gt (sw l (j + 1) j) i < gt (sw l (j + 1) j) j := by
        intro i a1 a2
        rw [hs, hs, if_pos rfl, if_neg (by omega), if_neg (by omega)]
        exact h3 i a1 (by omega)
      have g4 : ∀ i, a ≤ i → i < e → dom (gt (sw l (j + 1) j) i) := by
        intro i a1 a2
        obtain ⟨q, q1, q2, q3⟩ := hloc.ins i a1 a2
        rw [q3]; exact h4 q q1 q2
      obtain ⟨r1, r2⟩ := sink_law hk a e j (sw l (j + 1) j) (by omega) (by omega) (by rw [sw_len]; exact hl) g1 g2 g3 g4
      exact ⟨hloc.trans r1, r2⟩
    · rename_i hc
      refine ⟨Loc.refl _ _ _, fun i i' a1 a2 a3 => ?_⟩
      have hj : a < j + 1 → k (gt l j) < k (gt l (j + 1)) := fun h => by
        have hlt := h3 j (by omega) (by omega)
        have hn : ¬ c (gt l (j + 1)) (gt l j) < 0 := fun x => hc ⟨h, x⟩
        have d1 := h4 j (by omega) (by omega)
        have d2 := h4 (j + 1) (by omega) (by omega)
        rw [hk.test _ _ d1 d2 hlt] at hn
        have := hk.inj _ _ d1 d2 hlt
        omega
      by_cases e1 : i = j + 1
      · subst e1; exact h2 _ a2 a3
      · by_cases e2 : i' = j + 1
        · subst e2
          have hj' := hj (by omega)
          by_cases e3 : i = j
          · subst e3; exact hj'
          · have := h1 i j a1 (by omega) (by omega) (by omega) (by omega)
            omega
        · exact h1 i i' a1 a2 a3 e1 e2

theorem ins_law {c : Int → Int → Int} {k : Int → Int} {dom : Int → Prop} (hk : Key c k dom) (a : Nat) (l : List Int) : ∀ (n : Nat), a + n ≤ l.length →
    (∀ i j, a ≤ i → i < j → j < a + n → gt l i < gt l j) → (∀ i, a ≤ i → i < a + n → dom (gt l i)) →
    Loc l (insP c a n l) a (a + n) ∧ Srt k (insP c a n l) a (a + n)
  | 0, h1, h2, h3 => ⟨Loc.refl _ _ _, fun i j a1 a2 a3 => by omega⟩
  | n + 1, h1, h2, h3 => by
    obtain ⟨r1, r2⟩ := ins_law hk a l n (by omega) (fun i j a1 a2 a3 => h2 i j a1 a2 (by omega)) (fun i a1 a2 => h3 i a1 (by omega))
    simp only [insP]
    have hd : ∀ i, a ≤ i → i < a + (n + 1) → dom (gt (insP c a n l) i) := fun i a1 a2 => by
      obtain ⟨q, q1, q2, q3⟩ := (r1.wide (Nat.le_refl a) (show a + n ≤ a + (n + 1) by omega)).ins i a1 a2
      rw [q3]; exact h3 q q1 q2
    obtain ⟨s1, s2⟩ := sink_law hk a (a + (n + 1)) (a + n) (insP c a n l) (by omega) (by omega) (by rw [r1.len]; omega) (fun i i' a1 a2 a3 a4 a5 => r2 i i' a1 a2 (by omega)) (fun i a1 a2 => by omega)
      (fun i a1 a2 => by
        obtain ⟨q, q1, q2, q3⟩ := r1.ins i a1 a2
        rw [q3, r1.out (a + n) (by omega)]
        exact h2 q (a + n) q1 q2 (by omega)) hd
    exact ⟨(r1.wide (Nat.le_refl a) (by omega)).trans s1, s2⟩

/-! searching -/
theorem bs_law (q : Nat → Bool) : ∀ (f i j : Nat), i ≤ j → j - i ≤ f → (∀ x y, i ≤ x → x ≤ y → y < j → q y = true → q x = true) →
    (∀ x, i ≤ x → x < bsP q f i j → q x = true) ∧ (∀ x, bsP q f i j ≤ x → x < j → q x = false) ∧ i ≤ bsP q f i j ∧ bsP q f i j ≤ j
  | 0, i, j, h1, h2, h3 => ⟨fun x a1 a2 => by simp only [bsP] at a2; omega, fun x a1 a2 => by simp only [bsP] at a1; omega, Nat.le_refl _, h1⟩
  | f + 1, i, j, h1, h2, h3 => by
    simp only [bsP]
    split
    · split
      · rename_i hq
        obtain ⟨r1, r2, r3, r4⟩ := bs_law q f ((i + j) / 2 + 1) j (by omega) (by omega) (fun x y a1 a2 a3 => h3 x y (by omega) a2 a3)
        refine ⟨fun x a1 a2 => ?_, r2, by omega, r4⟩
        by_cases e : x ≤ (i + j) / 2
        · exact h3 x _ a1 e (by omega) hq
        · exact r1 x (by omega) a2
      · rename_i hq
        obtain ⟨r1, r2, r3, r4⟩ := bs_law q f i ((i + j) / 2) (by omega) (by omega) (fun x y a1 a2 a3 => h3 x y a1 a2 (by omega))
        refine ⟨r1, fun x a1 a2 => ?_, r3, by omega⟩
        by_cases e : x < (i + j) / 2
        · exact r2 x a1 e
        · cases hx : q x with
          | false => rfl
          | true => exact absurd (h3 _ x (by omega) (by omega) a2 hx) hq
    · exact ⟨fun x a1 a2 => by omega, fun x a1 a2 => by omega, Nat.le_refl _, h1⟩

theorem up_law : ∀ (n k : Nat) (l : List Int), k + n < l.length → (upP n k l).length = l.length ∧ ∀ p, gt (upP n k l) p = if k ≤ p ∧ p < k + n then gt l (p + 1) else if p = k + n then gt l k else gt l p
  | 0, k, l, h => ⟨rfl, fun p => by
    simp only [upP]
    repeat' split
    all_goals first | omega | rfl | (simp only [gt]; congr 1 <;> omega)⟩
  | n + 1, k, l, h => by
    obtain ⟨r1, r2⟩ := up_law n (k + 1) (sw l k (k + 1)) (by rw [sw_len]; omega)
    refine ⟨by simp only [upP]; rw [r1, sw_len], fun p => ?_⟩
    have hs := gt_sw l k (k + 1) (by omega) (by omega)
    simp only [upP]
    rw [r2, hs, hs, hs]
    repeat' split
    all_goals first | omega | rfl | (simp only [gt]; congr 1 <;> omega)
theorem dn_law : ∀ (n k : Nat) (l : List Int), n ≤ k → k < l.length → (dnP n k l).length = l.length ∧ ∀ p, gt (dnP n k l) p = if k - n < p ∧ p ≤ k then gt l (p - 1) else if p = k - n then gt l k else gt l p
  | 0, k, l, h, _ => ⟨rfl, fun p => by
    simp only [dnP]
    repeat' split
    all_goals first | omega | rfl | (simp only [gt]; congr 1 <;> omega)⟩
  | n + 1, k, l, h, h' => by
    obtain ⟨r1, r2⟩ := dn_law n (k - 1) (sw l k (k - 1)) (by omega) (by rw [sw_len]; omega)
    refine ⟨by simp only [dnP]; rw [r1, sw_len], fun p => ?_⟩
    have hs := gt_sw l k (k - 1) (by omega) (by omega)
    simp only [dnP]
    rw [r2, hs, hs, hs]
    repeat' split
    all_goals first | omega | rfl | (simp only [gt]; congr 1 <;> omega)
theorem sym_bounds' {a m b mid s0 r0 : Nat} (ha : a < m) (hm : m < b) (hmid : mid = (a + b) / 2) (hs : s0 = if mid < m then mid + m - b else a) (hr : r0 = if mid < m then mid else m) :
    a ≤ s0 ∧ s0 ≤ r0 ∧ r0 ≤ m ∧ r0 ≤ mid ∧ mid + m - s0 ≤ b ∧ (r0 = m ∨ r0 = mid) ∧ (s0 = a ∨ mid + m - s0 = b) := by
  split at hs
  · rename_i h; rw [if_pos h] at hr; omega
  · rename_i h; rw [if_neg h] at hr; omega

theorem Crs.loc {dom : Int → Prop} {l l' : List Int} {a m b : Nat} (h : Crs dom l a m b) (h1 : ∀ p, a ≤ p → p < m → ∃ q, a ≤ q ∧ q < m ∧ gt l' p = gt l q) (h2 : ∀ p, m ≤ p → p < b → ∃ q, m ≤ q ∧ q < b ∧ gt l' p = gt l q) : Crs dom l' a m b := fun i j a1 a2 a3 a4 => by
  obtain ⟨q, q1, q2, q3⟩ := h1 i a1 a2
  obtain ⟨r, r1, r2, r3⟩ := h2 j a3 a4
  rw [q3, r3]; exact h q r q1 q2 r1 r2

/-- rotated: [a,st) [st,m) [m,en) [en,b) becomes [a,st) [m,en) [st,m) [en,b) -/
theorem symU_law {k : Int → Int} {dom : Int → Prop} {rc : List Int → Nat → Nat → Nat → List Int} {l : List Int} {a m b mid st : Nat}
    (hrc : ∀ l a' m' b', a' < m' → m' < b' → b' ≤ l.length → b' - a' < b - a → Srt k l a' m' → Srt k l m' b' → Crs dom l a' m' b' → Loc l (rc l a' m' b') a' b' ∧ Srt k (rc l a' m' b') a' b')
    (ha : a < mid) (hmb : mid < b) (hb : b ≤ l.length) (h1 : a ≤ st) (h2 : st ≤ m) (h3 : st ≤ mid) (h4 : mid + m - st ≤ b) (hs1 : Srt k l a m) (hs2 : Srt k l m b) (hc : Crs dom l a m b) (ham : a < m) (hmb2 : m < b)
    (lo : a < st → mid + m - st < b → k (gt l (st - 1)) < k (gt l (mid + m - st))) (up : st < m → m < mid + m - st → k (gt l (mid + m - st - 1)) < k (gt l st)) :
    Loc l (symU rc l a m b mid st) a b ∧ Srt k (symU rc l a m b mid st) a b := by
  obtain ⟨en, hen⟩ : ∃ en, en = mid + m - st := ⟨_, rfl⟩
  unfold symU
  simp only []
  rw [← hen] at lo up h4 ⊢
  obtain ⟨l1, hl1⟩ : ∃ l1, l1 = if st < m ∧ m < en then rotP l m ((m - st) + (en - m)) (m - st) (en - m) else l := ⟨_, rfl⟩
  rw [← hl1]
  have len1 : l1.length = l.length := by
    rw [hl1]; split
    · exact rotP_len ..
    · rfl
  have g1 : ∀ p, gt l1 p = if st ≤ p ∧ p < mid then gt l (p + (m - st)) else if mid ≤ p ∧ p < en then gt l (p - (en - m)) else gt l p := by
    intro p
    rw [hl1]
    split
    · rename_i h
      rw [gt_rot m _ _ _ _ (by omega) (by omega) (by omega) (by omega) (by omega)]
      repeat' split
      all_goals first | omega | rfl | (congr 1 <;> omega)
    · rename_i h
      repeat' split
      all_goals first | omega | rfl | (congr 1 <;> omega)
  have srcL : ∀ p, a ≤ p → p < mid → ∃ q, a ≤ q ∧ q < b ∧ gt l1 p = gt l q ∧ (p < st → q = p) ∧ (st ≤ p → q = p + (m - st) ∧ m ≤ q ∧ q < en) := by
    intro p p1 p2
    rw [g1]
    by_cases e : st ≤ p
    · rw [if_pos ⟨e, p2⟩]; exact ⟨_, by omega, by omega, rfl, by omega, by omega⟩
    · rw [if_neg (by omega), if_neg (by omega)]; exact ⟨p, p1, by omega, rfl, fun _ => rfl, by omega⟩
  have srcR : ∀ p, mid ≤ p → p < b → ∃ q, a ≤ q ∧ q < b ∧ gt l1 p = gt l q ∧ (en ≤ p → q = p) ∧ (p < en → q = p - (en - m) ∧ st ≤ q ∧ q < m) := by
    intro p p1 p2
    rw [g1]
    by_cases e : p < en
    · rw [if_neg (by omega), if_pos ⟨p1, e⟩]; exact ⟨_, by omega, by omega, rfl, by omega, by omega⟩
    · rw [if_neg (by omega), if_neg (by omega)]; exact ⟨p, by omega, p2, rfl, fun _ => rfl, by omega⟩
  have loc1 : Loc l l1 a b := by
    refine ⟨len1, fun p hp => by rw [g1, if_neg (by omega), if_neg (by omega)], fun p p1 p2 => ?_⟩
    by_cases e : p < mid
    · obtain ⟨q, q1, q2, q3, _⟩ := srcL p p1 e; exact ⟨q, q1, q2, q3⟩
    · obtain ⟨q, q1, q2, q3, _⟩ := srcR p (by omega) p2; exact ⟨q, q1, q2, q3⟩
  -- everything left of mid is less than everything right of it
  have split1 : ∀ i j, a ≤ i → i < mid → mid ≤ j → j < b → k (gt l1 i) < k (gt l1 j) := by
    intro i j a1 a2 a3 a4
    obtain ⟨q, q1, q2, q3, q4, q5⟩ := srcL i a1 a2
    obtain ⟨r, r1, r2, r3, r4, r5⟩ := srcR j a3 a4
    rw [q3, r3]
    by_cases e1 : i < st
    · have := q4 e1; subst this
      by_cases e2 : en ≤ j
      · have := r4 e2; subst this
        -- left part against right part
        have hx := lo (by omega) (by omega)
        have hu : k (gt l q) ≤ k (gt l (st - 1)) := by
          by_cases e : q = st - 1
          · rw [e]; exact Int.le_refl _
          · exact Int.le_of_lt (hs1 q (st - 1) a1 (by omega) (by omega))
        have hv : k (gt l en) ≤ k (gt l r) := by
          by_cases e : r = en
          · rw [e]; exact Int.le_refl _
          · exact Int.le_of_lt (hs2 en r (by omega) (by omega) r2)
        omega
      · have := r5 (by omega)
        exact hs1 q r a1 (by omega) (by omega)
    · have hq := q5 (by omega)
      by_cases e2 : en ≤ j
      · have := r4 e2; subst this
        exact hs2 q r (by omega) (by omega) r2
      · have hr := r5 (by omega)
        have hx := up (by omega) (by omega)
        have hu : k (gt l q) ≤ k (gt l (en - 1)) := by
          by_cases e : q = en - 1
          · rw [e]; exact Int.le_refl _
          · exact Int.le_of_lt (hs2 q (en - 1) (by omega) (by omega) (by omega))
        have hv : k (gt l st) ≤ k (gt l r) := by
          by_cases e : r = st
          · rw [e]; exact Int.le_refl _
          · exact Int.le_of_lt (hs1 st r (by omega) (by omega) (by omega))
        omega
  have s1 : Srt k l1 a st := fun i j a1 a2 a3 => by
    rw [g1, g1, if_neg (by omega), if_neg (by omega), if_neg (by omega), if_neg (by omega)]; exact hs1 i j a1 a2 (by omega)
  have s2 : Srt k l1 st mid := fun i j a1 a2 a3 => by
    rw [g1, g1, if_pos (by omega), if_pos (by omega)]; exact hs2 _ _ (by omega) (by omega) (by omega)
  have s3 : Srt k l1 mid en := fun i j a1 a2 a3 => by
    rw [g1, g1, if_neg (by omega), if_pos (by omega), if_neg (by omega), if_pos (by omega)]; exact hs1 _ _ (by omega) (by omega) (by omega)
  have s4 : Srt k l1 en b := fun i j a1 a2 a3 => by
    rw [g1, g1, if_neg (by omega), if_neg (by omega), if_neg (by omega), if_neg (by omega)]; exact hs2 i j (by omega) a2 a3
  have c1 : Crs dom l1 a st mid := fun i j a1 a2 a3 a4 => by
    rw [g1 i, g1 j, if_neg (show ¬ (st ≤ i ∧ i < mid) by omega), if_neg (show ¬ (mid ≤ i ∧ i < en) by omega), if_pos (show st ≤ j ∧ j < mid by omega)]
    exact hc _ _ a1 (by omega) (by omega) (by omega)
  have c2 : Crs dom l1 mid en b := fun i j a1 a2 a3 a4 => by
    rw [g1 i, g1 j, if_neg (show ¬ (st ≤ i ∧ i < mid) by omega), if_pos (show (mid ≤ i ∧ i < en) by omega), if_neg (show ¬ (st ≤ j ∧ j < mid) by omega), if_neg (show ¬ (mid ≤ j ∧ j < en) by omega)]
    exact hc _ _ (by omega) (by omega) (by omega) a4
  obtain ⟨l2, hl2⟩ : ∃ l2, l2 = if a < st ∧ st < mid then rc l1 a st mid else l1 := ⟨_, rfl⟩
  rw [← hl2]
  have r2 : Loc l1 l2 a mid ∧ Srt k l2 a mid := by
    rw [hl2]
    by_cases h : a < st ∧ st < mid
    · rw [if_pos h]; exact hrc l1 a st mid h.1 h.2 (by omega) (by omega) s1 s2 c1
    · rw [if_neg h]
      refine ⟨Loc.refl _ _ _, ?_⟩
      by_cases e : st = mid
      · rw [← e]; exact s1
      · have e2 : st = a := by omega
        rw [← e2]; exact s2
  obtain ⟨loc2, s5⟩ := r2
  have r3 : Loc l2 (if mid < en ∧ en < b then rc l2 mid en b else l2) mid b ∧ Srt k (if mid < en ∧ en < b then rc l2 mid en b else l2) mid b := by
    by_cases h : mid < en ∧ en < b
    · rw [if_pos h]
      refine hrc l2 mid en b h.1 h.2 (by rw [loc2.len]; omega) (by omega) (s3.out loc2 (.inr (Nat.le_refl _))) (s4.out loc2 (.inr (by omega))) ?_
      intro i j a1 a2 a3 a4
      rw [loc2.out i (by omega), loc2.out j (by omega)]; exact c2 i j a1 a2 a3 a4
    · rw [if_neg h]
      refine ⟨Loc.refl _ _ _, ?_⟩
      by_cases e : en = mid
      · have := s4.out loc2 (.inr (by omega)); rw [e] at this; exact this
      · have e2 : en = b := by omega
        have := s3.out loc2 (.inr (Nat.le_refl _)); rw [e2] at this; exact this
  generalize (if mid < en ∧ en < b then rc l2 mid en b else l2) = l3 at r3 ⊢
  obtain ⟨loc3, s6⟩ := r3
  refine ⟨loc1.trans ((loc2.wide (Nat.le_refl a) (by omega)).trans (loc3.wide (by omega) (Nat.le_refl b))), fun i j a1 a2 a3 => ?_⟩
  by_cases e1 : j < mid
  · rw [loc3.out i (by omega), loc3.out j (by omega)]; exact s5 i j a1 a2 e1
  · by_cases e2 : mid ≤ i
    · exact s6 i j e2 a2 a3
    · obtain ⟨q, q1, q2, q3⟩ := loc2.ins i a1 (by omega)
      obtain ⟨r, r1, r2, r3⟩ := loc3.ins j (by omega) a3
      rw [loc3.out i (by omega), q3, r3, loc2.out r (by omega)]
      exact split1 q r q1 q2 r1 r2

theorem symP_law {c : Int → Int → Int} {k : Int → Int} {dom : Int → Prop} (hk : Key c k dom) : ∀ (f : Nat) (l : List Int) (a m b : Nat), a < m → m < b → b ≤ l.length → b - a ≤ f → Srt k l a m → Srt k l m b → Crs dom l a m b →
    Loc l (symP c f l a m b) a b ∧ Srt k (symP c f l a m b) a b
  | 0, l, a, m, b, h1, h2, h3, h4, _, _, _ => by omega
  | f + 1, l, a, m, b, h1, h2, h3, h4, hs1, hs2, hc => by
    have test : ∀ i j, a ≤ i → i < m → m ≤ j → j < b → (c (gt l j) (gt l i) < 0 ↔ k (gt l j) < k (gt l i)) := fun i j a1 a2 a3 a4 => by
      obtain ⟨x1, x2, x3⟩ := hc i j a1 a2 a3 a4
      exact hk.test _ _ x2 x3 x1
    have neq : ∀ i j, a ≤ i → i < m → m ≤ j → j < b → k (gt l i) ≠ k (gt l j) := fun i j a1 a2 a3 a4 => by
      obtain ⟨x1, x2, x3⟩ := hc i j a1 a2 a3 a4
      exact hk.inj _ _ x2 x3 x1
    simp only [symP]
    by_cases e1 : m - a = 1
    · rw [if_pos e1]
      obtain ⟨r1, r2, r3, r4⟩ := bs_law (fun h => decide (c (l.getD h 0) (l.getD a 0) < 0)) (b - m) m b (by omega) (Nat.le_refl _) (fun x y a1 a2 a3 hq => by
        simp only [decide_eq_true_eq] at hq ⊢
        rw [test a y (Nat.le_refl _) h1 (by omega) a3] at hq
        rw [test a x (Nat.le_refl _) h1 a1 (by omega)]
        by_cases e : x = y
        · rw [e]; exact hq
        · have := hs2 x y a1 (by omega) a3; omega)
      generalize bsP (fun h => decide (c (l.getD h 0) (l.getD a 0) < 0)) (b - m) m b = i at r1 r2 r3 r4 ⊢
      obtain ⟨u1, u2⟩ := up_law (i - 1 - a) a l (by omega)
      refine ⟨⟨u1, fun p hp => by rw [u2, if_neg (by omega), if_neg (by omega)], fun p p1 p2 => ?_⟩, fun x y a1 a2 a3 => ?_⟩
      · rw [u2]
        repeat' split
        · exact ⟨p + 1, by omega, by omega, rfl⟩
        · exact ⟨a, by omega, by omega, rfl⟩
        · exact ⟨p, p1, p2, rfl⟩
      · rw [u2 x, u2 y]
        have lo : ∀ z, m ≤ z → z < i → k (gt l z) < k (gt l a) := fun z z1 z2 => by
          have := r1 z z1 z2
          simp only [decide_eq_true_eq] at this
          exact (test a z (Nat.le_refl _) h1 z1 (by omega)).1 this
        have hi : ∀ z, i ≤ z → z < b → k (gt l a) < k (gt l z) := fun z z1 z2 => by
          have := r2 z z1 z2
          simp only [decide_eq_false_iff_not] at this
          have t := test a z (Nat.le_refl _) h1 (by omega) z2
          have n := neq a z (Nat.le_refl _) h1 (by omega) z2
          simp only [gt] at t n ⊢
          omega
        repeat' split
        all_goals first | omega | exact hs2 _ _ (by omega) (by omega) (by omega) | exact lo _ (by omega) (by omega) | exact hi _ (by omega) (by omega)
    · rw [if_neg e1]
      by_cases e2 : b - m = 1
      · rw [if_pos e2]
        obtain ⟨r1, r2, r3, r4⟩ := bs_law (fun h => !decide (c (l.getD m 0) (l.getD h 0) < 0)) (m - a) a m (by omega) (Nat.le_refl _) (fun x y a1 a2 a3 hq => by
          simp only [Bool.not_eq_true', decide_eq_false_iff_not] at hq ⊢
          rw [test y m (by omega) a3 (Nat.le_refl _) h2] at hq
          rw [test x m a1 (by omega) (Nat.le_refl _) h2]
          by_cases e : x = y
          · rw [e]; exact hq
          · have := hs1 x y a1 (by omega) a3; omega)
        generalize bsP (fun h => !decide (c (l.getD m 0) (l.getD h 0) < 0)) (m - a) a m = i at r1 r2 r3 r4 ⊢
        obtain ⟨u1, u2⟩ := dn_law (m - i) m l (by omega) (by omega)
        refine ⟨⟨u1, fun p hp => by rw [u2, if_neg (by omega), if_neg (by omega)], fun p p1 p2 => ?_⟩, fun x y a1 a2 a3 => ?_⟩
        · rw [u2]
          repeat' split
          · exact ⟨p - 1, by omega, by omega, rfl⟩
          · exact ⟨m, by omega, by omega, rfl⟩
          · exact ⟨p, p1, p2, rfl⟩
        · rw [u2 x, u2 y]
          have lo : ∀ z, a ≤ z → z < i → k (gt l z) < k (gt l m) := fun z z1 z2 => by
            have := r1 z z1 z2
            simp only [Bool.not_eq_true', decide_eq_false_iff_not] at this
            have t := test z m z1 (by omega) (Nat.le_refl _) h2
            have n := neq z m z1 (by omega) (Nat.le_refl _) h2
            simp only [gt] at t n ⊢
            omega
          have hi : ∀ z, i ≤ z → z < m → k (gt l m) < k (gt l z) := fun z z1 z2 => by
            have := r2 z z1 z2
            simp only [Bool.not_eq_false', decide_eq_true_eq] at this
            exact (test z m (by omega) z2 (Nat.le_refl _) h2).1 this
          repeat' split
          all_goals first | omega | exact hs1 _ _ (by omega) (by omega) (by omega) | exact lo _ (by omega) (by omega) | exact hi _ (by omega) (by omega)
      · rw [if_neg e2]
        obtain ⟨mid, hmid⟩ : ∃ mid, mid = (a + b) / 2 := ⟨_, rfl⟩
        obtain ⟨s0, hs⟩ : ∃ s0, s0 = if mid < m then mid + m - b else a := ⟨_, rfl⟩
        obtain ⟨r0, hr⟩ : ∃ r0, r0 = if mid < m then mid else m := ⟨_, rfl⟩
        rw [← hmid, ← hs, ← hr]
        obtain ⟨b1, b2, b3, b4, b5, b6, b7⟩ := sym_bounds' h1 h2 hmid hs hr
        have ix : ∀ x, s0 ≤ x → x < r0 → a ≤ x ∧ x < m ∧ m ≤ mid + m - 1 - x ∧ mid + m - 1 - x < b := fun x x1 x2 => by omega
        obtain ⟨r1, r2, r3, r4⟩ := bs_law (fun x => !decide (c (l.getD (mid + m - 1 - x) 0) (l.getD x 0) < 0)) (r0 - s0) s0 r0 b2 (Nat.le_refl _) (fun x y a1 a2 a3 hq => by
          simp only [Bool.not_eq_true', decide_eq_false_iff_not] at hq ⊢
          obtain ⟨x1, x2, x3, x4⟩ := ix x a1 (by omega)
          obtain ⟨y1, y2, y3, y4⟩ := ix y (by omega) a3
          rw [test y _ y1 y2 y3 y4] at hq
          rw [test x _ x1 x2 x3 x4]
          by_cases e : x = y
          · rw [e]; exact hq
          · have v1 := hs1 x y x1 (by omega) y2
            have v2 := hs2 (mid + m - 1 - y) (mid + m - 1 - x) y3 (by omega) x4
            omega)
        unfold symT
        generalize bsP (fun x => !decide (c (l.getD (mid + m - 1 - x) 0) (l.getD x 0) < 0)) (r0 - s0) s0 r0 = st at r1 r2 r3 r4 ⊢
        refine symU_law (fun l a' m' b' p1 p2 p3 p4 p5 p6 p7 => symP_law hk f l a' m' b' p1 p2 p3 (by omega) p5 p6 p7) (by omega) (by omega) h3 (by omega) (by omega) (by omega) (by omega) hs1 hs2 hc h1 h2 (fun q1 q2 => ?_) (fun q1 q2 => ?_)
        · have h := r1 (st - 1) (by omega) (by omega)
          simp only [Bool.not_eq_true', decide_eq_false_iff_not] at h
          obtain ⟨x1, x2, x3, x4⟩ := ix (st - 1) (by omega) (by omega)
          have t := test _ _ x1 x2 x3 x4
          have n := neq _ _ x1 x2 x3 x4
          have e : mid + m - 1 - (st - 1) = mid + m - st := by omega
          rw [e] at t n h
          simp only [gt] at t n ⊢
          omega
        · have h := r2 st (by omega) (by omega)
          simp only [Bool.not_eq_false', decide_eq_true_eq] at h
          obtain ⟨x1, x2, x3, x4⟩ := ix st (by omega) (by omega)
          have t := (test _ _ x1 x2 x3 x4).1 h
          have e : mid + m - 1 - st = mid + m - st - 1 := by omega
          rw [e] at t
          exact t
/-- in blocks of s: each is sorted; what lies in a later block came later -/
def Blk (k : Int → Int) (dom : Int → Prop) (s : Nat) (l : List Int) : Prop :=
  (∀ i j, i < j → j < l.length → i / s = j / s → k (gt l i) < k (gt l j)) ∧ (∀ i j, i < j → j < l.length → i / s < j / s → gt l i < gt l j) ∧ ∀ i, i < l.length → dom (gt l i)

theorem div_lt_of {i s q : Nat} (hs : 0 < s) (h : i < s * q) : i / s < q := (Nat.div_lt_iff_lt_mul hs).2 (by rw [Nat.mul_comm]; exact h)
theorem le_div_of {i s q : Nat} (hs : 0 < s) (h : s * q ≤ i) : q ≤ i / s := (Nat.le_div_iff_mul_le hs).2 (by rw [Nat.mul_comm]; exact h)
theorem div_bounds (i s : Nat) (hs : 0 < s) : s * (i / s) ≤ i ∧ i < s * (i / s) + s := by
  have h1 := Nat.div_add_mod i s
  have h2 := Nat.mod_lt i hs
  omega

/-- the state of the first blocks being merged: up to e they are blocks of 2 s -/
structure Mid (k : Int → Int) (dom : Int → Prop) (s : Nat) (l0 l : List Int) (e : Nat) : Prop where
  len : l.length = l0.length
  out : ∀ p, e ≤ p → gt l p = gt l0 p
  ins : ∀ p, p < e → p < l.length → ∃ q, q / (2 * s) = p / (2 * s) ∧ q < l.length ∧ q < e ∧ gt l p = gt l0 q
  srt : ∀ i j, i < j → j < e → j < l.length → i / (2 * s) = j / (2 * s) → k (gt l i) < k (gt l j)

theorem mid_step {c : Int → Int → Int} {k : Int → Int} {dom : Int → Prop} (hk : Key c k dom) {s : Nat} (hs : 0 < s) {l0 l : List Int} (hb : Blk k dom s l0) {b fu : Nat} (t : Nat) (h : Mid k dom s l0 l (2 * s * t))
    (hb1 : 2 * s * t + s < b) (hb2 : b ≤ 2 * s * t + 2 * s) (hb3 : b ≤ l.length) (hfu : b - 2 * s * t ≤ fu) (hb4 : b = 2 * s * t + 2 * s ∨ b = l.length) :
    Mid k dom s l0 (symP c fu l (2 * s * t) (2 * s * t + s) b) (2 * s * (t + 1)) := by
  have e1 : 2 * s * (t + 1) = 2 * s * t + 2 * s := by rw [Nat.mul_add, Nat.mul_one]
  have e2 : s * (2 * t) = 2 * s * t := by rw [← Nat.mul_assoc, Nat.mul_comm s 2]
  have d1 : ∀ p, 2 * s * t ≤ p → p < 2 * s * t + s → p / s = 2 * t := fun p p1 p2 => by
    have := le_div_of (q := 2 * t) hs (by omega : s * (2 * t) ≤ p)
    have := div_lt_of (q := 2 * t + 1) hs (by rw [Nat.mul_add, Nat.mul_one]; omega : p < s * (2 * t + 1))
    omega
  have d2 : ∀ p, 2 * s * t + s ≤ p → p < 2 * s * t + 2 * s → p / s = 2 * t + 1 := fun p p1 p2 => by
    have := le_div_of (q := 2 * t + 1) hs (by rw [Nat.mul_add, Nat.mul_one]; omega : s * (2 * t + 1) ≤ p)
    have := div_lt_of (q := 2 * t + 2) hs (by rw [Nat.mul_add]; omega : p < s * (2 * t + 2))
    omega
  have dd : ∀ p, 2 * s * t ≤ p → p < 2 * s * t + 2 * s → p / (2 * s) = t := fun p p1 p2 => by
    have := le_div_of (q := t) (show 0 < 2 * s by omega) p1
    have := div_lt_of (q := t + 1) (show 0 < 2 * s by omega) (by omega : p < 2 * s * (t + 1))
    omega
  have hlen := h.len
  obtain ⟨r1, r2⟩ := symP_law hk fu l (2 * s * t) (2 * s * t + s) b (by omega) hb1 hb3 hfu
    (fun i j a1 a2 a3 => by rw [h.out i a1, h.out j (by omega)]; exact hb.1 i j a2 (by omega) (by rw [d1 i a1 (by omega), d1 j (by omega) a3]))
    (fun i j a1 a2 a3 => by rw [h.out i (by omega), h.out j (by omega)]; exact hb.1 i j a2 (by omega) (by rw [d2 i a1 (by omega), d2 j (by omega) (by omega)]))
    (fun i j a1 a2 a3 a4 => by
      rw [h.out i a1, h.out j (by omega)]
      exact ⟨hb.2.1 i j (by omega) (by omega) (by rw [d1 i a1 a2, d2 j a3 (by omega)]; omega), hb.2.2 i (by omega), hb.2.2 j (by omega)⟩)
  generalize symP c fu l (2 * s * t) (2 * s * t + s) b = l' at r1 r2 ⊢
  have len' := r1.len
  refine ⟨by rw [r1.len, h.len], fun p hp => by rw [r1.out p (by omega)]; exact h.out p (by omega), fun p p1 p2 => ?_, fun i j a1 a2 a3 a4 => ?_⟩
  · by_cases e : p < 2 * s * t
    · obtain ⟨q, q1, q2, q3, q4⟩ := h.ins p e (by omega)
      exact ⟨q, q1, by omega, by omega, by rw [r1.out p (by omega)]; exact q4⟩
    · have hpb : p < b := by omega
      obtain ⟨q, q1, q2, q3⟩ := r1.ins p (by omega) hpb
      exact ⟨q, by rw [dd p (by omega) (by omega), dd q q1 (by omega)], by omega, by omega, by rw [q3]; exact h.out q q1⟩
  · by_cases e : 2 * s * t ≤ i
    · exact r2 i j e a1 (by omega)
    · have hj : j < 2 * s * t := by
        have x1 := div_lt_of (q := t) (show 0 < 2 * s by omega) (by omega : i < 2 * s * t)
        rcases Nat.lt_or_ge j (2 * s * t) with hlt | hge
        · exact hlt
        · have := le_div_of (q := t) (show 0 < 2 * s by omega) hge
          omega
      rw [r1.out i (by omega), r1.out j (by omega)]
      exact h.srt i j a1 hj (by omega) a4

theorem mrg_law {c : Int → Int → Int} {k : Int → Int} {dom : Int → Prop} (hk : Key c k dom) {s : Nat} (hs : 0 < s) {l0 : List Int} (hb : Blk k dom s l0) : ∀ t, 2 * s * t ≤ l0.length → Mid k dom s l0 (mrgP c s l0 t) (2 * s * t)
  | 0, _ => ⟨rfl, fun _ _ => rfl, fun p h _ => by omega, fun i j _ h _ _ => by omega⟩
  | t + 1, h => by
    have e1 : 2 * s * (t + 1) = 2 * s * t + 2 * s := by rw [Nat.mul_add, Nat.mul_one]
    have ih := mrg_law hk hs hb t (by omega)
    exact mid_step hk hs hb t ih (by omega) (Nat.le_refl _) (by rw [ih.len]; omega) (by omega) (.inl rfl)

theorem mid_blk {k : Int → Int} {dom : Int → Prop} {s : Nat} (hs : 0 < s) {l0 l : List Int} (hb : Blk k dom s l0) {e : Nat} (h : Mid k dom s l0 l e) (he : l.length ≤ e) : Blk k dom (2 * s) l := by
  have hlen := h.len
  refine ⟨fun i j a1 a2 a3 => h.srt i j a1 (by omega) a2 a3, fun i j a1 a2 a3 => ?_, fun i a1 => ?_⟩
  · obtain ⟨q, q1, q2, _, q3⟩ := h.ins i (by omega) (by omega)
    obtain ⟨r, r1, r2, _, r3⟩ := h.ins j (by omega) a2
    rw [q3, r3]
    have hdq : q / (2 * s) < r / (2 * s) := by omega
    have b1 := div_bounds q (2 * s) (by omega)
    have b2 := div_bounds r (2 * s) (by omega)
    have b3 : 2 * s * (q / (2 * s) + 1) ≤ 2 * s * (r / (2 * s)) := Nat.mul_le_mul_left _ hdq
    rw [Nat.mul_add, Nat.mul_one] at b3
    refine hb.2.1 q r (by omega) (by omega) ?_
    have e4 : s * (2 * (r / (2 * s))) = 2 * s * (r / (2 * s)) := by rw [← Nat.mul_assoc, Nat.mul_comm s 2]
    have x1 := le_div_of (q := 2 * (r / (2 * s))) hs (by omega : s * (2 * (r / (2 * s))) ≤ r)
    have x2 := div_lt_of (q := 2 * (r / (2 * s))) hs (by omega : q < s * (2 * (r / (2 * s))))
    omega
  · obtain ⟨q, q1, q2, _, q3⟩ := h.ins i (by omega) a1
    rw [q3]; exact hb.2.2 q (by omega)

theorem round_law {c : Int → Int → Int} {k : Int → Int} {dom : Int → Prop} (hk : Key c k dom) {s : Nat} (hs : 0 < s) {l : List Int} (hb : Blk k dom s l) : Blk k dom (2 * s) (roundP c s l) := by
  have hq := Nat.div_add_mod l.length (2 * s)
  have hr := Nat.mod_lt l.length (show 0 < 2 * s by omega)
  have hm := mrg_law hk hs hb (l.length / (2 * s)) (by omega)
  have e1 : 2 * s * (l.length / (2 * s) + 1) = 2 * s * (l.length / (2 * s)) + 2 * s := by rw [Nat.mul_add, Nat.mul_one]
  unfold roundP
  split
  · rename_i hlt
    have := mid_step hk hs hb (b := l.length) (fu := l.length - 2 * s * (l.length / (2 * s))) (l.length / (2 * s)) hm hlt (by omega) (by rw [hm.len]; omega) (Nat.le_refl _) (.inr hm.len.symm)
    refine mid_blk hs hb this ?_
    rw [this.len]; omega
  · rename_i hlt
    have hlen := hm.len
    refine mid_blk hs hb (e := 2 * s * (l.length / (2 * s) + 1)) ⟨hm.len, fun p hp => hm.out p (by omega), fun p p1 p2 => ?_, fun i j a1 a2 a3 a4 => ?_⟩ (by omega)
    · by_cases e : p < 2 * s * (l.length / (2 * s))
      · obtain ⟨q, q1, q2, q3, q4⟩ := hm.ins p e p2
        exact ⟨q, q1, q2, by omega, q4⟩
      · exact ⟨p, rfl, p2, p1, hm.out p (by omega)⟩
    · by_cases e : 2 * s * (l.length / (2 * s)) ≤ i
      · rw [hm.out i e, hm.out j (by omega)]
        refine hb.1 i j a1 (by omega) ?_
        generalize l.length / (2 * s) = t at *
        have e2 : s * (2 * t) = 2 * s * t := by rw [← Nat.mul_assoc, Nat.mul_comm s 2]
        have d1 : ∀ p, 2 * s * t ≤ p → p < 2 * s * t + s → p / s = 2 * t := fun p p1 p2 => by
          have := le_div_of (q := 2 * t) hs (by omega : s * (2 * t) ≤ p)
          have := div_lt_of (q := 2 * t + 1) hs (by rw [Nat.mul_add, Nat.mul_one]; omega : p < s * (2 * t + 1))
          omega
        rw [d1 i e (by omega), d1 j (by omega) (by omega)]
      · refine hm.srt i j a1 ?_ a3 a4
        have x1 := div_lt_of (q := l.length / (2 * s)) (show 0 < 2 * s by omega) (by omega : i < 2 * s * (l.length / (2 * s)))
        rcases Nat.lt_or_ge j (2 * s * (l.length / (2 * s))) with hlt | hge
        · exact hlt
        · have := le_div_of (q := l.length / (2 * s)) (show 0 < 2 * s by omega) hge
          omega

theorem stb_law {c : Int → Int → Int} {k : Int → Int} {dom : Int → Prop} (hk : Key c k dom) : ∀ (f s : Nat) (l : List Int), 0 < s → Blk k dom s l → l.length ≤ f + s → Srt k (stbP c f s l) 0 (stbP c f s l).length
  | 0, s, l, hs, hb, hf => fun i j a1 a2 a3 => by
    simp only [stbP] at a3 ⊢
    exact hb.1 i j a2 a3 (by rw [Nat.div_eq_of_lt (by omega), Nat.div_eq_of_lt (by omega)])
  | f + 1, s, l, hs, hb, hf => by
    simp only [stbP]
    split
    · have hr := round_law hk hs hb
      rw [Nat.mul_comm 2 s] at hr
      exact stb_law hk f (s * 2) _ (by omega) hr (by rw [(roundP_perm c s l hs).length_eq]; omega)
    · intro i j a1 a2 a3
      exact hb.1 i j a2 a3 (by rw [Nat.div_eq_of_lt (by omega), Nat.div_eq_of_lt (by omega)])

/-- the first blocks are sorted -/
theorem blk_law {c : Int → Int → Int} {k : Int → Int} {dom : Int → Prop} (hk : Key c k dom) (l : List Int) (hinc : ∀ i j, i < j → j < l.length → gt l i < gt l j) (hdom : ∀ i, i < l.length → dom (gt l i)) : ∀ t, 20 * t ≤ l.length →
    (blkP c l t).length = l.length ∧ (∀ p, 20 * t ≤ p → gt (blkP c l t) p = gt l p) ∧ (∀ p, p < 20 * t → ∃ q, q / 20 = p / 20 ∧ q < 20 * t ∧ gt (blkP c l t) p = gt l q) ∧
    (∀ i j, i < j → j < 20 * t → i / 20 = j / 20 → k (gt (blkP c l t) i) < k (gt (blkP c l t) j))
  | 0, _ => ⟨rfl, fun _ _ => rfl, fun p h => by omega, fun i j _ h _ => by omega⟩
  | t + 1, h => by
    obtain ⟨h1, h2, h3, h4⟩ := blk_law hk l hinc hdom t (by omega)
    obtain ⟨r1, r2⟩ := ins_law hk (20 * t) (blkP c l t) 20 (by omega) (fun i j a1 a2 a3 => by rw [h2 i a1, h2 j (by omega)]; exact hinc i j a2 (by omega)) (fun i a1 a2 => by rw [h2 i a1]; exact hdom i (by omega))
    simp only [blkP]
    refine ⟨by rw [r1.len, h1], fun p hp => by rw [r1.out p (by omega)]; exact h2 p (by omega), fun p hp => ?_, fun i j a1 a2 a3 => ?_⟩
    · by_cases e : p < 20 * t
      · obtain ⟨q, q1, q2, q3⟩ := h3 p e
        exact ⟨q, q1, by omega, by rw [r1.out p (by omega)]; exact q3⟩
      · obtain ⟨q, q1, q2, q3⟩ := r1.ins p (by omega) (by omega)
        exact ⟨q, by omega, by omega, by rw [q3]; exact h2 q q1⟩
    · by_cases e : 20 * t ≤ i
      · exact r2 i j e a1 (by omega)
      · rw [r1.out i (by omega), r1.out j (by omega)]
        exact h4 i j a1 (by omega) a3

theorem sort_law {c : Int → Int → Int} {k : Int → Int} {dom : Int → Prop} (hk : Key c k dom) (l : List Int) (hinc : ∀ i j, i < j → j < l.length → gt l i < gt l j) (hdom : ∀ i, i < l.length → dom (gt l i)) :
    Srt k (sortP c l) 0 (sortP c l).length := by
  obtain ⟨h1, h2, h3, h4⟩ := blk_law hk l hinc hdom (l.length / 20) (by omega)
  obtain ⟨r1, r2⟩ := ins_law hk (20 * (l.length / 20)) (blkP c l (l.length / 20)) (l.length - 20 * (l.length / 20)) (by omega) (fun i j a1 a2 a3 => by rw [h2 i a1, h2 j (by omega)]; exact hinc i j a2 (by omega)) (fun i a1 a2 => by rw [h2 i a1]; exact hdom i (by omega))
  unfold sortP
  generalize insP c (20 * (l.length / 20)) (l.length - 20 * (l.length / 20)) (blkP c l (l.length / 20)) = l1 at r1 r2 ⊢
  generalize blkP c l (l.length / 20) = l2 at *
  have len := r1.len
  refine stb_law hk _ 20 l1 (by omega) ⟨fun i j a1 a2 a3 => ?_, fun i j a1 a2 a3 => ?_, fun i a1 => ?_⟩ (by omega)
  · by_cases e : 20 * (l.length / 20) ≤ i
    · exact r2 i j e a1 (by omega)
    · rw [r1.out i (by omega), r1.out j (by omega)]
      exact h4 i j a1 (by omega) a3
  · have src : ∀ p, p < l1.length → ∃ q, q / 20 = p / 20 ∧ q < l.length ∧ gt l1 p = gt l q := fun p hp => by
      by_cases e : p < 20 * (l.length / 20)
      · obtain ⟨q, q1, q2, q3⟩ := h3 p e
        exact ⟨q, q1, by omega, by rw [r1.out p (by omega)]; exact q3⟩
      · obtain ⟨q, q1, q2, q3⟩ := r1.ins p (by omega) (by omega)
        exact ⟨q, by omega, by omega, by rw [q3]; exact h2 q q1⟩
    obtain ⟨q, q1, q2, q3⟩ := src i (by omega)
    obtain ⟨r, r1, r2, r3⟩ := src j a2
    rw [q3, r3]
    exact hinc q r (by omega) r2
  · by_cases e : i < 20 * (l.length / 20)
    · obtain ⟨q, q1, q2, q3⟩ := h3 i e
      rw [r1.out i (by omega), q3]; exact hdom q (by omega)
    · obtain ⟨q, q1, q2, q3⟩ := r1.ins i (by omega) (by omega)
      rw [q3, h2 q q1]; exact hdom q (by omega)
end Go.Proofs.Yteanjjdgmjdfiaa
