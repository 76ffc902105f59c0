/- Plain facts about 64-bit floats: order as an order of whole numbers; the quotient of two whole numbers. -/
import GoSem.Core.Float
namespace Fl
open Ieee

def big : Int := ((2 ^ 4000 : Nat) : Int)

/-- the value of a word's datum, scaled so that every finite double is whole -/
def keyD : Datum → Option Int
  | .number s m i => some (signed s m (i + 1074).toNat)
  | .infinity s => some (if s then -big else big)
  | .nan .. => none

def key (x : Nat) : Option Int := keyD (double.read x)

def Fin : Datum → Prop
  | .number _ m i => m < 2 ^ 53 ∧ -1074 ≤ i ∧ i ≤ 971
  | _ => True

theorem signed_eq (s : Bool) (m up : Nat) : signed s m up = (if s then -1 else 1) * ((m * 2 ^ up : Nat) : Int) := by
  unfold signed; cases s <;> simp [Nat.shiftLeft_eq]

theorem read_fin (x : Nat) : Fin (double.read x) := by
  have e : double.read x = (if x % 9223372036854775808 < 4503599627370496 then Datum.number (x / 9223372036854775808 % 2 == 1) (x % 9223372036854775808) (-1074)
      else if x % 9223372036854775808 < 9218868437227405312 then Datum.number (x / 9223372036854775808 % 2 == 1) (4503599627370496 + x % 9223372036854775808 % 4503599627370496) (-1074 + (x % 9223372036854775808 / 4503599627370496 - 1 : Nat))
      else if x % 9223372036854775808 = 9218868437227405312 then Datum.infinity (x / 9223372036854775808 % 2 == 1)
      else Datum.nan (x / 9223372036854775808 % 2 == 1) (x % 9223372036854775808 - 9218868437227405312)) := rfl
  rw [e]
  split
  · simp only [Fin]; omega
  · split
    · simp only [Fin]; omega
    · split <;> trivial

theorem pow_bound (m a b c : Nat) (hm : m < 2 ^ 53) (h : a ≤ b) (hc : 53 + b ≤ c) : m * 2 ^ a < 2 ^ c := by
  have h1 : 2 ^ a ≤ 2 ^ b := Nat.pow_le_pow_right (by decide) h
  have h2 : m * 2 ^ a < 2 ^ 53 * 2 ^ b := by
    have : 0 < 2 ^ a := Nat.pow_pos (by decide)
    calc m * 2 ^ a < 2 ^ 53 * 2 ^ a := Nat.mul_lt_mul_of_pos_right hm this
      _ ≤ 2 ^ 53 * 2 ^ b := Nat.mul_le_mul_left _ h1
  have h3 : 2 ^ (53 + b) ≤ 2 ^ c := Nat.pow_le_pow_right (by decide) hc
  rw [Nat.pow_add] at h3
  omega

theorem pow_pos' (c : Nat) : (0 : Int) < ((2 ^ c : Nat) : Int) := by
  have : 0 < 2 ^ c := Nat.pow_pos (by decide)
  omega

theorem big_pos : (0 : Int) < big := pow_pos' 4000

theorem signed_bound {s : Bool} {m : Nat} {i : Int} (hm : m < 2 ^ 53) (h1 : -1074 ≤ i) (h2 : i ≤ 971) :
    -big < signed s m (i + 1074).toNat ∧ signed s m (i + 1074).toNat < big := by
  rw [signed_eq]
  have := pow_bound m (i + 1074).toNat 2045 4000 hm (by omega) (by decide)
  rw [big]
  generalize m * 2 ^ (i + 1074).toNat = z at this
  generalize 2 ^ 4000 = B at this
  cases s <;> simp <;> omega

theorem compare_scale (a b : Int) (c : Nat) : compare (a * ((2 ^ c : Nat) : Int)) (b * ((2 ^ c : Nat) : Int)) = compare a b := by
  have hc : (0 : Int) < ((2 ^ c : Nat) : Int) := by
    have : 0 < 2 ^ c := Nat.pow_pos (by decide)
    omega
  rcases Int.lt_trichotomy a b with h | h | h
  · rw [Int.compare_eq_lt.2 h, Int.compare_eq_lt.2 (Int.mul_lt_mul_of_pos_right h hc)]
  · subst h; simp
  · rw [Int.compare_eq_gt.2 h, Int.compare_eq_gt.2 (Int.mul_lt_mul_of_pos_right h hc)]

theorem order_eq (d e : Datum) (hd : Fin d) (he : Fin e) :
    d.order e = match keyD d, keyD e with | some a, some b => some (compare a b) | _, _ => none := by
  have bpos := big_pos
  cases d with
  | nan s f => cases e <;> simp [Datum.order, keyD]
  | infinity s =>
    cases e with
    | nan => simp [Datum.order, keyD]
    | infinity t =>
      simp only [Datum.order, keyD]
      cases s <;> cases t
      · simp
      · simp; exact (Int.compare_eq_gt.2 (by omega)).symm
      · simp; exact (Int.compare_eq_lt.2 (by omega)).symm
      · simp
    | number t n j =>
      obtain ⟨h1, h2, h3⟩ := he
      have := signed_bound (s := t) h1 h2 h3
      simp only [Datum.order, keyD]
      cases s
      · simp; exact (Int.compare_eq_gt.2 this.2).symm
      · simp; exact (Int.compare_eq_lt.2 this.1).symm
  | number s m i =>
    obtain ⟨h1, h2, h3⟩ := hd
    have b1 := signed_bound (s := s) h1 h2 h3
    cases e with
    | nan => simp [Datum.order, keyD]
    | infinity t =>
      simp only [Datum.order, keyD]
      cases t
      · simp; exact (Int.compare_eq_lt.2 b1.2).symm
      · simp; exact (Int.compare_eq_gt.2 b1.1).symm
    | number t n j =>
      obtain ⟨g1, g2, g3⟩ := he
      simp only [Datum.order, keyD, Option.some.injEq]
      rw [← compare_scale _ _ (min i j + 1074).toNat]
      have e1 : ∀ (s : Bool) (m : Nat) (i k : Int), k ≤ i → -1074 ≤ k →
          signed s m (i - k).toNat * ((2 ^ (k + 1074).toNat : Nat) : Int) = signed s m (i + 1074).toNat := by
        intro s m i k hk hk2
        rw [signed_eq, signed_eq]
        have : (i + 1074).toNat = (i - k).toNat + (k + 1074).toNat := by omega
        rw [this, Nat.pow_add, ← Nat.mul_assoc, Int.mul_assoc, ← Int.natCast_mul]
      rw [e1 _ _ _ _ (by omega) (by omega), e1 _ _ _ _ (by omega) (by omega)]

theorem order_key (x y : Nat) : double.order x y = match key x, key y with | some a, some b => some (compare a b) | _, _ => none :=
  order_eq _ _ (read_fin x) (read_fin y)


theorem read_eq (x : Nat) : double.read x = (if x % 9223372036854775808 < 4503599627370496 then Datum.number (x / 9223372036854775808 % 2 == 1) (x % 9223372036854775808) (-1074)
      else if x % 9223372036854775808 < 9218868437227405312 then Datum.number (x / 9223372036854775808 % 2 == 1) (4503599627370496 + x % 9223372036854775808 % 4503599627370496) (-1074 + (x % 9223372036854775808 / 4503599627370496 - 1 : Nat))
      else if x % 9223372036854775808 = 9218868437227405312 then Datum.infinity (x / 9223372036854775808 % 2 == 1)
      else Datum.nan (x / 9223372036854775808 % 2 == 1) (x % 9223372036854775808 - 9218868437227405312)) := rfl

/-- a whole number below 2^53 is written exactly: what is read back is normalised -/
theorem p53 : (2 : Nat) ^ 53 = 9007199254740992 := by simp only [Nat.reducePow]
theorem p52 : (2 : Nat) ^ 52 = 4503599627370496 := by simp only [Nat.reducePow]
theorem word_pos (r : Nat) : double.word false r = r := rfl

theorem log_lo (n : Nat) (h0 : 0 < n) (h : n < 2 ^ 53) : 4503599627370496 ≤ n * 2 ^ (52 - n.log2) ∧ n * 2 ^ (52 - n.log2) < 9007199254740992 := by
  have hl : n.log2 < 53 := (Nat.log2_lt (by omega)).2 h
  have h2 : 0 < 2 ^ (52 - n.log2) := Nat.pow_pos (by decide)
  constructor
  · have h3 : 2 ^ n.log2 ≤ n := Nat.log2_self_le (by omega)
    have h4 : 2 ^ n.log2 * 2 ^ (52 - n.log2) ≤ n * 2 ^ (52 - n.log2) := Nat.mul_le_mul_right _ h3
    rw [← Nat.pow_add, show n.log2 + (52 - n.log2) = 52 by omega, p52] at h4
    exact h4
  · have h3 : n < 2 ^ (n.log2 + 1) := Nat.lt_log2_self
    have h4 : n * 2 ^ (52 - n.log2) < 2 ^ (n.log2 + 1) * 2 ^ (52 - n.log2) := Nat.mul_lt_mul_of_pos_right h3 h2
    rw [← Nat.pow_add, show n.log2 + 1 + (52 - n.log2) = 53 by omega, p53] at h4
    exact h4

theorem word_help (l m : Nat) (hl : l < 53) (hm : m < 9007199254740992) :
    double.word false (min ((l + 1022) * double.binade + m) double.infRung) = (l + 1022) * 4503599627370496 + m := by
  have hb : double.binade = 4503599627370496 := rfl
  have hi : double.infRung = 9218868437227405312 := rfl
  rw [hb, hi, word_pos]
  omega

theorem word_help2 (z k : Nat) (hz : z ≤ 1021) (hk : k ≤ 9007199254740992) :
    double.word false (min (z * double.binade + k) double.infRung) ≤ 4607182418800017408 := by
  have hb : double.binade = 4503599627370496 := rfl
  rw [hb, word_pos]
  refine Nat.le_trans (Nat.min_le_left _ _) ?_
  omega

theorem read_help (l m : Nat) (hl : l < 53) (h1 : 4503599627370496 ≤ m) (h2 : m < 9007199254740992) :
    double.read ((l + 1022) * 4503599627370496 + m) = .number false m ((l : Int) - 52) := by
  rw [read_eq]
  rw [if_neg (by omega), if_pos (by omega)]
  have e1 : (((l + 1022) * 4503599627370496 + m) / 9223372036854775808 % 2 == 1) = false := by
    rw [beq_eq_false_iff_ne]; omega
  have e2 : 4503599627370496 + ((l + 1022) * 4503599627370496 + m) % 9223372036854775808 % 4503599627370496 = m := by omega
  have e3 : (-1074 + ((((l + 1022) * 4503599627370496 + m) % 9223372036854775808 / 4503599627370496 - 1 : Nat) : Int)) = (l : Int) - 52 := by omega
  rw [e1, e2, e3]

theorem nearest_whole (n : Nat) (h0 : 0 < n) (h : n < 2 ^ 53) :
    double.nearest false n 0 = (n.log2 + 1022) * 4503599627370496 + n * 2 ^ (52 - n.log2) := by
  have hl : n.log2 < 53 := (Nat.log2_lt (by omega)).2 h
  unfold Format.nearest
  rw [if_neg (by omega)]
  have e1 : max ((0 : Int) + n.log2 - double.fractionBits) double.leastPlace = (n.log2 : Int) - 52 := by
    have : double.leastPlace = -1074 := rfl
    have : (double.fractionBits : Int) = 52 := rfl
    omega
  rw [e1]
  dsimp only
  have e2 : ((0 : Int) - ((n.log2 : Int) - 52)).toNat = 52 - n.log2 := by omega
  have e3 : ((n.log2 : Int) - 52 - 0).toNat = 0 := by omega
  have e4 : ((n.log2 : Int) - 52 - double.leastPlace).toNat = n.log2 + 1022 := by
    have : double.leastPlace = -1074 := rfl
    omega
  rw [e2, e3, e4]
  have e5 : Toward.even.cut false (n <<< (52 - n.log2)) 0 = n * 2 ^ (52 - n.log2) := by
    unfold Toward.cut
    simp [Nat.shiftLeft_eq, Nat.mod_one]
  rw [e5]
  have hup := (log_lo n h0 h).2
  exact word_help _ _ hl hup

theorem read_whole (n : Nat) (h0 : 0 < n) (h : n < 2 ^ 53) :
    double.read (double.nearest false n 0) = .number false (n * 2 ^ (52 - n.log2)) ((n.log2 : Int) - 52) := by
  obtain ⟨h1, h2⟩ := log_lo n h0 h
  have hl : n.log2 < 53 := (Nat.log2_lt (by omega)).2 h
  rw [nearest_whole n h0 h]
  exact read_help _ _ hl h1 h2

theorem quo_le_one_aux (Q : Nat) (P : Int) (h0 : 0 < Q) (h : P + Q.log2 ≤ -1) : double.nearest false Q P ≤ 4607182418800017408 := by
  unfold Format.nearest
  rw [if_neg (by omega)]
  dsimp only
  have hf : (double.fractionBits : Int) = 52 := rfl
  have hp : double.leastPlace = -1074 := rfl
  rw [hf, hp]
  generalize hl : max (P + (Q.log2 : Int) - 52) (-1074) = last
  have h1 : last ≤ -53 := by omega
  have h2 : P + (Q.log2 : Int) - 52 ≤ last := by omega
  have hk : Toward.even.cut false (Q <<< (P - last).toNat) (last - P).toNat ≤ 9007199254740992 := by
    have hQ : Q < 2 ^ (Q.log2 + 1) := Nat.lt_log2_self
    generalize hn : Q <<< (P - last).toNat = n
    have hn2 : n < 2 ^ (53 + (last - P).toNat) := by
      rw [← hn, Nat.shiftLeft_eq]
      calc Q * 2 ^ (P - last).toNat < 2 ^ (Q.log2 + 1) * 2 ^ (P - last).toNat := Nat.mul_lt_mul_of_pos_right hQ (Nat.pow_pos (by decide))
        _ = 2 ^ (Q.log2 + 1 + (P - last).toNat) := (Nat.pow_add ..).symm
        _ ≤ 2 ^ (53 + (last - P).toNat) := Nat.pow_le_pow_right (by decide) (by omega)
    unfold Toward.cut
    dsimp only
    have hlow : n / 1 <<< min (last - P).toNat (n.log2 + 2) < 9007199254740992 := by
      rw [Nat.shiftLeft_eq, Nat.one_mul]
      by_cases hc : (last - P).toNat ≤ n.log2 + 2
      · rw [Nat.min_eq_left hc]
        rw [Nat.div_lt_iff_lt_mul (Nat.pow_pos (by decide))]
        rw [Nat.pow_add, p53] at hn2
        exact hn2
      · rw [Nat.min_eq_right (by omega)]
        have : n < 2 ^ (n.log2 + 1) := Nat.lt_log2_self
        have h3 : n < 2 ^ (n.log2 + 2) := Nat.lt_of_lt_of_le this (Nat.pow_le_pow_right (by decide) (by omega))
        rw [Nat.div_eq_of_lt h3]; omega
    have : ∀ b : Bool, b.toNat ≤ 1 := by decide
    have := this (decide (1 <<< min (last - P).toNat (n.log2 + 2) < 2 * (n % 1 <<< min (last - P).toNat (n.log2 + 2))) || (1 <<< min (last - P).toNat (n.log2 + 2) == 2 * (n % 1 <<< min (last - P).toNat (n.log2 + 2)) && n / 1 <<< min (last - P).toNat (n.log2 + 2) % 2 == 1))
    omega
  exact word_help2 _ _ (by omega) hk

theorem quotient_num (g m n : Nat) (i j : Int) (hn : n ≠ 0) : (Datum.number false m i).quotient g (.number false n j) =
    some (.number false (2 * ((m <<< (g + n.log2 - m.log2)) / n) + ((m <<< (g + n.log2 - m.log2)) % n != 0).toNat) (i - j - (g + n.log2 - m.log2 : Nat) - 1)) := by
  simp [Datum.quotient, hn]

theorem quo_help (m n dl sl : Nat) (d1 : 4503599627370496 ≤ m) (d2 : m < 9007199254740992) (s1 : 4503599627370496 ≤ n) (s2 : n < 9007199254740992)
    (hcase : dl < sl ∨ (dl = sl ∧ m ≤ n)) :
    double.nearest false (2 * (m * 18014398509481984 / n) + (m * 18014398509481984 % n != 0).toNat) ((dl : Int) - 52 - ((sl : Int) - 52) - 54 - 1) ≤ 4607182418800017408 := by
  have hb : ∀ b : Bool, b.toNat ≤ 1 := by decide
  have hst := hb (m * 18014398509481984 % n != 0)
  have hQ0 : 0 < m * 18014398509481984 / n := by
    rw [Nat.div_pos_iff]; omega
  by_cases hone : dl = sl ∧ m = n
  · obtain ⟨e1, e2⟩ := hone
    subst e2
    rw [Nat.mul_div_cancel_left _ (by omega), Nat.mul_mod_right, e1]
    have : ((sl : Int) - 52 - ((sl : Int) - 52) - 54 - 1) = -55 := by omega
    rw [this]
    decide +kernel
  · refine quo_le_one_aux _ _ (by omega) ?_
    rcases hcase with h | ⟨h, h'⟩
    · have hq : m * 18014398509481984 / n < 36028797018963968 := by
        rw [Nat.div_lt_iff_lt_mul (by omega)]; omega
      have : (2 * (m * 18014398509481984 / n) + (m * 18014398509481984 % n != 0).toNat).log2 < 56 := by
        rw [Nat.log2_lt (by omega)]
        have : (2 : Nat) ^ 56 = 72057594037927936 := by simp only [Nat.reducePow]
        omega
      omega
    · have hmn : m < n := by omega
      have hq : m * 18014398509481984 / n < 18014398509481984 := by
        rw [Nat.div_lt_iff_lt_mul (by omega)]; omega
      have : (2 * (m * 18014398509481984 / n) + (m * 18014398509481984 % n != 0).toNat).log2 < 55 := by
        rw [Nat.log2_lt (by omega)]
        have : (2 : Nat) ^ 55 = 36028797018963968 := by simp only [Nat.reducePow]
        omega
      omega

theorem log52 (m : Nat) (h1 : 4503599627370496 ≤ m) (h2 : m < 9007199254740992) : m.log2 = 52 := by
  rw [Nat.log2_eq_iff (by omega), p52, p53]
  exact ⟨h1, h2⟩

theorem quo_full (m n dl sl : Nat) (d1 : 4503599627370496 ≤ m) (d2 : m < 9007199254740992) (s1 : 4503599627370496 ≤ n) (s2 : n < 9007199254740992)
    (hcase : dl < sl ∨ (dl = sl ∧ m ≤ n)) :
    ∃ r, ((Datum.number false m ((dl : Int) - 52)).quotient (double.fractionBits + 2) (.number false n ((sl : Int) - 52))).map double.write = some r ∧ r ≤ 4607182418800017408 := by
  rw [quotient_num _ _ _ _ _ (by omega), log52 m d1 d2, log52 n s1 s2]
  have hf : double.fractionBits = 52 := rfl
  have p54 : (2 : Nat) ^ 54 = 18014398509481984 := by simp only [Nat.reducePow]
  rw [hf, show 52 + 2 + 52 - 52 = 54 from rfl, Nat.shiftLeft_eq, p54]
  exact ⟨_, rfl, quo_help m n dl sl d1 d2 s1 s2 hcase⟩

/-- what a share comes to: a word between +0 and 1 -/
theorem share_word (d s : Nat) (hd : d ≤ s) (h0 : 0 < s) (hs : s < 2 ^ 53) :
    ∃ r, double.div (double.nearest false d 0) (double.nearest false s 0) = some r ∧ r ≤ 4607182418800017408 := by
  unfold Format.div
  rw [read_whole s h0 hs]
  obtain ⟨s1, s2⟩ := log_lo s h0 hs
  by_cases hz : d = 0
  · subst hz
    refine ⟨0, ?_, by omega⟩
    have e : double.read (double.nearest false 0 0) = .number false 0 (-1074) := by decide +kernel
    rw [e, quotient_num _ _ _ _ _ (by omega)]
    simp [Format.write, Format.nearest, Format.word, Nat.shiftLeft_eq]
  · have hd' : d < 2 ^ 53 := by omega
    obtain ⟨d1, d2⟩ := log_lo d (by omega) hd'
    have hll : d.log2 ≤ s.log2 := by
      rcases Nat.lt_or_ge s.log2 d.log2 with h | h
      · have h1 := (Nat.log2_lt (by omega)).1 h
        have h2 : 2 ^ d.log2 ≤ d := Nat.log2_self_le (by omega)
        omega
      · exact h
    rw [read_whole d (by omega) hd']
    have hcase : d.log2 < s.log2 ∨ (d.log2 = s.log2 ∧ d * 2 ^ (52 - d.log2) ≤ s * 2 ^ (52 - s.log2)) := by
      rcases Nat.lt_or_ge d.log2 s.log2 with h | h
      · exact .inl h
      · have : d.log2 = s.log2 := by omega
        exact .inr ⟨this, by rw [this]; exact Nat.mul_le_mul_right _ hd⟩
    exact quo_full _ _ _ _ d1 d2 s1 s2 hcase

end Fl
