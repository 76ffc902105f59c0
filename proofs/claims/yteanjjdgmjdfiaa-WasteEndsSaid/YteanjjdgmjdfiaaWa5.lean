/- slices.SortStableFunc over a list of numbers, part 3: merging in place. -/
import Derived.Test.YteanjjdgmjdfiaaWa4
namespace Go.Proofs.Yteanjjdgmjdfiaa
open Go Go.SX

/-- the least place from which on 'q' no longer holds -/
def bsP (q : Nat → Bool) : Nat → Nat → Nat → Nat
  | 0, i, _ => i
  | f + 1, i, j => if i < j then (if q ((i + j) / 2) then bsP q f ((i + j) / 2 + 1) j else bsP q f i ((i + j) / 2)) else i
def upP : Nat → Nat → List Int → List Int
  | 0, _, l => l
  | n + 1, k, l => upP n (k + 1) (sw l k (k + 1))
def dnP : Nat → Nat → List Int → List Int
  | 0, _, l => l
  | n + 1, k, l => dnP n (k - 1) (sw l k (k - 1))
theorem bsP_range (q : Nat → Bool) : ∀ (f i j : Nat), i ≤ j → i ≤ bsP q f i j ∧ bsP q f i j ≤ j
  | 0, i, j, h => ⟨Nat.le_refl _, h⟩
  | f + 1, i, j, h => by
    simp only [bsP]
    split
    · split
      · have := bsP_range q f ((i + j) / 2 + 1) j (by omega); omega
      · have := bsP_range q f i ((i + j) / 2) (by omega); omega
    · omega

structure BsI (q : Nat → Bool) (i0 j0 f0 : Nat) where
  i : Nat
  j : Nat
  f : Nat
  h1 : i0 ≤ i
  h2 : i ≤ j
  h3 : j ≤ j0
  hf : j - i ≤ f
  he : bsP q f i j = bsP q f0 i0 j0
theorem BsI.stop {q : Nat → Bool} {i0 j0 f0 : Nat} (b : BsI q i0 j0 f0) (h : ¬ b.i < b.j) : b.i = bsP q f0 i0 j0 := by
  rw [← b.he]
  cases b.f with
  | zero => rfl
  | succ f => simp only [bsP]; rw [if_neg h]
def BsI.right {q : Nat → Bool} {i0 j0 f0 : Nat} (b : BsI q i0 j0 f0) (h : b.i < b.j) (hq : q ((b.i + b.j) / 2) = true) : BsI q i0 j0 f0 :=
  ⟨(b.i + b.j) / 2 + 1, b.j, b.f - 1, by have := b.h1; omega, by omega, b.h3, by have := b.hf; omega, by
    rw [← b.he]
    obtain ⟨f', hf'⟩ : ∃ f', b.f = f' + 1 := ⟨b.f - 1, by have := b.hf; omega⟩
    rw [hf']; simp only [bsP, Nat.add_sub_cancel]; rw [if_pos h, if_pos hq]⟩
def BsI.left {q : Nat → Bool} {i0 j0 f0 : Nat} (b : BsI q i0 j0 f0) (h : b.i < b.j) (hq : q ((b.i + b.j) / 2) = false) : BsI q i0 j0 f0 :=
  ⟨b.i, (b.i + b.j) / 2, b.f - 1, b.h1, by omega, by have := b.h3; omega, by have := b.hf; omega, by
    rw [← b.he]
    obtain ⟨f', hf'⟩ : ∃ f', b.f = f' + 1 := ⟨b.f - 1, by have := b.hf; omega⟩
    rw [hf']; simp only [bsP, Nat.add_sub_cancel]; rw [if_pos h, if_neg (by rw [hq]; simp)]⟩

def symU (rc : List Int → Nat → Nat → Nat → List Int) (l : List Int) (a m b mid start : Nat) : List Int :=
  let l1 := if start < m ∧ m < mid + m - start then rotP l m ((m - start) + (mid + m - start - m)) (m - start) (mid + m - start - m) else l
  let l2 := if a < start ∧ start < mid then rc l1 a start mid else l1
  if mid < mid + m - start ∧ mid + m - start < b then rc l2 mid (mid + m - start) b else l2
def symT (rc : List Int → Nat → Nat → Nat → List Int) (c : Int → Int → Int) (l : List Int) (a m b mid s0 r0 : Nat) : List Int :=
  symU rc l a m b mid (bsP (fun x => !decide (c (l.getD (mid + m - 1 - x) 0) (l.getD x 0) < 0)) (r0 - s0) s0 r0)
def symP (c : Int → Int → Int) : Nat → List Int → Nat → Nat → Nat → List Int
  | 0, l, _, _, _ => l
  | f + 1, l, a, m, b =>
    if m - a = 1 then upP (bsP (fun h => decide (c (l.getD h 0) (l.getD a 0) < 0)) (b - m) m b - 1 - a) a l
    else if b - m = 1 then dnP (m - bsP (fun h => !decide (c (l.getD m 0) (l.getD h 0) < 0)) (m - a) a m) m l
    else symT (symP c f) c l a m b ((a + b) / 2) (if (a + b) / 2 < m then (a + b) / 2 + m - b else a) (if (a + b) / 2 < m then (a + b) / 2 else m)

theorem swapP_perm (l : List Int) (a b : Nat) : ∀ n, a + n ≤ l.length → b + n ≤ l.length → (swapP l a b n).Perm l
  | 0, _, _ => .refl l
  | n + 1, h, k => by
    have ih := swapP_perm l a b n (by omega) (by omega)
    exact (sw_perm (l := swapP l a b n) (i := a + n) (k := b + n) (by rw [swapP_len]; omega) (by rw [swapP_len]; omega)).trans ih
theorem rotP_perm (m : Nat) : ∀ (f i j : Nat) (l : List Int), i ≤ m → m + j ≤ l.length → (rotP l m f i j).Perm l
  | 0, _, _, l, _, _ => .refl l
  | f + 1, i, j, l, h, k => by
    simp only [rotP]
    split
    · exact swapP_perm l _ _ _ (by omega) (by omega)
    · split
      · exact (rotP_perm m f (i - j) j _ (by omega) (by rw [swapP_len]; omega)).trans (swapP_perm l _ _ _ (by omega) (by omega))
      · exact (rotP_perm m f i (j - i) _ (by omega) (by rw [swapP_len]; omega)).trans (swapP_perm l _ _ _ (by omega) (by omega))

theorem half (a b : Nat) (h : a + b ≤ 1000) : IntKind.i64.wrap ((IntKind.u64.wrap ((a : Int) + b)).fdiv (2 ^ min 1 64)) = (((a + b) / 2 : Nat) : Int) := by
  have e : IntKind.u64.wrap ((a : Int) + b) = ((a + b : Nat) : Int) := by
    simp only [IntKind.wrap, IntKind.bits, IntKind.signed]
    simp
    omega
  have e2 : ((2 : Int) ^ min 1 64) = 2 := by decide
  rw [e, e2, wrap_i64, Int.fdiv_eq_ediv_of_nonneg _ (by omega)]
  omega

theorem upP_perm : ∀ (n k : Nat) (l : List Int), k + n < l.length → (upP n k l).Perm l
  | 0, _, l, _ => .refl l
  | n + 1, k, l, h => (upP_perm n (k + 1) _ (by rw [sw_len]; omega)).trans (sw_perm (by omega) (by omega))
theorem dnP_perm : ∀ (n k : Nat) (l : List Int), n ≤ k → k < l.length → (dnP n k l).Perm l
  | 0, _, l, _, _ => .refl l
  | n + 1, k, l, h, h2 => (dnP_perm n (k - 1) _ (by omega) (by rw [sw_len]; omega)).trans (sw_perm (by omega) (by omega))

/-- where the middle search may end -/
theorem sym_bounds {a m b mid s0 r0 : Nat} (ha : a < m) (hm : m < b) (hmid : mid = (a + b) / 2) (hs : s0 = if mid < m then mid + m - b else a) (hr : r0 = if mid < m then mid else m) :
    a ≤ s0 ∧ s0 ≤ r0 ∧ r0 ≤ m ∧ r0 ≤ mid ∧ mid + m - s0 ≤ b := by
  split at hs
  · rename_i h; rw [if_pos h] at hr; omega
  · rename_i h; rw [if_neg h] at hr; omega

theorem symU_perm {rc : List Int → Nat → Nat → Nat → List Int} {l : List Int} {a m b mid st : Nat} (hrc : ∀ l a m b, a < m → m < b → b ≤ l.length → (rc l a m b).Perm l) (hb : b ≤ l.length) (h2 : mid < b) (h3 : mid + m - st ≤ b) (h4 : st ≤ m) (h5 : st ≤ mid) :
    (symU rc l a m b mid st).Perm l := by
  have p1 : (if st < m ∧ m < mid + m - st then rotP l m ((m - st) + (mid + m - st - m)) (m - st) (mid + m - st - m) else l).Perm l := by
    split
    · exact rotP_perm m _ _ _ l (by omega) (by omega)
    · exact .refl l
  unfold symU
  simp only []
  generalize (if st < m ∧ m < mid + m - st then rotP l m ((m - st) + (mid + m - st - m)) (m - st) (mid + m - st - m) else l) = l1 at p1 ⊢
  have p2 : (if a < st ∧ st < mid then rc l1 a st mid else l1).Perm l1 := by
    split
    · exact hrc _ _ _ _ (by omega) (by omega) (by rw [p1.length_eq]; omega)
    · exact .refl _
  generalize (if a < st ∧ st < mid then rc l1 a st mid else l1) = l2 at p2 ⊢
  split
  · exact (hrc _ _ _ _ (by omega) (by omega) (by rw [p2.length_eq, p1.length_eq]; omega)).trans (p2.trans p1)
  · exact p2.trans p1
theorem symP_perm (c : Int → Int → Int) : ∀ (f : Nat) (l : List Int) (a m b : Nat), a < m → m < b → b ≤ l.length → (symP c f l a m b).Perm l
  | 0, l, _, _, _, _, _, _ => .refl l
  | f + 1, l, a, m, b, ha, hm, hb => by
    simp only [symP]
    split
    · have := bsP_range (fun h => decide (c (l.getD h 0) (l.getD a 0) < 0)) (b - m) m b (by omega)
      exact upP_perm _ _ _ (by omega)
    · split
      · have := bsP_range (fun h => !decide (c (l.getD m 0) (l.getD h 0) < 0)) (m - a) a m (by omega)
        exact dnP_perm _ _ _ (by omega) (by omega)
      · obtain ⟨mid, hmid⟩ : ∃ mid, mid = (a + b) / 2 := ⟨_, rfl⟩
        obtain ⟨s0, hs⟩ : ∃ s0, s0 = if mid < m then mid + m - b else a := ⟨_, rfl⟩
        obtain ⟨r0, hr⟩ : ∃ r0, r0 = if mid < m then mid else m := ⟨_, rfl⟩
        rw [← hmid, ← hs, ← hr]
        obtain ⟨b1, b2, b3, b4, b5⟩ := sym_bounds ha hm hmid hs hr
        have := bsP_range (fun x => !decide (c (l.getD (mid + m - 1 - x) 0) (l.getD x 0) < 0)) (r0 - s0) s0 r0 b2
        unfold symT
        exact symU_perm (fun l a m b => symP_perm c f l a m b) hb (by omega) (by omega) (by omega) (by omega)

structure UpI (e k0 : Nat) (l0 : List Int) where
  l : List Int
  k : Nat
  hk0 : k0 ≤ k
  hk : k ≤ e
  hl : l.length = l0.length
  he : upP (e - k) k l = upP (e - k0) k0 l0
structure DnI (e k0 : Nat) (l0 : List Int) where
  l : List Int
  k : Nat
  hk0 : e ≤ k
  hk : k ≤ k0
  hl : l.length = l0.length
  he : dnP (k - e) k l = dnP (k0 - e) k0 l0

set_option maxHeartbeats 4000000 in
set_option maxRecDepth 10000 in
theorem sym_any {A : Option Addr} {cap : Nat} {G : FuncId} {caps : List Value} {c : Int → Int → Int} {dom : Int → Prop} : ∀ (fu : Nat) (Z : Heap) (l : List Int) (a m b : Nat), Cmp Z G caps c dom → (∀ x ∈ l, dom x) →
    a < m → m < b → b ≤ l.length → l.length ≤ 100 → b - a ≤ fu →
    FnW Try.prog 21 [.row 0, .val (.int .i64 a), .val (.int .i64 m), .val (.int .i64 b), .val (cmpV G caps)] Z A cap 3 1 l.length (icells l)
      (fun xs => xs = icells (symP c fu l a m b))
  | 0, Z, l, a, m, b, hc, hd, ha, hm, hb, hl, hf => by omega
  | fu + 1, Z, l, a, m, b, hc, hd, ha, hm, hb, hl, hf => by
    refine fnW_intro Try.func21 rfl (Nat.le_of_ble_eq_true rfl) ?_
    have e1 : (m : Int) - a = ((m - a : Nat) : Int) := by omega
    have e2 : (b : Int) - m = ((b - m : Nat) : Int) := by omega
    simp only [go_sem, e1, e2]
    refine ⟨by unfold inI64; omega, fun h1 => ?_, fun h1 => ⟨by unfold inI64; omega, fun h2 => ?_, fun h2 => ?_⟩⟩
    · have h1' : m - a = 1 := by
        have : ((m - a : Nat) : Int) = 1 := by simpa using h1
        omega
      have hfin : symP c (fu + 1) l a m b = upP (bsP (fun h => decide (c (l.getD h 0) (l.getD a 0) < 0)) (b - m) m b - 1 - a) a l := by
        simp only [symP]; rw [if_pos h1']
      rw [hfin]
      refine vcLoop_intro (ι := BsI (fun h => decide (c (l.getD h 0) (l.getD a 0) < 0)) m b (b - m))
        (fun k => ⟨[(10, .val (.int .i64 k.i)), (11, .val (.int .i64 k.j)), (0, .row 0), (1, .val (.int .i64 a)), (2, .val (.int .i64 m)), (3, .val (.int .i64 b)), (4, .val (cmpV G caps))], [.row A cap 3 1 l.length (icells l)], Z⟩)
        (fun k => k.j - k.i) ⟨m, b, b - m, by omega, by omega, by omega, by omega, rfl⟩ (incl_of (by simp only [go_sem])) ?_
      intro k
      have hk1 := k.h1; have hk2 := k.h2; have hk3 := k.h3
      simp only [go_sem, half k.i k.j (by omega), hc.ext, hc.can]
      refine ⟨fun hlt => ?_, fun hge => ?_⟩
      · have hlt' : k.i < k.j := by simpa using hlt
        refine ⟨by unfold inI64; omega, by kernel_rfl, by omega, _, icells_at l _ (by omega), by omega, _, icells_at l a (by omega), ?_⟩
        refine vcCallX_E (.int .i64 (l.getD ((k.i + k.j) / 2) 0) :: .int .i64 (l.getD a 0) :: caps) (by simp [denL, den, denL_vals]) (hc.run _ _ (hd _ (getD_mem (by omega))) (hd _ (getD_mem (by omega)))) ?_
        simp only [go_sem]
        refine ⟨fun hq => ⟨by unfold inI64; omega, k.right hlt' hq, ?_, ?_⟩, fun hq => ⟨k.left hlt' hq, ?_, ?_⟩⟩
        · simp only [BsI.right]; omega
        · exact incl_of (by simp only [go_sem, BsI.right] <;> simp)
        · simp only [BsI.left]; omega
        · exact incl_of (by simp only [go_sem, BsI.left] <;> simp)
      · have hstop := k.stop (by simpa using hge)
        rw [← hstop]
        refine vcLoop_intro (ι := UpI (k.i - 1) a l)
          (fun u => ⟨[(13, .val (.int .i64 u.k)), (10, .val (.int .i64 k.i)), (0, .row 0)], [.row A cap 3 1 l.length (icells u.l)], Z⟩)
          (fun u => k.i - u.k) ⟨l, a, by omega, by omega, rfl, rfl⟩ (incl_of (by simp only [go_sem] <;> simp)) ?_
        rintro ⟨l', u, hu1, hu2, hl', he⟩
        have e5 : (k.i : Int) - 1 = ((k.i - 1 : Nat) : Int) := by omega
        have e6 : (u : Int) + 1 = ((u + 1 : Nat) : Int) := by omega
        simp only [go_sem, e5, e6]
        refine ⟨by unfold inI64; omega, fun hlt => ?_, fun hge2 => ?_⟩
        · have hlt' : u < k.i - 1 := by
            have : ((u : Nat) : Int) < ((k.i - 1 : Nat) : Int) := by simpa using hlt
            omega
          refine ⟨by kernel_rfl, by unfold inI64; omega, by unfold inI64; omega, by omega, _, icells_at l' (u + 1) (by omega), by omega, _, icells_at l' u (by omega), by omega, by rw [icells_len]; omega, by omega,
            by simp [icells_len]; omega, by unfold inI64; omega, ⟨sw l' u (u + 1), u + 1, by omega, by omega, by rw [sw_len, hl'], ?_⟩, ?_, ?_⟩
          · rw [← he, show k.i - 1 - u = (k.i - 1 - (u + 1)) + 1 by omega]
            rfl
          · simp only []; omega
          · rw [icells_set _ _ _ (by omega), icells_set _ _ _ (by simp; omega)]
            exact incl_take 1 rfl (by simp only [go_sem] <;> simp) (by simp only [go_sem]) (by simp only [go_sem])
        · have hge' : u = k.i - 1 := by
            have : ¬ ((u : Nat) : Int) < ((k.i - 1 : Nat) : Int) := by simpa using hge2
            omega
          subst hge'
          refine ⟨_, [], rfl, ?_⟩
          rw [← he]
          simp [upP]
    · have h1' : m - a ≠ 1 := by
        rintro e; rw [e] at h1; simp at h1
      have h2' : b - m = 1 := by
        have : ((b - m : Nat) : Int) = 1 := by simpa using h2
        omega
      have hfin : symP c (fu + 1) l a m b = dnP (m - bsP (fun h => !decide (c (l.getD m 0) (l.getD h 0) < 0)) (m - a) a m) m l := by
        simp only [symP]; rw [if_neg h1', if_pos h2']
      rw [hfin]
      refine vcLoop_intro (ι := BsI (fun h => !decide (c (l.getD m 0) (l.getD h 0) < 0)) a m (m - a))
        (fun k => ⟨[(14, .val (.int .i64 k.i)), (15, .val (.int .i64 k.j)), (0, .row 0), (1, .val (.int .i64 a)), (2, .val (.int .i64 m)), (3, .val (.int .i64 b)), (4, .val (cmpV G caps))], [.row A cap 3 1 l.length (icells l)], Z⟩)
        (fun k => k.j - k.i) ⟨a, m, m - a, by omega, by omega, by omega, by omega, rfl⟩ (incl_of (by simp only [go_sem] <;> simp)) ?_
      intro k
      have hk1 := k.h1; have hk2 := k.h2; have hk3 := k.h3
      simp only [go_sem, half k.i k.j (by omega), hc.ext, hc.can]
      refine ⟨fun hlt => ?_, fun hge => ?_⟩
      · have hlt' : k.i < k.j := by simpa using hlt
        refine ⟨by unfold inI64; omega, by kernel_rfl, by omega, _, icells_at l m (by omega), by omega, _, icells_at l _ (by omega), ?_⟩
        refine vcCallX_E (.int .i64 (l.getD m 0) :: .int .i64 (l.getD ((k.i + k.j) / 2) 0) :: caps) (by simp [denL, den, denL_vals]) (hc.run _ _ (hd _ (getD_mem (by omega))) (hd _ (getD_mem (by omega)))) ?_
        simp only [go_sem]
        refine ⟨fun hq => ⟨by unfold inI64; omega, k.right hlt' hq, ?_, ?_⟩, fun hq => ⟨k.left hlt' hq, ?_, ?_⟩⟩
        · simp only [BsI.right]; omega
        · exact incl_of (by simp only [go_sem, BsI.right] <;> simp)
        · simp only [BsI.left]; omega
        · exact incl_of (by simp only [go_sem, BsI.left] <;> simp)
      · have hstop := k.stop (by simpa using hge)
        rw [← hstop]
        refine vcLoop_intro (ι := DnI k.i m l)
          (fun u => ⟨[(17, .val (.int .i64 u.k)), (14, .val (.int .i64 k.i)), (0, .row 0)], [.row A cap 3 1 l.length (icells u.l)], Z⟩)
          (fun u => u.k) ⟨l, m, by omega, by omega, rfl, rfl⟩ (incl_of (by simp only [go_sem] <;> simp)) ?_
        rintro ⟨l', u, hu1, hu2, hl', he⟩
        simp only [go_sem]
        refine ⟨fun hlt => ?_, fun hge2 => ?_⟩
        · have hlt' : k.i < u := by simpa using hlt
          obtain ⟨u', rfl⟩ : ∃ u', u = u' + 1 := ⟨u - 1, by omega⟩
          have e5 : ((u' + 1 : Nat) : Int) - 1 = ((u' : Nat) : Int) := by omega
          simp only [e5, Int.toNat_natCast]
          refine ⟨by kernel_rfl, by unfold inI64; omega, by unfold inI64; omega, by omega, _, icells_at l' u' (by omega), by omega, _, icells_at l' (u' + 1) (by omega), by omega, by rw [icells_len]; omega, by omega,
            by simp [icells_len]; omega, by unfold inI64; omega, ⟨sw l' (u' + 1) u', u', by omega, by omega, by rw [sw_len, hl'], ?_⟩, ?_, ?_⟩
          · rw [← he, show u' + 1 - k.i = (u' - k.i) + 1 by omega]
            rfl
          · simp only []; omega
          · rw [icells_set _ _ _ (by omega), icells_set _ _ _ (by simp; omega)]
            exact incl_take 1 rfl (by simp only [go_sem] <;> simp) (by simp only [go_sem]) (by simp only [go_sem])
        · have hge' : u = k.i := by
            have : ¬ k.i < u := by simpa using hge2
            omega
          subst hge'
          refine ⟨_, [], rfl, ?_⟩
          rw [← he]
          simp [dnP]
    · have h1' : m - a ≠ 1 := by
        rintro e; rw [e] at h1; simp at h1
      have h2' : b - m ≠ 1 := by
        rintro e; rw [e] at h2; simp at h2
      obtain ⟨mid, hmid⟩ : ∃ mid, mid = (a + b) / 2 := ⟨_, rfl⟩
      have e3 : (mid : Int) + m = ((mid + m : Nat) : Int) := by omega
      have e4 : ((mid + m : Nat) : Int) - 1 = ((mid + m - 1 : Nat) : Int) := by omega
      simp only [half a b (by omega), ← hmid, e3, e4]
      refine ⟨by unfold inI64; omega, by unfold inI64; omega, fun hm1 => ?br1, fun hm1 => ?br2⟩
      case' br1 =>
        have hm1' : mid < m := by simpa using hm1
        obtain ⟨s0, hs⟩ : ∃ s0, s0 = mid + m - b := ⟨_, rfl⟩
        obtain ⟨r0, hr⟩ : ∃ r0, r0 = mid := ⟨_, rfl⟩
        have e5 : ((mid + m : Nat) : Int) - b = (s0 : Int) := by omega
        have hs' : s0 = if mid < m then mid + m - b else a := by rw [if_pos hm1']; exact hs
        have hr' : r0 = if mid < m then mid else m := by rw [if_pos hm1']; exact hr
        simp only [e5]
        refine ⟨by unfold inI64; omega, by unfold inI64; omega, ?_⟩
      case' br2 =>
        have hm1' : ¬ mid < m := by simpa using hm1
        obtain ⟨s0, hs⟩ : ∃ s0, s0 = a := ⟨_, rfl⟩
        obtain ⟨r0, hr⟩ : ∃ r0, r0 = m := ⟨_, rfl⟩
        have hs' : s0 = if mid < m then mid + m - b else a := by rw [if_neg hm1']; exact hs
        have hr' : r0 = if mid < m then mid else m := by rw [if_neg hm1']; exact hr
        refine ⟨by unfold inI64; omega, ?_⟩
      all_goals
        have hfin : symP c (fu + 1) l a m b = symT (symP c fu) c l a m b mid s0 r0 := by
          simp only [symP]; rw [if_neg h1', if_neg h2', ← hmid, ← hs', ← hr']
        rw [hfin]
        obtain ⟨b1, b2, b3, b4, b5⟩ := sym_bounds ha hm hmid hs' hr'
        refine vcLoop_intro (ι := BsI (fun x => !decide (c (l.getD (mid + m - 1 - x) 0) (l.getD x 0) < 0)) s0 r0 (r0 - s0))
          (fun k => ⟨[(20, .val (.int .i64 k.i)), (21, .val (.int .i64 k.j)), (22, .val (.int .i64 (mid + m - 1 : Nat))), (19, .val (.int .i64 (mid + m : Nat))), (18, .val (.int .i64 mid)),
            (0, .row 0), (1, .val (.int .i64 a)), (2, .val (.int .i64 m)), (3, .val (.int .i64 b)), (4, .val (cmpV G caps))], [.row A cap 3 1 l.length (icells l)], Z⟩)
          (fun k => k.j - k.i) ⟨s0, r0, r0 - s0, by omega, by omega, by omega, by omega, rfl⟩ (incl_of (by simp only [go_sem, hs, hr] <;> simp)) ?_
        intro k
        have hk1 := k.h1; have hk2 := k.h2; have hk3 := k.h3
        have e6 : ((mid + m - 1 : Nat) : Int) - ((k.i + k.j) / 2 : Nat) = ((mid + m - 1 - (k.i + k.j) / 2 : Nat) : Int) := by omega
        have e7 : ((mid + m : Nat) : Int) - (k.i : Nat) = ((mid + m - k.i : Nat) : Int) := by omega
        simp only [go_sem, half k.i k.j (by omega), hc.ext, hc.can, e6, e7]
        refine ⟨fun hlt => ?_, fun hge => ?_⟩
        · have hlt' : k.i < k.j := by simpa using hlt
          refine ⟨by unfold inI64; omega, by kernel_rfl, by unfold inI64; omega, by omega, _, icells_at l (mid + m - 1 - (k.i + k.j) / 2) (by omega), by omega, _, icells_at l ((k.i + k.j) / 2) (by omega), ?_⟩
          refine vcCallX_E (.int .i64 (l.getD (mid + m - 1 - (k.i + k.j) / 2) 0) :: .int .i64 (l.getD ((k.i + k.j) / 2) 0) :: caps) (by simp [denL, den, denL_vals]) (hc.run _ _ (hd _ (getD_mem (by omega))) (hd _ (getD_mem (by omega)))) ?_
          simp only [go_sem]
          refine ⟨fun hq => ⟨by unfold inI64; omega, k.right hlt' hq, ?_, ?_⟩, fun hq => ⟨k.left hlt' hq, ?_, ?_⟩⟩
          · simp only [BsI.right]; omega
          · exact incl_of (by simp only [go_sem, BsI.right] <;> simp)
          · simp only [BsI.left]; omega
          · exact incl_of (by simp only [go_sem, BsI.left] <;> simp)
        · have hstop := k.stop (by simpa using hge)
          rw [symT, ← hstop]
          obtain ⟨st, hst⟩ : ∃ st, st = k.i := ⟨_, rfl⟩
          simp only [← hst] at hk1 hk2 ⊢
          clear hstop e6
          refine ⟨by unfold inI64; omega, fun y1 => ?_, fun n1 => ?_⟩
          case' refine_1 =>
            have y1' : st < m ∧ m < mid + m - st := by
              simp only [Bool.and_eq_true, decide_eq_true_eq] at y1; omega
            refine vcCall_W 0 [.row 0, .val (.int .i64 st), .val (.int .i64 m), .val (.int .i64 (mid + m - st : Nat)), .val (cmpV G caps)] _ rfl rfl rfl (fun Z' _ _ => rotate_any Z' A cap l st m (mid + m - st) (cmpV G caps) (by omega) (by omega) (by omega) hl) ?_
            intro X hX
            obtain ⟨l1, hl1, hX'⟩ : ∃ l1, l1 = (if st < m ∧ m < mid + m - st then rotP l m ((m - st) + (mid + m - st - m)) (m - st) (mid + m - st - m) else l) ∧ X = icells l1 := ⟨_, rfl, by rw [if_pos y1']; exact hX⟩
            subst hX'
            simp only [go_sem, e7]
          case' refine_2 =>
            have n1' : ¬ (st < m ∧ m < mid + m - st) := by
              simp only [Bool.and_eq_false_iff, decide_eq_false_iff_not] at n1; omega
            generalize hX : icells l = X
            obtain ⟨l1, hl1, hX'⟩ : ∃ l1, l1 = (if st < m ∧ m < mid + m - st then rotP l m ((m - st) + (mid + m - st - m)) (m - st) (mid + m - st - m) else l) ∧ X = icells l1 := ⟨_, rfl, by rw [if_neg n1']; exact hX.symm⟩
            subst hX'
          all_goals
            have hp1 : l1.Perm l := by
              rw [hl1]
              by_cases hh : st < m ∧ m < mid + m - st
              · rw [if_pos hh]; exact rotP_perm m _ _ _ l (by omega) (by omega)
              · rw [if_neg hh]
            have hlen1 := hp1.length_eq
            have hd1 : ∀ x ∈ l1, dom x := fun x hx => hd x (hp1.mem_iff.1 hx)
            refine ⟨fun y2 => ?_, fun n2 => ?_⟩
            case' refine_1 =>
              have y2' : a < st ∧ st < mid := by
                simp only [Bool.and_eq_true, decide_eq_true_eq] at y2; omega
              refine vcCall_W 0 [.row 0, .val (.int .i64 a), .val (.int .i64 st), .val (.int .i64 mid), .val (cmpV G caps)] _ rfl rfl rfl (fun Z' hz _ => by
                have ih := sym_any (A := A) (cap := cap) fu Z' l1 a st mid (hc.grow hz) hd1 (by omega) (by omega) (by omega) (by omega) (by omega)
                rw [hlen1] at ih; exact ih) ?_
              intro X hX
              obtain ⟨l2, hl2, hX'⟩ : ∃ l2, l2 = (if a < st ∧ st < mid then symP c fu l1 a st mid else l1) ∧ X = icells l2 := ⟨_, rfl, by rw [if_pos y2']; exact hX⟩
              subst hX'
              simp only [go_sem]
            case' refine_2 =>
              have n2' : ¬ (a < st ∧ st < mid) := by
                simp only [Bool.and_eq_false_iff, decide_eq_false_iff_not] at n2; omega
              generalize hX : icells l1 = X
              obtain ⟨l2, hl2, hX'⟩ : ∃ l2, l2 = (if a < st ∧ st < mid then symP c fu l1 a st mid else l1) ∧ X = icells l2 := ⟨_, rfl, by rw [if_neg n2']; exact hX.symm⟩
              subst hX'
            all_goals
              have hp2 : l2.Perm l1 := by
                rw [hl2]
                by_cases hh : a < st ∧ st < mid
                · rw [if_pos hh]; exact symP_perm c fu l1 a st mid (by omega) (by omega) (by omega)
                · rw [if_neg hh]
              have hlen2 := hp2.length_eq
              have hd2 : ∀ x ∈ l2, dom x := fun x hx => hd1 x (hp2.mem_iff.1 hx)
              have hU : symU (symP c fu) l a m b mid st = (if mid < mid + m - st ∧ mid + m - st < b then symP c fu l2 mid (mid + m - st) b else l2) := by
                unfold symU; simp only []; rw [← hl1, ← hl2]
              rw [hU]
              refine ⟨fun y3 => ?_, fun n3 => ?_⟩
              · have y3' : mid < mid + m - st ∧ mid + m - st < b := by
                  simp only [Bool.and_eq_true, decide_eq_true_eq] at y3; omega
                rw [if_pos y3']
                refine vcCall_W 0 [.row 0, .val (.int .i64 mid), .val (.int .i64 (mid + m - st : Nat)), .val (.int .i64 b), .val (cmpV G caps)] _ rfl rfl rfl (fun Z' hz _ => by
                  have ih := sym_any (A := A) (cap := cap) fu Z' l2 mid (mid + m - st) b (hc.grow hz) hd2 (by omega) (by omega) (by omega) (by omega) (by omega)
                  rw [hlen2, hlen1] at ih; exact ih) ?_
                rintro X rfl
                simp only [go_sem]
                exact ⟨_, [], rfl, rfl⟩
              · have n3' : ¬ (mid < mid + m - st ∧ mid + m - st < b) := by
                  simp only [Bool.and_eq_false_iff, decide_eq_false_iff_not] at n3; omega
                rw [if_neg n3']
                exact ⟨_, [], rfl, rfl⟩
end Go.Proofs.Yteanjjdgmjdfiaa
