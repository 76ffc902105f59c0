/- slices.SortStableFunc over a list of numbers, part 4: the whole sort. -/
import Derived.Test.YteanjjdgmjdfiaaWa5
namespace Go.Proofs.Yteanjjdgmjdfiaa
open Go Go.SX

def blkP (c : Int → Int → Int) (l : List Int) : Nat → List Int
  | 0 => l
  | k + 1 => insP c (20 * k) 20 (blkP c l k)
def mrgP (c : Int → Int → Int) (s : Nat) (l : List Int) : Nat → List Int
  | 0 => l
  | k + 1 => symP c (2 * s) (mrgP c s l k) (2 * s * k) (2 * s * k + s) (2 * s * k + 2 * s)
def roundP (c : Int → Int → Int) (s : Nat) (l : List Int) : List Int :=
  if 2 * s * (l.length / (2 * s)) + s < l.length then symP c (l.length - 2 * s * (l.length / (2 * s))) (mrgP c s l (l.length / (2 * s))) (2 * s * (l.length / (2 * s))) (2 * s * (l.length / (2 * s)) + s) l.length
  else mrgP c s l (l.length / (2 * s))
def stbP (c : Int → Int → Int) : Nat → Nat → List Int → List Int
  | 0, _, l => l
  | f + 1, s, l => if s < l.length then stbP c f (s * 2) (roundP c s l) else l
def sortP (c : Int → Int → Int) (l : List Int) : List Int :=
  stbP c l.length 20 (insP c (20 * (l.length / 20)) (l.length - 20 * (l.length / 20)) (blkP c l (l.length / 20)))

theorem blkP_perm (c : Int → Int → Int) (l : List Int) : ∀ k, 20 * k ≤ l.length → (blkP c l k).Perm l
  | 0, _ => .refl l
  | k + 1, h => by
    have ih := blkP_perm c l k (by omega)
    exact (insP_perm c (20 * k) 20 _ (by rw [ih.length_eq]; omega)).trans ih
theorem mrgP_perm (c : Int → Int → Int) (s : Nat) (l : List Int) (hs : 0 < s) : ∀ k, 2 * s * k ≤ l.length → (mrgP c s l k).Perm l
  | 0, _ => .refl l
  | k + 1, h => by
    have e : 2 * s * (k + 1) = 2 * s * k + 2 * s := by rw [Nat.mul_add, Nat.mul_one]
    have ih := mrgP_perm c s l hs k (by omega)
    exact (symP_perm c _ _ _ _ _ (by omega) (by omega) (by rw [ih.length_eq]; omega)).trans ih
theorem roundP_perm (c : Int → Int → Int) (s : Nat) (l : List Int) (hs : 0 < s) : (roundP c s l).Perm l := by
  have h : 2 * s * (l.length / (2 * s)) ≤ l.length := Nat.mul_div_le _ _
  have hm := mrgP_perm c s l hs _ h
  unfold roundP
  split
  · exact (symP_perm c _ _ _ _ _ (by omega) (by omega) (by rw [hm.length_eq]; omega)).trans hm
  · exact hm

theorem stbP_perm (c : Int → Int → Int) : ∀ (f s : Nat) (l : List Int), 0 < s → (stbP c f s l).Perm l
  | 0, _, l, _ => .refl l
  | f + 1, s, l, h => by
    simp only [stbP]
    split
    · exact (stbP_perm c f (s * 2) _ (by omega)).trans (roundP_perm c s l h)
    · exact .refl l
theorem sortP_perm (c : Int → Int → Int) (l : List Int) : (sortP c l).Perm l := by
  have hb := blkP_perm c l (l.length / 20) (by omega)
  exact (stbP_perm c _ _ _ (by omega)).trans ((insP_perm c _ _ _ (by rw [hb.length_eq]; omega)).trans hb)

set_option maxRecDepth 10000 in
theorem insertion_none (Z : Heap) (A : Option Addr) (cap N : Nat) (xs : List Value) (a : Nat) (f : Value) (ha : a ≤ 1000) :
    FnW Try.prog 20 [.row 0, .val (.int .i64 a), .val (.int .i64 a), .val f] Z A cap 3 1 N xs (fun ys => ys = xs) := by
  refine fnW_intro Try.func20 rfl (Nat.le_of_ble_eq_true rfl) ?_
  simp only [go_sem]
  refine ⟨by unfold inI64; omega, ?_⟩
  refine vcLoop_intro (ι := Unit) (fun _ => ⟨[(8, .val (.int .i64 (a + 1))), (0, .row 0), (1, .val (.int .i64 a)), (2, .val (.int .i64 a))], [.row A cap 3 1 N xs], Z⟩) (fun _ => 0) () (incl_of (by simp only [go_sem] <;> simp)) ?_
  intro _
  simp only [go_sem]
  refine ⟨fun h => ?_, fun _ => ⟨_, [], rfl, rfl⟩⟩
  simp only [decide_eq_true_eq] at h
  omega

theorem insertion_at (Z : Heap) (A : Option Addr) (cap N : Nat) (l : List Int) (a b : Nat) {G : FuncId} {caps : List Value} {c : Int → Int → Int} {dom : Int → Prop} (hc : Cmp Z G caps c dom) (hd : ∀ x ∈ l, dom x) (hN : l.length = N)
    (ha : a ≤ b) (hb : b ≤ N) (hl : N ≤ 100) :
    FnW Try.prog 20 [.row 0, .val (.int .i64 a), .val (.int .i64 b), .val (cmpV G caps)] Z A cap 3 1 N (icells l)
      (fun xs => xs = icells (insP c a (b - a) l)) := by
  subst hN
  rcases Nat.lt_or_ge a b with h | h
  · exact insertion_any Z A cap l a b hc hd h hb hl
  · have : a = b := by omega
    subst this
    rw [Nat.sub_self]
    exact insertion_none Z A cap _ _ a _ (by omega)
theorem sym_at {A : Option Addr} {cap N : Nat} {G : FuncId} {caps : List Value} {c : Int → Int → Int} {dom : Int → Prop} (fu : Nat) (Z : Heap) (l : List Int) (a m b : Nat) (hc : Cmp Z G caps c dom) (hd : ∀ x ∈ l, dom x) (hN : l.length = N)
    (ha : a < m) (hm : m < b) (hb : b ≤ N) (hl : N ≤ 100) (hf : b - a ≤ fu) :
    FnW Try.prog 21 [.row 0, .val (.int .i64 a), .val (.int .i64 m), .val (.int .i64 b), .val (cmpV G caps)] Z A cap 3 1 N (icells l)
      (fun xs => xs = icells (symP c fu l a m b)) := by
  subst hN; exact sym_any fu Z l a m b hc hd ha hm hb hl hf

structure StbI (c : Int → Int → Int) (l0 : List Int) (f0 s0 : Nat) where
  l : List Int
  s : Nat
  f : Nat
  hp : l.Perm l0
  hs : 20 ≤ s
  hs2 : s ≤ 1000
  hf : l0.length ≤ s + f
  he : stbP c f s l = stbP c f0 s0 l0

set_option maxHeartbeats 4000000 in
set_option maxRecDepth 10000 in
theorem stable_any (Z : Heap) (A : Option Addr) (cap : Nat) (l : List Int) {G : FuncId} {caps : List Value} {c : Int → Int → Int} {dom : Int → Prop} (hc : Cmp Z G caps c dom) (hd : ∀ x ∈ l, dom x) (hl : l.length ≤ 100) :
    FnW Try.prog 18 [.row 0, .val (.int .i64 l.length), .val (cmpV G caps)] Z A cap 3 1 l.length (icells l)
      (fun xs => xs = icells (sortP c l)) := by
  refine fnW_intro Try.func18 rfl (Nat.le_of_ble_eq_true rfl) ?_
  simp only [go_sem]
  refine vcLoop_intro (ι := {k : Nat // 20 * k ≤ l.length})
    (fun k => ⟨[(6, .val (.int .i64 20)), (7, .val (.int .i64 (20 * k.1 : Nat))), (8, .val (.int .i64 (20 * k.1 + 20 : Nat))), (0, .row 0), (1, .val (.int .i64 l.length)), (2, .val (cmpV G caps))], [.row A cap 3 1 l.length (icells (blkP c l k.1))], Z⟩)
    (fun k => l.length - 20 * k.1) ⟨0, by omega⟩ (incl_of (by simp only [go_sem] <;> simp)) ?_
  rintro ⟨k, hk⟩
  have e1 : ((20 * k + 20 : Nat) : Int) + 20 = ((20 * (k + 1) + 20 : Nat) : Int) := by omega
  simp only [go_sem]
  refine ⟨fun hle => ?_, fun hgt => ?_⟩
  · have hle' : 20 * k + 20 ≤ l.length := by simp only [decide_eq_true_eq] at hle; omega
    have hp := blkP_perm c l k hk
    refine vcCall_W 0 [.row 0, .val (.int .i64 (20 * k : Nat)), .val (.int .i64 (20 * k + 20 : Nat)), .val (cmpV G caps)] _ rfl rfl rfl
      (fun Z' hz _ => insertion_at Z' A cap l.length (blkP c l k) (20 * k) (20 * k + 20) (hc.grow hz) (fun x hx => hd x (hp.mem_iff.1 hx)) hp.length_eq (by omega) hle' hl) ?_
    rintro X rfl
    simp only [go_sem, e1]
    refine ⟨by unfold inI64; omega, ⟨k + 1, by omega⟩, ?_, ?_⟩
    · simp only []; omega
    · have e2 : insP c (20 * k) (20 * k + 20 - 20 * k) (blkP c l k) = blkP c l (k + 1) := by
        rw [show 20 * k + 20 - 20 * k = 20 by omega]; rfl
      rw [e2]
      exact incl_of (by simp only [go_sem, show 20 * (k + 1) = 20 * k + 20 by omega] <;> simp)
  · have hgt' : ¬ 20 * k + 20 ≤ l.length := by simp only [decide_eq_false_iff_not] at hgt; omega
    have hk' : k = l.length / 20 := by omega
    have hp := blkP_perm c l k hk
    refine vcCall_W 0 [.row 0, .val (.int .i64 (20 * k : Nat)), .val (.int .i64 l.length), .val (cmpV G caps)] _ rfl rfl rfl
      (fun Z' hz _ => insertion_at Z' A cap l.length (blkP c l k) (20 * k) l.length (hc.grow hz) (fun x hx => hd x (hp.mem_iff.1 hx)) hp.length_eq hk (Nat.le_refl _) hl) ?_
    intro X hX
    obtain ⟨l1, hl1, hX'⟩ : ∃ l1, l1 = insP c (20 * k) (l.length - 20 * k) (blkP c l k) ∧ X = icells l1 := ⟨_, rfl, hX⟩
    have hp1 : l1.Perm l := by rw [hl1]; exact (insP_perm c _ _ _ (by rw [hp.length_eq]; omega)).trans hp
    have hlen1 := hp1.length_eq
    have hfin : sortP c l = stbP c l.length 20 l1 := by rw [sortP, ← hk', ← hl1]
    subst hX'
    simp only [go_sem]
    refine vcLoop_intro (ι := StbI c l1 l.length 20)
      (fun u => ⟨[(6, .val (.int .i64 u.s)), (0, .row 0), (1, .val (.int .i64 l.length)), (2, .val (cmpV G caps))], [.row A cap 3 1 l.length (icells u.l)], Z⟩)
      (fun u => 1000 - u.s) ⟨l1, 20, l.length, .refl _, by omega, by omega, by omega, rfl⟩ (incl_of (by simp only [go_sem] <;> simp)) ?_
    rintro ⟨l2, s, f, hp2, hs, hs2, hf, he⟩
    have hlen2 := hp2.length_eq
    have e3 : (2 : Int) * (s : Int) = ((2 * s : Nat) : Int) := by omega
    simp only [go_sem, e3]
    have hd2 : ∀ x ∈ l2, dom x := fun x hx => hd x ((hp2.trans hp1).mem_iff.1 hx)
    refine ⟨fun hlt => ⟨by unfold inI64; omega, ?_⟩, fun hge => ?_⟩
    · have hlt' : s < l.length := by simp only [decide_eq_true_eq] at hlt; omega
      refine vcLoop_intro (ι := {k : Nat // 2 * s * k ≤ l.length})
        (fun k => ⟨[(6, .val (.int .i64 s)), (7, .val (.int .i64 (2 * s * k.1 : Nat))), (8, .val (.int .i64 (2 * s * k.1 + 2 * s : Nat))), (0, .row 0), (1, .val (.int .i64 l.length)), (2, .val (cmpV G caps))], [.row A cap 3 1 l.length (icells (mrgP c s l2 k.1))], Z⟩)
        (fun k => l.length - 2 * s * k.1) ⟨0, by omega⟩ (incl_of (by simp only [go_sem] <;> simp)) ?_
      rintro ⟨k2, hk2⟩
      have hpm := mrgP_perm c s l2 (by omega) k2 (by omega)
      have hlenm : (mrgP c s l2 k2).length = l.length := by rw [hpm.length_eq, hlen2, hlen1]
      have hdm : ∀ x ∈ mrgP c s l2 k2, dom x := fun x hx => hd2 x (hpm.mem_iff.1 hx)
      have hsucc : 2 * s * (k2 + 1) = 2 * s * k2 + 2 * s := by rw [Nat.mul_add, Nat.mul_one]
      have e5 : ((2 * s * k2 : Nat) : Int) + (s : Int) = ((2 * s * k2 + s : Nat) : Int) := by omega
      have e6 : ((2 * s * k2 + 2 * s : Nat) : Int) + ((2 * s : Nat) : Int) = ((2 * s * (k2 + 1) + 2 * s : Nat) : Int) := by omega
      have e7 : (s : Int) * 2 = ((s * 2 : Nat) : Int) := by omega
      simp only [go_sem, e3, e5]
      refine ⟨fun hle => ⟨by unfold inI64; omega, ?_⟩, fun hgt2 => ⟨by unfold inI64; omega, fun hm => ?_, fun hm => ?_⟩⟩
      · have hle' : 2 * s * k2 + 2 * s ≤ l.length := by simp only [decide_eq_true_eq] at hle; omega
        refine vcCall_W 0 [.row 0, .val (.int .i64 (2 * s * k2 : Nat)), .val (.int .i64 (2 * s * k2 + s : Nat)), .val (.int .i64 (2 * s * k2 + 2 * s : Nat)), .val (cmpV G caps)] _ rfl rfl rfl
          (fun Z' hz _ => sym_at (2 * s) Z' (mrgP c s l2 k2) (2 * s * k2) (2 * s * k2 + s) (2 * s * k2 + 2 * s) (hc.grow hz) hdm hlenm (by omega) (by omega) hle' hl (by omega)) ?_
        rintro X rfl
        simp only [go_sem, e3, e6]
        refine ⟨by unfold inI64; omega, by unfold inI64; omega, ⟨k2 + 1, by omega⟩, ?_, ?_⟩
        · simp only []; omega
        · exact incl_of (by simp only [go_sem, hsucc] <;> simp)
      all_goals
        have hgt' : ¬ 2 * s * k2 + 2 * s ≤ l.length := by simp only [decide_eq_false_iff_not] at hgt2; omega
        have hk3 : l2.length / (2 * s) = k2 := by
          rw [hlen2, hlen1]
          exact Nat.div_eq_of_lt_le (by rw [Nat.mul_comm]; omega) (by rw [Nat.mul_comm, hsucc]; omega)
        have hround : roundP c s l2 = if 2 * s * k2 + s < l.length then symP c (l.length - 2 * s * k2) (mrgP c s l2 k2) (2 * s * k2) (2 * s * k2 + s) l.length else mrgP c s l2 k2 := by
          unfold roundP; rw [hk3, hlen2, hlen1]
        have hrp := roundP_perm c s l2 (by omega)
        have hstep : stbP c (f - 1) (s * 2) (roundP c s l2) = stbP c l.length 20 l1 := by
          rw [← he]
          obtain ⟨f', rfl⟩ : ∃ f', f = f' + 1 := ⟨f - 1, by omega⟩
          simp only [stbP, Nat.add_sub_cancel]
          rw [if_pos (by omega)]
      · have hm' : 2 * s * k2 + s < l.length := by simp only [decide_eq_true_eq] at hm; omega
        refine vcCall_W 0 [.row 0, .val (.int .i64 (2 * s * k2 : Nat)), .val (.int .i64 (2 * s * k2 + s : Nat)), .val (.int .i64 l.length), .val (cmpV G caps)] _ rfl rfl rfl
          (fun Z' hz _ => sym_at (l.length - 2 * s * k2) Z' (mrgP c s l2 k2) (2 * s * k2) (2 * s * k2 + s) l.length (hc.grow hz) hdm hlenm (by omega) (by omega) (Nat.le_refl _) hl (by omega)) ?_
        rintro X rfl
        rw [if_pos hm'] at hround
        rw [← hround]
        simp only [go_sem, e7]
        refine ⟨by unfold inI64; omega, ⟨roundP c s l2, s * 2, f - 1, hrp.trans hp2, by omega, by omega, by omega, hstep⟩, ?_, ?_⟩
        · simp only []; omega
        · exact incl_of (by simp only [go_sem] <;> simp)
      · have hm' : ¬ 2 * s * k2 + s < l.length := by simp only [decide_eq_false_iff_not] at hm; omega
        rw [if_neg hm'] at hround
        rw [← hround]
        simp only [e7]
        refine ⟨by unfold inI64; omega, ⟨roundP c s l2, s * 2, f - 1, hrp.trans hp2, by omega, by omega, by omega, hstep⟩, ?_, ?_⟩
        · simp only []; omega
        · exact incl_of (by simp only [go_sem] <;> simp)
    · have hge' : ¬ s < l.length := by simp only [decide_eq_false_iff_not] at hge; omega
      refine ⟨_, [], rfl, ?_⟩
      rw [hfin, ← he]
      cases f with
      | zero => rfl
      | succ f => simp only [stbP]; rw [if_neg (by omega)]
end Go.Proofs.Yteanjjdgmjdfiaa
