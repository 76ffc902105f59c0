/- Bytes of numbers; the hash: what the code computes. -/
import Derived.Test.YtaecppimppeebaaDoorTy
namespace Go.Proofs.YtaecppimppeebaaDoor
open Go Go.SX

/-- numbers of one byte, as cells -/
abbrev u8s (l : List Int) : List Value := l.map (.int .u8)
theorem rds_sub {Z : Heap} {A : Option Addr} {xs vs : List Value} {k : Nat} (h : Rds Z A 0 xs) (hs : ∀ (j : Nat) (v : Value), vs[j]? = some v → xs[k + j]? = some v) : Rds Z A k vs := fun j v hv => by
  have := h _ _ (hs j v hv)
  rwa [Nat.zero_add] at this
theorem rds_u8 {Z : Heap} {A : Option Addr} {l : List Int} (h : Rds Z A 0 (u8s l)) {k : Nat} (hk : k < l.length) : Rds Z A k [.int .u8 (l.getD k 0)] :=
  rds_sub h fun j v hv => by
    match j, hv with
    | 0, hv => simp at hv; subst hv; simp [hk]
    | j + 1, hv => simp at hv

/-- eight bytes, the lowest first -/
def le8 (l : List Int) : Int :=
  let g (i : Nat) : Int := IntKind.u64.wrap (l.getD i 0)
  let sh (i k : Nat) : Int := IntKind.u64.wrap (g i * 2 ^ min k 64)
  bits .or .u64 (bits .or .u64 (bits .or .u64 (bits .or .u64 (bits .or .u64 (bits .or .u64 (bits .or .u64 (g 0) (sh 1 8)) (sh 2 16)) (sh 3 24)) (sh 4 32)) (sh 5 40)) (sh 6 48)) (sh 7 56)
set_option maxHeartbeats 4000000 in
set_option maxRecDepth 20000 in
theorem uint64_any (Z : Heap) (a : Addr) (l : List Int) (n c : Nat) (h : Rds Z (some a) 0 (u8s l)) (hl : 8 ≤ l.length) (hn : 8 ≤ n) :
    FnE Tryd.prog 73 [.agg #[], .slice (some a) n c] Z (.int .u64 (le8 l)) := by
  refine fnV_intro Tryd.func73 rfl (Nat.le_of_ble_eq_true rfl) ?_
  simp only [go_sem]
  exact ⟨by omega, _, rds_u8 h (k := 7) (by omega), by kernel_rfl, by omega, _, rds_u8 h (k := 0) (by omega), by omega, _, rds_u8 h (k := 1) (by omega), by omega, _, rds_u8 h (k := 2) (by omega),
    by omega, _, rds_u8 h (k := 3) (by omega), by omega, _, rds_u8 h (k := 4) (by omega), by omega, _, rds_u8 h (k := 5) (by omega), by omega, _, rds_u8 h (k := 6) (by omega), by omega, _, rds_u8 h (k := 7) (by omega), rfl⟩

/-- eight bytes, the highest first -/
def b8 (v : Int) (k : Nat) : UInt8 := UInt8.ofNat (IntKind.u8.wrap (v.fdiv (2 ^ min k 64))).toNat
def be8 (v : Int) : List UInt8 := [b8 v 56, b8 v 48, b8 v 40, b8 v 32, b8 v 24, b8 v 16, b8 v 8, UInt8.ofNat (IntKind.u8.wrap v).toNat]
theorem u8_wrap (n : Int) : IntKind.u8.wrap n = n % 256 := by
  simp [IntKind.wrap, IntKind.bits, IntKind.signed]
theorem u8_back (n : Int) : (((UInt8.ofNat (IntKind.u8.wrap n).toNat).toNat : Nat) : Int) = IntKind.u8.wrap n := by
  rw [u8_wrap]
  simp only [UInt8.toNat_ofNat']
  omega
theorem be8_cells (v : Int) : (be8 v).map byteV = [.int .u8 (IntKind.u8.wrap (v.fdiv (2 ^ min 56 64))), .int .u8 (IntKind.u8.wrap (v.fdiv (2 ^ min 48 64))), .int .u8 (IntKind.u8.wrap (v.fdiv (2 ^ min 40 64))), .int .u8 (IntKind.u8.wrap (v.fdiv (2 ^ min 32 64))),
    .int .u8 (IntKind.u8.wrap (v.fdiv (2 ^ min 24 64))), .int .u8 (IntKind.u8.wrap (v.fdiv (2 ^ min 16 64))), .int .u8 (IntKind.u8.wrap (v.fdiv (2 ^ min 8 64))), .int .u8 (IntKind.u8.wrap v)] := by
  simp only [be8, b8, List.map_cons, List.map_nil, byteV, u8_back]

set_option maxHeartbeats 4000000 in
set_option maxRecDepth 20000 in
theorem putUint64_any (Z : Heap) (b : Nat) (ty : TypeId) (x0 x1 x2 x3 x4 x5 x6 x7 : Value) (v : Int) :
    FnB Tryd.prog 50 [.val (.agg #[]), .sl 0 0 8 8, .val (.int .u64 v)] Z b [x0, x1, x2, x3, x4, x5, x6, x7] ty (· = (be8 v).map byteV) := by
  refine fnB_intro Tryd.func50 rfl (Nat.le_of_ble_eq_true rfl) ?_
  simp only [go_sem]
  intro b1
  exact ⟨by omega, by omega, by omega, by omega, by omega, by omega, by omega, by omega, by omega, (be8 v).map byteV, [.blk b1 [] _], by rw [be8_cells]; rfl, rfl⟩
set_option maxHeartbeats 4000000 in
set_option maxRecDepth 20000 in
theorem appendUint64_any (Z : Heap) (v : Int) :
    FnO Tryd.prog 56 [.agg #[], .slice none 0 0, .int .u64 v] Z 5 1 (fun n xs => n = 8 ∧ xs = (be8 v).map byteV) := by
  refine fnO_intro Tryd.func56 rfl (Nat.le_of_ble_eq_true rfl) ?_
  simp only [go_sem]
  intro b b1
  exact ⟨by decide, fun A' cap' => ⟨2, A', cap', 8, _, rfl, rfl, rfl, (be8_cells v).symm⟩⟩
set_option maxRecDepth 20000 in
theorem trimByte_any (Z : Heap) (l : List UInt8) (c : UInt8) :
    FnE Tryd.prog 65 [.string (bs l), .int .u8 c.toNat] Z (.string (bs (l.dropWhile (· == c)))) := by
  refine fnV_intro Tryd.func65 rfl (Nat.le_of_ble_eq_true rfl) ?_
  simp only [go_sem]
  refine vcLoop_intro (ι := {k : List UInt8 // k.dropWhile (· == c) = l.dropWhile (· == c)})
    (fun k => ⟨[(0, .val (.string (bs k.1))), (1, .val (.int .u8 c.toNat))], [], Z⟩)
    (fun k => k.1.length) ⟨l, rfl⟩ (incl_of (by simp only [go_sem])) ?_
  rintro ⟨k, hk⟩
  simp only [go_sem]
  cases k with
  | nil =>
    refine ⟨0, by simp, by simp, fun _ => ?_⟩
    rw [← hk]; rfl
  | cons x k =>
    refine ⟨x, by simp, fun hx => ⟨⟨by simp only [List.length_cons]; omega, Int.le_refl _⟩, ⟨k, ?_⟩, ?_, ?_⟩, fun hx => ?_⟩
    · rw [← hk]
      have : x = c := by
        simp only [Bool.and_eq_true, decide_eq_true_eq] at hx
        exact UInt8.toNat_inj.1 (by omega)
      subst this
      simp
    · simp only [List.length_cons]; omega
    · simp only [go_sem, List.drop_succ_cons, List.drop_zero]
      exact incl_of (by simp only [go_sem] <;> simp)
    · have hne : (x == c) = false := by
        simp only [List.length_cons, Bool.and_eq_false_iff, decide_eq_false_iff_not] at hx
        rcases hx with hx | hx
        · omega
        · simp only [beq_eq_false_iff_ne]
          intro e; subst e; exact hx rfl
      rw [← hk, List.dropWhile_cons, hne]
      rfl

set_option maxRecDepth 20000 in
theorem trimLeft_any (Z : Heap) (l : List UInt8) : FnE Tryd.prog 57 [.string (bs l), .string (bs [0])] Z (.string (bs (l.dropWhile (· == 0)))) := by
  refine fnV_intro Tryd.func57 rfl (Nat.le_of_ble_eq_true rfl) ?_
  simp only [go_sem]
  refine ⟨fun h => ?_, fun _ => ⟨0, fun _ => rfl, fun _ => ?_, fun h => ?_⟩⟩
  · have : l = [] := by simpa using h
    subst this; rfl
  · refine vcCall_E _ rfl (trimByte_any _ l 0) ?_
    simp only [go_sem]
  · simp at h

/-- the digits of a number -/
def digP (n : Int) : List UInt8 := (be8 n).dropWhile (· == 0)
set_option maxRecDepth 20000 in
theorem digits_any (Z : Heap) (n : Int) : FnE Tryd.prog 43 [.int .u64 n] Z (.string (bs (digP n))) := by
  refine fnV_intro Tryd.func43 rfl (Nat.le_of_ble_eq_true rfl) ?_
  simp only [go_sem]
  refine vcCall_O _ rfl (appendUint64_any _ n) ?_
  rintro A cap m xs ⟨rfl, rfl⟩
  simp only [go_sem]
  refine ⟨be8 n, ⟨rfl, rfl⟩, ?_⟩
  refine vcCall_E _ rfl (trimLeft_any _ (be8 n)) ?_
  simp only [go_sem]
  rfl
theorem digP_len (n : Int) : (digP n).length ≤ 8 := List.Sublist.length_le (List.dropWhile_sublist _)
/-- a number, written -/
def putP (n : Int) : List UInt8 := UInt8.ofNat (digP n).length :: digP n
set_option maxRecDepth 20000 in
theorem put_any (Z : Heap) (n : Int) : FnE Tryd.prog 26 [.int .u64 n] Z (.string (bs (putP n))) := by
  refine fnV_intro Tryd.func26 rfl (Nat.le_of_ble_eq_true rfl) ?_
  simp only [go_sem]
  refine vcCall_E _ rfl (digits_any _ n) ?_
  simp only [go_sem]
  have hl := digP_len n
  refine ⟨[UInt8.ofNat (digP n).length], ⟨rfl, ?_⟩, by simp only [List.length_cons, List.length_nil]; omega, rfl⟩
  simp only [List.map_cons, List.map_nil, byteV]
  rw [u8_wrap, UInt8.toNat_ofNat']
  congr 3

/-- eight bits further -/
def valP (l : List UInt8) : Int := l.foldl (fun x c => bits .or .u64 (IntKind.u64.wrap (x * 2 ^ min 8 64)) (c.toNat : Int)) 0
theorem valP_snoc (l : List UInt8) (k : Nat) (h : k < l.length) : valP (l.take (k + 1)) = bits .or .u64 (IntKind.u64.wrap (valP (l.take k) * 2 ^ min 8 64)) (l[k].toNat : Int) := by
  rw [List.take_succ_eq_append_getElem h, valP, List.foldl_append]; rfl
set_option maxRecDepth 20000 in
theorem value_any (Z : Heap) (l : List UInt8) (hl : l.length ≤ 1000000) : FnE Tryd.prog 54 [.string (bs l)] Z (.int .u64 (valP l)) := by
  refine fnV_intro Tryd.func54 rfl (Nat.le_of_ble_eq_true rfl) ?_
  simp only [go_sem]
  refine vcLoop_intro (ι := {k : Nat // k ≤ l.length})
    (fun k => ⟨[(7, .val (.int .i64 k.1)), (6, .val (.int .i64 l.length)), (3, .val (.int .u64 (valP (l.take k.1)))), (0, .val (.string (bs l)))], [], Z⟩)
    (fun k => l.length - k.1) ⟨0, by omega⟩ (incl_of (by simp only [go_sem] <;> simp [valP])) ?_
  rintro ⟨k, hk⟩
  simp only [go_sem]
  refine ⟨fun hlt => ?_, fun hge => ?_⟩
  · have hlt' : k < l.length := by simpa using hlt
    refine ⟨l[k], ⟨by omega, List.getElem?_eq_getElem hlt'⟩, by unfold inI64; omega, ⟨k + 1, by omega⟩, ?_, ?_⟩
    · simp only []; omega
    · simp only [valP_snoc l k hlt']
      exact incl_of (by simp only [go_sem] <;> simp)
  · have hk' : k = l.length := by
      have : ¬ k < l.length := by simpa using hge
      omega
    subst hk'
    rw [List.take_length]

/-- a number, read: the number, how many bytes, what went wrong -/
def getP (l : List UInt8) : Int × Int × Int :=
  match l with
  | [] => (0, 0, 3)
  | c :: r => if 8 < c.toNat then (0, 0, 4) else if r.length < c.toNat then (0, 0, 3) else if 0 < c.toNat ∧ r.head? = some 0 then (0, 0, 4) else (valP (r.take c.toNat), 1 + (c.toNat : Int), 0)
set_option maxHeartbeats 1000000 in
set_option maxRecDepth 20000 in
theorem get_any (Z : Heap) (l : List UInt8) (hl : l.length ≤ 140737488355328) : FnE Tryd.prog 39 [.string (bs l)] Z (.tuple #[.int .u64 (getP l).1, .int .i64 (getP l).2.1, .int .i64 (getP l).2.2]) := by
  refine fnV_intro Tryd.func39 rfl (Nat.le_of_ble_eq_true rfl) ?_
  simp only [go_sem]
  cases l with
  | nil => exact ⟨fun _ => rfl, fun h => by simp at h⟩
  | cons c r =>
    have hc := c.toNat_lt
    refine ⟨fun h => by simp at h, fun _ => ⟨c, rfl, fun h8 => ?_, fun h8 => ⟨by unfold inI64; omega, fun hs => ?_, fun hs => ?_⟩⟩⟩
    · have h8' : 8 < c.toNat := by simp at h8; omega
      simp only [getP, if_pos h8']
    · have h8' : ¬ 8 < c.toNat := by simp at h8; omega
      have hs' : r.length < c.toNat := by simp at hs; omega
      simp only [getP, if_neg h8', if_pos hs']
    · have h8' : ¬ 8 < c.toNat := by simp at h8; omega
      have hs' : ¬ r.length < c.toNat := by simp at hs; omega
      have hcall : ∀ (K : SS → Prop) (s : SS), s.Z = Z → kPut 35 (some 32) s K (.val (.int .u64 (valP (r.take c.toNat)))) → vcCall Tryd.prog 35 (some 32) 54 [.val (.string (bs (List.drop 1 (List.take (1 + (c.toNat : Int)).toNat (c :: r)))))] s K := by
        intro K s hZ hk
        have e : List.drop 1 (List.take (1 + (c.toNat : Int)).toNat (c :: r)) = r.take c.toNat := by
          have : (1 + (c.toNat : Int)).toNat = c.toNat + 1 := by omega
          rw [this]; rfl
        rw [e]
        refine vcCall_E _ rfl ?_ hk
        exact value_any _ _ (by simp; omega)
      refine ⟨(r.head?).getD 0, fun hp => ?_, fun hz => ?_, fun hz => ?_⟩
      · cases r with
        | nil => simp at hp hs'; omega
        | cons d r => rfl
      · have hz' : 0 < c.toNat ∧ r.head? = some 0 := by
          simp only [Bool.and_eq_true, decide_eq_true_eq] at hz
          cases r with
          | nil => simp at hs'; omega
          | cons d r =>
            refine ⟨by omega, ?_⟩
            simp only [List.head?_cons, Option.getD_some] at hz ⊢
            rw [UInt8.toNat_inj.1 (show d.toNat = (0 : UInt8).toNat by have : (0 : UInt8).toNat = 0 := rfl
                                                                       omega)]
        simp only [getP, if_neg h8', if_neg hs', if_pos hz']
      · have hz' : ¬ (0 < c.toNat ∧ r.head? = some 0) := by
          rintro ⟨h1, h2⟩
          simp only [h2, Option.getD_some, Bool.and_eq_false_iff, decide_eq_false_iff_not] at hz
          rcases hz with hz | hz
          · omega
          · exact hz rfl
        refine ⟨by unfold inI64; omega, ⟨by omega, by simp only [List.length_cons]; omega⟩, ?_⟩
        refine hcall _ _ rfl ?_
        simp only [go_sem]
        refine ⟨by unfold inI64; omega, ?_⟩
        simp only [getP, if_neg h8', if_neg hs', if_neg hz']

theorem wrap_len {n : Nat} (h : n ≤ 140737488355328) : IntKind.u64.wrap (n : Int) = n := by
  simp [IntKind.wrap, IntKind.bits, IntKind.signed]; omega
/-- one step of the hash -/
def stepP (x b : Int) : Int :=
  let z := IntKind.u64.wrap (bits .xor .u64 x b * 11400714819323198485)
  let z := IntKind.u64.wrap (bits .xor .u64 z (z.fdiv (2 ^ min 29 64)) * 13787848793156543929)
  bits .xor .u64 z (z.fdiv (2 ^ min 32 64))
set_option maxRecDepth 20000 in
theorem step_any (Z : Heap) (x b : Int) : FnE Tryd.prog 72 [.int .u64 x, .int .u64 b] Z (.int .u64 (stepP x b)) := by
  refine fnV_intro Tryd.func72 rfl (Nat.le_of_ble_eq_true rfl) ?_
  simp only [go_sem]
  rfl
/-- the first eight bytes, as a number -/
def blkI (l : List UInt8) : Int := le8 ((l.take 8).map (fun c => (c.toNat : Int)) ++ (List.replicate 8 0).drop (min l.length 8))
def sumP (mask : Int) : Nat → List UInt8 → Int → Int
  | 0, _, x => x
  | f + 1, l, x => if l = [] then x else sumP mask f (l.drop 8) (bits .and .u64 (stepP x (blkI l)) mask)
structure SumI (mask : Int) (l0 : List UInt8) (f0 : Nat) where
  l : List UInt8
  x : Int
  f : Nat
  hf : l.length ≤ f
  hle : l.length ≤ l0.length
  he : sumP mask f l x = sumP mask f0 l0 0
set_option maxHeartbeats 1000000 in
set_option maxRecDepth 20000 in
theorem sum_any (Z : Heap) (l : List UInt8) (mask : Int) (hl : l.length ≤ 140737488355328) : FnE Tryd.prog 61 [.string (bs l), .int .u64 mask] Z (.int .u64 (bits .and .u64 (stepP (sumP mask l.length l 0) l.length) mask)) := by
  refine fnV_intro Tryd.func61 rfl (Nat.le_of_ble_eq_true rfl) ?_
  simp only [go_sem]
  refine vcLoop_intro (ι := SumI mask l l.length)
    (fun u => ⟨[(0, .val (.string (bs u.l))), (5, .val (.int .u64 u.x)), (6, .val (.int .u64 (IntKind.u64.wrap l.length))), (1, .val (.int .u64 mask))], [], Z⟩)
    (fun u => u.l.length) ⟨l, 0, l.length, Nat.le_refl _, Nat.le_refl _, rfl⟩ (incl_of (by simp only [go_sem] <;> simp)) ?_
  rintro ⟨k, x, f, hf, hle, he⟩
  simp only [go_sem]
  refine ⟨fun hne => fun b => ?_, fun hnil => ?_⟩
  · have hne' : k ≠ [] := by simpa using hne
    have hpos : 0 < k.length := List.length_pos_iff.2 hne'
    have ecells : List.map byteV (List.take 8 k) ++ List.drop (min k.length 8) (u8s (List.replicate 8 0)) = u8s ((k.take 8).map (fun c => (c.toNat : Int)) ++ (List.replicate 8 0).drop (min k.length 8)) := by
      simp only [List.map_append, List.map_map, List.map_drop]
      rfl
    have elen : ((k.take 8).map (fun c => (c.toNat : Int)) ++ (List.replicate 8 (0 : Int)).drop (min k.length 8)).length = 8 := by
      simp; omega
    refine ⟨by omega, by omega, u8s (List.replicate 8 0), rfl, ⟨by omega, by omega, by omega⟩, by kernel_rfl, by omega, by omega, ?_⟩
    rw [ecells]
    refine vcCallX_frz (r := .int .u64 (blkI k)) [.agg #[], .slice (some ⟨b, 0, none⟩) 8 8] rfl (fun Z' hz hf => uint64_any Z' ⟨b, 0, none⟩ _ 8 8 (rds_frz hf.1) (by omega) (by omega)) ?_
    simp only [go_sem]
    refine vcCallX_E _ rfl (step_any _ _ _) ?_
    simp only [go_sem]
    obtain ⟨f, rfl⟩ : ∃ f', f = f' + 1 := ⟨f - 1, by omega⟩
    refine ⟨⟨k.drop 8, bits .and .u64 (stepP x (blkI k)) mask, f, by simp; omega, by simp; omega, ?_⟩, ?_, ?_⟩
    · rw [← he]
      simp only [sumP, if_neg hne']
    · simp only [List.length_drop]; omega
    · have e : List.drop (min k.length 8) k = List.drop 8 k := by
        by_cases h8 : 8 ≤ k.length
        · rw [Nat.min_eq_right h8]
        · rw [Nat.min_eq_left (by omega), List.drop_length, List.drop_of_length_le (by omega)]
      rw [e]
      exact incl_take 0 rfl (by simp only [go_sem] <;> simp) (by simp only [go_sem]) (by simp only [go_sem])
  · have hnil' : k = [] := by simpa using hnil
    subst hnil'
    have hs : sumP mask f [] x = x := by cases f <;> simp [sumP]
    rw [hs] at he
    refine vcCall_E _ rfl (step_any _ _ _) ?_
    simp only [go_sem]
    have hw : IntKind.u64.wrap (l.length : Int) = l.length := by
      simp [IntKind.wrap, IntKind.bits, IntKind.signed]; omega
    rw [hw, he]

/-- the digest of some bytes -/
def hashP (l : List UInt8) : Int := bits .and .u64 (stepP (sumP 18446744073709551615 l.length l 0) l.length) 18446744073709551615
def idP (l : List UInt8) : List UInt8 := be8 (hashP l)
@[go_sem] theorem idP_len (l : List UInt8) : (idP l).length = 8 := rfl
@[go_sem] theorem idP_take (l : List UInt8) : (idP l).take 8 = idP l := rfl
abbrev idV (l : List UInt8) : Value := .agg ((idP l).map byteV).toArray
set_option maxRecDepth 20000 in
theorem hash_any (Z : Heap) (l : List UInt8) (hl : l.length ≤ 140737488355328) : FnE Tryd.prog 51 [.string (bs l)] Z (.int .u64 (hashP l)) := by
  refine fnV_intro Tryd.func51 rfl (Nat.le_of_ble_eq_true rfl) ?_
  simp only [go_sem]
  refine vcCall_E _ rfl (sum_any _ l _ hl) ?_
  simp only [go_sem]
  rfl
set_option maxHeartbeats 1000000 in
set_option maxRecDepth 20000 in
theorem id_any (Z : Heap) (l : List UInt8) (hl : l.length ≤ 140737488355328) : FnE Tryd.prog 34 [.string (bs l)] Z (.agg ((idP l).map byteV).toArray) := by
  refine fnV_intro Tryd.func34 rfl (Nat.le_of_ble_eq_true rfl) ?_
  simp only [go_sem]
  intro b b1
  refine vcDrawE_intro 3 [(0, 0), (1, 0), (2, 0), (3, 0), (4, 2)] (of_eq_true Tryd.mixed) (by kernel_rfl) (by simp only [go_sem]) ?_
  simp only [go_sem]
  refine ⟨by omega, by omega, ?_⟩
  refine vcCallX_E _ rfl (hash_any _ l hl) ?_
  simp only [go_sem]
  refine vcCall_B 1 [.int .u8 0, .int .u8 0, .int .u8 0, .int .u8 0, .int .u8 0, .int .u8 0, .int .u8 0, .int .u8 0] [.val (.agg #[]), .sl 0 0 8 8, .val (.int .u64 (hashP l))] _ rfl rfl rfl rfl
    (fun Z' _ _ => putUint64_any Z' b1 _ _ _ _ _ _ _ _ _ (hashP l)) ?_
  rintro new rfl
  simp only [go_sem, be8_cells]
  rw [idP, be8_cells]

/-! packs -/
def knownP (k : Int) : Bool := decide (1 ≤ k) && decide (k ≤ 3)
set_option maxRecDepth 20000 in
theorem packKnown_any (Z : Heap) (k : Int) : FnE Tryd.prog 23 [.int .i64 k] Z (.bool (knownP k)) := by
  refine fnV_intro Tryd.func23 rfl (Nat.le_of_ble_eq_true rfl) ?_
  simp only [go_sem]
  rfl
/-- what is hashed of a blob -/
def blobT (k : Int) (l : List UInt8) : List UInt8 := UInt8.ofNat (IntKind.u8.wrap k).toNat :: l
def pidP (k : Int) (l : List UInt8) : Int := if knownP k then (if 4096 < l.length then 2 else 0) else 5
def pidV (k : Int) (l : List UInt8) : Value := .agg (if pidP k l = 0 then (idP (blobT k l)).map byteV else List.replicate 8 (.int .u8 0)).toArray
set_option maxHeartbeats 1000000 in
set_option maxRecDepth 20000 in
theorem packId_any (Z : Heap) (k : Int) (l : List UInt8) : FnE Tryd.prog 18 [.agg #[.int .i64 k, .string (bs l)]] Z (.tuple #[pidV k l, .int .i64 (pidP k l)]) := by
  refine fnV_intro Tryd.func18 rfl (Nat.le_of_ble_eq_true rfl) ?_
  simp only [go_sem]
  intro b b1
  refine vcCall_E _ rfl (packKnown_any _ k) ?_
  simp only [go_sem]
  refine ⟨fun hn => ?_, fun hk => ⟨fun hl => ?_, fun hl => ?_⟩⟩
  · have hk : knownP k = false := by simpa using hn
    simp only [pidV, pidP, hk]
    rfl
  · have hk : knownP k = true := by simpa using hk
    have hl : 4096 < l.length := by simp at hl; omega
    simp only [pidV, pidP, hk, if_pos hl]
    rfl
  · have hk : knownP k = true := by simpa using hk
    have hl : ¬ 4096 < l.length := by simp at hl; omega
    intro b2
    refine ⟨[UInt8.ofNat (IntKind.u8.wrap k).toNat], ⟨rfl, ?_⟩, by simp only [List.length_cons, List.length_nil]; omega, ?_⟩
    · simp only [List.map_cons, List.map_nil, byteV, u8_back]
    refine vcCall_E _ rfl (id_any _ (blobT k l) (by simp [blobT]; omega)) ?_
    simp only [go_sem]
    simp only [pidV, pidP, hk, if_neg hl]
    rfl
/-- a record's frame -/
def frameT (l : List UInt8) : List UInt8 := putP l.length ++ l
def frameP (l : List UInt8) : List UInt8 := frameT l ++ idP (frameT l)
set_option maxHeartbeats 1000000 in
set_option maxRecDepth 20000 in
theorem frame_any (Z : Heap) (l : List UInt8) (hl : l.length ≤ 140737488355328) :
    FnE Tryd.prog 19 [.string (bs l)] Z (if 4096 < l.length then .tuple #[.string (bs []), .int .i64 2] else .tuple #[.string (bs (frameP l)), .int .i64 0]) := by
  refine fnV_intro Tryd.func19 rfl (Nat.le_of_ble_eq_true rfl) ?_
  simp only [go_sem]
  refine ⟨fun hb => ?_, fun hb => ?_⟩
  · have hb : 4096 < l.length := by simp at hb; omega
    rw [if_pos hb]
  · have hb : ¬ 4096 < l.length := by simp at hb; omega
    rw [if_neg hb, wrap_len (by omega)]
    have hd := digP_len l.length
    refine vcCall_E _ rfl (put_any _ l.length) ?_
    simp only [go_sem]
    refine ⟨by simp only [putP, List.length_cons]; omega, ?_⟩
    refine vcCall_E _ rfl (id_any _ (frameT l) (by simp [frameT, putP]; omega)) ?_
    simp only [go_sem]
    exact ⟨by omega, by omega, idP (frameT l), ⟨rfl, rfl⟩, by simp only [putP, List.length_cons, idP_len]; omega, rfl⟩
end Go.Proofs.YtaecppimppeebaaDoor
