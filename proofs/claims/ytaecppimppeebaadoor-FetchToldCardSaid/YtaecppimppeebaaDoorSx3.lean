/- A small layer for proofs about calls, part 3: operators on plain values. -/
import Derived.Test.YtaecppimppeebaaDoorSx2
import Derived.Laws.FloatArith
import Derived.Laws.StructEq
namespace Go.SX
open Go

/-- bytes as a string's bytes -/
abbrev bs (l : List UInt8) : ByteArray := ⟨l.toArray⟩

/-- 'G →' of a condition: under which the operation runs at all -/
def inI64 (n : Int) : Prop := -9223372036854775808 ≤ n ∧ n ≤ 9223372036854775807

/-- the equality of the type t says r of two aggregates -/
def EqT (P : Program) (t : TypeId) (v u : Value) (r : Bool) : Prop :=
  P.eqGuardType P.depth t = false ∧ ∀ w, (Op.equalIn 10000 t v u).run P w = .ok r w
def vBin (P : Program) (G : Prop) (o : BinOp) (t : TypeId) (v u : Value) (k : Value → Prop) : Prop :=
  match o, v, u with
  | .shl, .int kd a, .int _ b => (G → 0 ≤ b) ∧ k (.int kd (kd.wrap (a * 2 ^ (min b.toNat kd.bits))))
  | .shr, .int kd a, .int _ b => (G → 0 ≤ b) ∧ k (.int kd (a.fdiv (2 ^ (min b.toNat kd.bits))))
  | .add, .int .i64 a, .int .i64 b => (G → inI64 (a + b)) ∧ k (.int .i64 (a + b))
  | .sub, .int .i64 a, .int .i64 b => (G → inI64 (a - b)) ∧ k (.int .i64 (a - b))
  | .mul, .int .i64 a, .int .i64 b => (G → inI64 (a * b)) ∧ k (.int .i64 (a * b))
  | .add, .int kd a, .int kd' b => kd = kd' ∧ k (.int kd (kd.wrap (a + b)))
  | .sub, .int kd a, .int kd' b => kd = kd' ∧ k (.int kd (kd.wrap (a - b)))
  | .mul, .int kd a, .int kd' b => kd = kd' ∧ k (.int kd (kd.wrap (a * b)))
  | .quo, .int kd a, .int kd' b => kd = kd' ∧ (G → b ≠ 0) ∧ k (.int kd (kd.wrap (a.tdiv b)))
  | .rem, .int kd a, .int kd' b => kd = kd' ∧ (G → b ≠ 0) ∧ k (.int kd (a.tmod b))
  | .and, .int kd a, .int kd' b => kd = kd' ∧ k (.int kd (bits .and kd a b))
  | .or, .int kd a, .int kd' b => kd = kd' ∧ k (.int kd (bits .or kd a b))
  | .xor, .int kd a, .int kd' b => kd = kd' ∧ k (.int kd (bits .xor kd a b))
  | .andNot, .int kd a, .int kd' b => kd = kd' ∧ k (.int kd (bits .andNot kd a b))
  | .eql, .int kd a, .int kd' b => kd = kd' ∧ k (.bool (decide (a = b)))
  | .neq, .int kd a, .int kd' b => kd = kd' ∧ k (.bool (!decide (a = b)))
  | .lss, .int kd a, .int kd' b => kd = kd' ∧ k (.bool (decide (a < b)))
  | .leq, .int kd a, .int kd' b => kd = kd' ∧ k (.bool (decide (a ≤ b)))
  | .gtr, .int kd a, .int kd' b => kd = kd' ∧ k (.bool (decide (b < a)))
  | .geq, .int kd a, .int kd' b => kd = kd' ∧ k (.bool (decide (b ≤ a)))
  | .quo, .float kd a, .float kd' b => kd = kd' ∧ ∃ r, (G → kd.format.div a b = some r) ∧ k (.float kd r)
  | .eql, .float kd a, .float kd' b => kd = kd' ∧ k (.bool (kd.format.order a b == some .eq))
  | .neq, .float kd a, .float kd' b => kd = kd' ∧ k (.bool (kd.format.order a b != some .eq))
  | .lss, .float kd a, .float kd' b => kd = kd' ∧ k (.bool (kd.format.order a b == some .lt))
  | .leq, .float kd a, .float kd' b => kd = kd' ∧ k (.bool (kd.format.order a b == some .lt || kd.format.order a b == some .eq))
  | .gtr, .float kd a, .float kd' b => kd = kd' ∧ k (.bool (kd.format.order a b == some .gt))
  | .geq, .float kd a, .float kd' b => kd = kd' ∧ k (.bool (kd.format.order a b == some .gt || kd.format.order a b == some .eq))
  | .add, .string a, .string b => (G → ((a.size + b.size : Nat) : Int) ≤ 9223372036854775807) ∧ k (.string (a ++ b))
  | .eql, .string a, .string b => k (.bool (decide (a.data.toList = b.data.toList)))
  | .neq, .string a, .string b => k (.bool (!decide (a.data.toList = b.data.toList)))
  | .lss, .string a, .string b => k (.bool (Op.bytesLess a.data.toList b.data.toList))
  | .leq, .string a, .string b => k (.bool (Op.bytesLess a.data.toList b.data.toList || decide (a.data.toList = b.data.toList)))
  | .gtr, .string a, .string b => k (.bool (!(Op.bytesLess a.data.toList b.data.toList || decide (a.data.toList = b.data.toList))))
  | .geq, .string a, .string b => k (.bool (!(Op.bytesLess a.data.toList b.data.toList)))
  | .eql, .bool a, .bool b => P.underlying t = some .bool ∧ k (.bool (a == b))
  | .neq, .bool a, .bool b => P.underlying t = some .bool ∧ k (.bool (!(a == b)))
  | .eql, .agg a, .agg b => ∃ r, EqT P t (.agg a) (.agg b) r ∧ k (.bool r)
  | .neq, .agg a, .agg b => ∃ r, EqT P t (.agg a) (.agg b) r ∧ k (.bool (!r))
  | _, _, _ => False

theorem beq_dec {α : Type} [BEq α] [LawfulBEq α] [DecidableEq α] (a b : α) : (a == b) = decide (a = b) := by
  by_cases h : a = b
  · subst h; simp
  · simp [h]

theorem wrap_in {n : Int} (h : inI64 n) : IntKind.i64.wrap n = n := by
  have := h.1; have := h.2
  simp only [IntKind.wrap, IntKind.bits, IntKind.signed]
  simp
  omega

theorem run_equalIn_bool {P : Program} {t : TypeId} (ht : P.underlying t = some .bool) (d : Nat) (a b : Bool) (w : World) :
    (Op.equalIn (d + 1) t (.bool a) (.bool b)).run P w = .ok (a == b) w := by
  simp [Op.equalIn, run_underlying ht]

theorem vBin_sound {P : Program} {G : Prop} {o : BinOp} {t : TypeId} {v u : Value} {k : Value → Prop} (h : vBin P G o t v u k) :
    ∃ x, k x ∧ (G → ∀ w, (binOp o t v u).run P w = .ok x w) := by
  unfold vBin at h
  split at h
  case h_1 kd a kd' b => exact ⟨_, h.2, fun g w => by have := h.1 g; simp [binOp, Op.shift, show ¬ b < 0 by omega]⟩
  case h_2 kd a kd' b => exact ⟨_, h.2, fun g w => by have := h.1 g; simp [binOp, Op.shift, show ¬ b < 0 by omega]⟩
  case h_3 a b => exact ⟨_, h.2, fun g w => by simp [binOp, Op.intArith, wrap_in (h.1 g)]⟩
  case h_4 a b => exact ⟨_, h.2, fun g w => by simp [binOp, Op.intArith, wrap_in (h.1 g)]⟩
  case h_5 a b => exact ⟨_, h.2, fun g w => by simp [binOp, Op.intArith, wrap_in (h.1 g)]⟩
  case h_6 => obtain ⟨rfl, h⟩ := h; exact ⟨_, h, fun g w => by simp [binOp, Op.intArith]⟩
  case h_7 => obtain ⟨rfl, h⟩ := h; exact ⟨_, h, fun g w => by simp [binOp, Op.intArith]⟩
  case h_8 => obtain ⟨rfl, h⟩ := h; exact ⟨_, h, fun g w => by simp [binOp, Op.intArith]⟩
  case h_9 => obtain ⟨rfl, h1, h⟩ := h; exact ⟨_, h, fun g w => by simp [binOp, Op.intDiv, h1 g]⟩
  case h_10 => obtain ⟨rfl, h1, h⟩ := h; exact ⟨_, h, fun g w => by simp [binOp, Op.intDiv, h1 g]⟩
  case h_11 => obtain ⟨rfl, h⟩ := h; exact ⟨_, h, fun g w => by simp [binOp, Op.intBits, bits]⟩
  case h_12 => obtain ⟨rfl, h⟩ := h; exact ⟨_, h, fun g w => by simp [binOp, Op.intBits, bits]⟩
  case h_13 => obtain ⟨rfl, h⟩ := h; exact ⟨_, h, fun g w => by simp [binOp, Op.intBits, bits]⟩
  case h_14 => obtain ⟨rfl, h⟩ := h; exact ⟨_, h, fun g w => by simp [binOp, Op.intBits, bits]⟩
  case h_15 => obtain ⟨rfl, h⟩ := h; exact ⟨_, h, fun g w => by simp [binOp, Op.intCmp, beq_dec]⟩
  case h_16 => obtain ⟨rfl, h⟩ := h; exact ⟨_, h, fun g w => by simp [binOp, Op.intCmp, bne, beq_dec]⟩
  case h_17 => obtain ⟨rfl, h⟩ := h; exact ⟨_, h, fun g w => by simp [binOp, Op.intCmp]⟩
  case h_18 => obtain ⟨rfl, h⟩ := h; exact ⟨_, h, fun g w => by simp [binOp, Op.intCmp]⟩
  case h_19 => obtain ⟨rfl, h⟩ := h; exact ⟨_, h, fun g w => by simp [binOp, Op.intCmp]⟩
  case h_20 => obtain ⟨rfl, h⟩ := h; exact ⟨_, h, fun g w => by simp [binOp, Op.intCmp]⟩
  case h_21 => obtain ⟨rfl, r, h1, h⟩ := h; exact ⟨_, h, fun g w => by simp [binOp, Op.floatArith, h1 g]⟩
  case h_22 => obtain ⟨rfl, h⟩ := h; exact ⟨_, h, fun g w => by simp [binOp, Op.floatCmp]⟩
  case h_23 => obtain ⟨rfl, h⟩ := h; exact ⟨_, h, fun g w => by simp [binOp, Op.floatCmp]⟩
  case h_24 => obtain ⟨rfl, h⟩ := h; exact ⟨_, h, fun g w => by simp [binOp, Op.floatCmp]⟩
  case h_25 => obtain ⟨rfl, h⟩ := h; exact ⟨_, h, fun g w => by simp [binOp, Op.floatCmp]⟩
  case h_26 => obtain ⟨rfl, h⟩ := h; exact ⟨_, h, fun g w => by simp [binOp, Op.floatCmp]⟩
  case h_27 => obtain ⟨rfl, h⟩ := h; exact ⟨_, h, fun g w => by simp [binOp, Op.floatCmp]⟩
  case h_28 =>
    refine ⟨_, h.2, fun g w => ?_⟩
    have h1 := h.1 g
    have hm : IntKind.i64.max = 9223372036854775807 := by decide
    simp only [binOp, Op.stringOp, hm]
    rw [if_neg (by omega)]
    simp
  case h_29 => exact ⟨_, h, fun g w => by simp [binOp, Op.stringOp, ByteArray.toList_eq, beq_dec]⟩
  case h_30 => exact ⟨_, h, fun g w => by simp [binOp, Op.stringOp, ByteArray.toList_eq, beq_dec]⟩
  case h_31 => exact ⟨_, h, fun g w => by simp [binOp, Op.stringOp, ByteArray.toList_eq]⟩
  case h_32 => exact ⟨_, h, fun g w => by simp [binOp, Op.stringOp, ByteArray.toList_eq, beq_dec]⟩
  case h_33 => exact ⟨_, h, fun g w => by simp [binOp, Op.stringOp, ByteArray.toList_eq, beq_dec]⟩
  case h_34 => exact ⟨_, h, fun g w => by simp [binOp, Op.stringOp, ByteArray.toList_eq]⟩
  case h_35 a b => exact ⟨_, h.2, fun g w => by simp only [binOp, Op.equal, Op.maxDepth, Sem.run_bind, run_equalIn_bool h.1 9999 a b w]; rfl⟩
  case h_36 a b => exact ⟨_, h.2, fun g w => by simp only [binOp, Op.equal, Op.maxDepth, Sem.run_bind, run_equalIn_bool h.1 9999 a b w]; rfl⟩
  case h_37 a b => obtain ⟨r, h1, h⟩ := h; exact ⟨_, h, fun g w => by rw [run_eql_struct, h1.2]; rfl⟩
  case h_38 a b => obtain ⟨r, h1, h⟩ := h; exact ⟨_, h, fun g w => by rw [run_neq_struct, h1.2]; rfl⟩
  case h_39 => exact h.elim

def vUn (G : Prop) (o : UnOp) (v : Value) (k : Value → Prop) : Prop :=
  match o, v with
  | .not, .bool b => k (.bool (!b))
  | .neg, .int .i64 n => (G → inI64 (0 - n)) ∧ k (.int .i64 (0 - n))
  | .neg, .int kd n => k (.int kd (kd.wrap (0 - n)))
  | .xor, .int kd n => k (.int kd (bits .xor kd (if kd.signed then -1 else kd.max) n))
  | _, _ => False
theorem vUn_sound {P : Program} {G : Prop} {o : UnOp} {v : Value} {k : Value → Prop} (h : vUn G o v k) : ∃ x, k x ∧ (G → ∀ w, (Op.unary o v).run P w = .ok x w) := by
  unfold vUn at h
  split at h
  case h_1 => exact ⟨_, h, fun g w => by simp [Op.unary]⟩
  case h_2 => exact ⟨_, h.2, fun g w => by simp only [Op.unary, Op.intArith, Sem.run_pure, wrap_in (h.1 g)]⟩
  case h_3 => exact ⟨_, h, fun g w => by simp [Op.unary, Op.intArith]⟩
  case h_4 => exact ⟨_, h, fun g w => by simp only [Op.unary, Op.intBits, bits, Sem.run_pure]⟩
  case h_5 => exact h.elim

def vConvI (n : Int) (d : Option TypeDesc) (k : Value → Prop) : Prop :=
  match d with
  | some (.int kd) => k (.int kd (kd.wrap n))
  | some (.float kd) => k (.float kd (kd.nearest n))
  | _ => False
def vConv (P : Program) (src dst : TypeId) (v : Value) (k : Value → Prop) : Prop :=
  match v with
  | .int _ n => (P.underlying src).isSome = true ∧ vConvI n (P.underlying dst) k
  | .string s => P.underlying dst = some .string ∧ (P.underlying src).isSome = true ∧ k (.string s)
  | _ => False
theorem vConv_sound {P : Program} {src dst : TypeId} {v : Value} {k : Value → Prop} (h : vConv P src dst v k) : ∃ x, k x ∧ ∀ w, (convert src dst v).run P w = .ok x w := by
  unfold vConv at h
  split at h
  case h_1 kd n =>
    obtain ⟨hs, h⟩ := h
    obtain ⟨sd, hs⟩ := Option.isSome_iff_exists.1 hs
    unfold vConvI at h
    split at h
    · rename_i hd
      exact ⟨_, h, fun w => by cases sd <;> simp [convert, run_underlying hs, run_underlying hd, Conv.intToInt]⟩
    · rename_i hd
      exact ⟨_, h, fun w => by cases sd <;> simp [convert, run_underlying hs, run_underlying hd, Conv.intToFloat]⟩
    · exact h.elim
  case h_2 s =>
    obtain ⟨hd, hs, h⟩ := h
    obtain ⟨sd, hs⟩ := Option.isSome_iff_exists.1 hs
    exact ⟨_, h, fun w => by cases sd <;> simp [convert, run_underlying hs, run_underlying hd]⟩
  case h_3 => exact h.elim
end Go.SX
