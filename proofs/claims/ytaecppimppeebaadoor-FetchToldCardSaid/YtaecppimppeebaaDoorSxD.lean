/- A small layer for proofs about calls, part 13: the equations by which a walk is reckoned. -/
import Derived.Test.YtaecppimppeebaaDoorSxI
import Derived.KernelRfl
namespace Go.SX
open Go

theorem le_self (Z : Heap) : (Z.le Z) = True := eq_true (Heap.le.refl Z)
theorem dstsIn_nil (N : Nat) : dstsIn N [] = True := eq_true (fun _ _ _ h => by simp at h)
theorem dstsIn_some (N : Nat) (d : Nat) (op : Op) (ty : TypeId) (pos : String) (af : Array Edge) (g : Option (Nat × Bool)) (l : List Oper) :
    dstsIn N (⟨some d, op, ty, pos, af, g⟩ :: l) = (d < N ∧ dstsIn N l) := by
  apply propext
  constructor
  · intro h
    exact ⟨h 0 _ d rfl rfl, fun j o d' hj => h (j + 1) o d' (by simpa using hj)⟩
  · rintro ⟨h1, h2⟩ j o d' hj hd
    cases j with
    | zero => simp at hj; subst hj; cases hd; exact h1
    | succ j => exact h2 j o d' (by simpa using hj) hd
theorem dstsIn_none (N : Nat) (op : Op) (ty : TypeId) (pos : String) (af : Array Edge) (g : Option (Nat × Bool)) (l : List Oper) :
    dstsIn N (⟨none, op, ty, pos, af, g⟩ :: l) = dstsIn N l := by
  apply propext
  constructor
  · intro h j o d' hj; exact h (j + 1) o d' (by simpa using hj)
  · intro h2 j o d' hj hd
    cases j with
    | zero => simp at hj; subst hj; cases hd
    | succ j => exact h2 j o d' (by simpa using hj) hd
theorem wrap_i64 (n : Int) : IntKind.i64.wrap n = (n + 9223372036854775808) % 18446744073709551616 - 9223372036854775808 := by
  simp only [IntKind.wrap, IntKind.bits, IntKind.signed]
  simp
  omega
theorem canCall_of {P : Program} {g : FuncId} {fn : Func} (h : P.funcs[g]? = some fn) (h1 : fn.body.isSome = true) (h2 : (fn.name == "runtime.NumGoroutine") = false) : canCall P g = True := eq_true ⟨fn, h, h1, h2⟩

theorem extOf_none {P : Program} {g : FuncId} {fn : Func} (h : P.funcs[g]? = some fn) (h1 : fn.body.isSome = true) : extOf P g = none := by
  have : fn.body.isNone = false := by cases hb : fn.body <;> simp_all
  simp [extOf, h, this]
theorem extOf_some {P : Program} {g : FuncId} {fn : Func} {e : Array Value → Sem Value} (h : P.funcs[g]? = some fn)
    (h1 : (bif fn.body.isNone && !(fn.name == "runtime.NumGoroutine") && (Extern.findNext fn).isNone then Extern.find fn else none) = some e) : extOf P g = some e := by
  simp only [extOf, h, Option.bind_some]; exact h1
theorem run_bits (b : Nat) (P : Program) (x : Value) : runsTo P Extern.MathFloatBits.float64bits [.float .f64 b] x = (x = .int .u64 b) := by
  apply propext
  constructor
  · intro h
    have := h default
    injection this with h1 _
    exact h1.symm
  · rintro rfl w; rfl
theorem run_frombits (n : Int) (P : Program) (x : Value) : runsTo P Extern.MathFloatBits.float64frombits [.int .u64 n] x = (x = .float .f64 n.toNat) := by
  apply propext
  constructor
  · intro h
    have := h default
    injection this with h1 _
    exact h1.symm
  · rintro rfl w; rfl
attribute [go_sem] run_bits run_frombits extV beq_self_eq_true Nat.reduceBEq Int.reduceLE Int.reduceLT Int.reduceEq Int.reduceNeg Int.reduceAdd Int.reduceSub Int.reduceMul Int.reduceToNat Int.toNat_natCast
theorem size_bs (l : List UInt8) : (⟨l.toArray⟩ : ByteArray).size = l.length := rfl
theorem toList_bs (l : List UInt8) : l.toArray.toList = l := rfl
theorem append_bs (a b : List UInt8) : (⟨a.toArray⟩ : ByteArray) ++ ⟨b.toArray⟩ = ⟨(a ++ b).toArray⟩ := by
  apply ByteArray.ext; simp
theorem extract_bs (l : List UInt8) (i j : Nat) : (⟨l.toArray⟩ : ByteArray).extract i j = ⟨((l.take j).drop i).toArray⟩ := by
  apply ByteArray.ext
  apply Array.ext'
  simp [List.drop_take]
theorem wrap_byte (k : IntKind) (c : UInt8) (h : k = .i64 ∨ k = .u64 ∨ k = .u8 ∨ k = .i32 ∨ k = .u32) : k.wrap (c.toNat : Int) = c.toNat := by
  have := c.toNat_lt
  rcases h with rfl | rfl | rfl | rfl | rfl <;> simp [IntKind.wrap, IntKind.bits, IntKind.signed] <;> omega
theorem wrap_byte_i64 (c : UInt8) : IntKind.i64.wrap (c.toNat : Int) = c.toNat := wrap_byte _ c (by simp)
theorem wrap_byte_u64 (c : UInt8) : IntKind.u64.wrap (c.toNat : Int) = c.toNat := wrap_byte _ c (by simp)
theorem wrap_byte_u8 (c : UInt8) : IntKind.u8.wrap (c.toNat : Int) = c.toNat := wrap_byte _ c (by simp)
theorem wrap_byte_i32 (c : UInt8) : IntKind.i32.wrap (c.toNat : Int) = c.toNat := wrap_byte _ c (by simp)
theorem wrap_byte_u32 (c : UInt8) : IntKind.u32.wrap (c.toNat : Int) = c.toNat := wrap_byte _ c (by simp)
attribute [go_sem] wrap_byte_i64 wrap_byte_u64 wrap_byte_u8 wrap_byte_i32 wrap_byte_u32
theorem known_vals : ∀ l : List Value, (l.map SV.val).all SV.known = true
  | [] => rfl
  | _ :: l => by simp [SV.known, known_vals l]
theorem flat_vals : ∀ l : List Value, (l.map SV.val).all SV.flat = true
  | [] => rfl
  | _ :: l => by simp [SV.flat, flat_vals l]
theorem one_bytes : ∀ l : List UInt8, oneAll ((l.map byteV).map SV.val) = True
  | [] => rfl
  | _ :: l => by
    have := one_bytes l
    simp only [List.map_cons, oneAll, byteV, Value.oneCell', true_and] at this ⊢
    exact this
theorem oneV_bytes : ∀ l : List UInt8, oneVals (l.map byteV) = True
  | [] => rfl
  | _ :: l => by simp [oneVals, byteV, Value.oneCell', oneV_bytes l]
theorem take_vals (n : Nat) (l : List Value) : (l.map SV.val).take n = (l.take n).map SV.val := List.map_take.symm
theorem drop_vals (n : Nat) (l : List Value) : (l.map SV.val).drop n = (l.drop n).map SV.val := List.map_drop.symm
theorem take_bytes (n : Nat) (l : List UInt8) : (l.map byteV).take n = (l.take n).map byteV := List.map_take.symm
theorem drop_bytes (n : Nat) (l : List UInt8) : (l.map byteV).drop n = (l.drop n).map byteV := List.map_drop.symm
theorem bytes_inj : ∀ {a l : List UInt8}, a.map byteV = l.map byteV → a = l
  | [], [], _ => rfl
  | [], _ :: _, h => by simp at h
  | _ :: _, [], h => by simp at h
  | x :: a, y :: l, h => by
    simp only [List.map_cons, List.cons.injEq, byteV, Value.int.injEq, true_and] at h
    rw [bytes_inj h.2, UInt8.toNat_inj.1 (show x.toNat = y.toNat by omega)]
theorem bytes_eq (a l : List UInt8) : (a.map byteV = l.map byteV) = (a = l) := propext ⟨bytes_inj, fun h => by rw [h]⟩
theorem vals_inj : ∀ {a l : List Value}, a.map SV.val = l.map SV.val → a = l
  | [], [], _ => rfl
  | [], _ :: _, h => by simp at h
  | _ :: _, [], h => by simp at h
  | x :: a, y :: l, h => by
    simp only [List.map_cons, List.cons.injEq, SV.val.injEq] at h
    rw [vals_inj h.2, h.1]
theorem bytes_vals (a l : List UInt8) : ((a.map byteV).map SV.val = l.map (fun c => SV.val (byteV c))) = (a = l) := by
  have e : l.map (fun c => SV.val (byteV c)) = (l.map byteV).map SV.val := by rw [List.map_map]; rfl
  rw [e]
  exact propext ⟨fun h => bytes_inj (vals_inj h), fun h => by rw [h]⟩
attribute [go_sem] known_vals flat_vals one_bytes oneV_bytes take_vals drop_vals take_bytes drop_bytes bytes_vals bytes_eq denL_vals
theorem rds_nil (Z : Heap) (A : Option Addr) (off : Nat) : Rds Z A off [] = True := eq_true (fun _ _ h => by simp at h)
attribute [go_sem] rds_nil size_bs toList_bs append_bs extract_bs List.size_toArray List.take_length
theorem resMk_0 : resMk [] = .tuple #[] := rfl
theorem resMk_1 (a : Value) : resMk [a] = a := rfl
theorem resMk_2 (a b : Value) : resMk [a, b] = .tuple #[a, b] := rfl
theorem resMk_3 (a b c : Value) : resMk [a, b, c] = .tuple #[a, b, c] := rfl
theorem resMk_4 (a b c d : Value) : resMk [a, b, c, d] = .tuple #[a, b, c, d] := rfl
theorem one_int (k : IntKind) (n : Int) : (Value.int k n).oneCell' = true := rfl
theorem one_bool (b : Bool) : (Value.bool b).oneCell' = true := rfl
theorem one_string (s : ByteArray) : (Value.string s).oneCell' = true := rfl
theorem one_slice (A : Option Addr) (n c : Nat) : (Value.slice A n c).oneCell' = true := rfl
theorem one_pointer (p : Option Addr) : (Value.pointer p).oneCell' = true := rfl
theorem one_map (p : Option Nat) : (Value.map p).oneCell' = true := rfl
theorem one_float (k : FloatKind) (b : Nat) : (Value.float k b).oneCell' = true := rfl
theorem one_func (f : Fn) (a b : Array Value) : (Value.func f a b).oneCell' = true := rfl
theorem one_nilFunc : Value.nilFunc.oneCell' = true := rfl
theorem one_nilIface : Value.nilIface.oneCell' = true := rfl
theorem one_iface (t : TypeId) (v : Value) : (Value.iface t v).oneCell' = true := rfl
attribute [go_sem] one_int one_bool one_string one_slice one_pointer one_map one_float one_func one_nilFunc one_nilIface one_iface
theorem guard_not (b : Bool) : (b = false → (!b) = true) = True := by cases b <;> simp
theorem guard_not' (b : Bool) : ((!b) = true → b = false) = True := by cases b <;> simp
attribute [go_sem] guard_not guard_not'
attribute [go_sem] le_self dstsIn_nil dstsIn_some dstsIn_none
attribute [go_sem ↓] finW.eq_1 finB.eq_1 finO.eq_1 vcOps.eq_1 vcOps.eq_2 vcOpsE.eq_1 vcOpsE.eq_2 vcDrL.eq_1 vcDrL.eq_2 vcCode.eq_1 vcCode.eq_2 vcCode.eq_3 vcCode.eq_4 vcCode.eq_5 vcCode.eq_6 vcCode.eq_7 vcCode.eq_8 vcCode.eq_9 vcCode.eq_10 vcCode.eq_11 Out.then.eq_1 Out.then.eq_2 Out.then.eq_3 Out.then.eq_4 Out.then.eq_5 Out.then.eq_6 Out.block.eq_1 Out.block.eq_2 Out.block.eq_3 Out.block.eq_4 Out.block.eq_5 Out.block.eq_6 retQ.eq_1 retQ.eq_2 retQ.eq_3 resVals.eq_1 resVals.eq_2 retFin.eq_1 finV.eq_1 finH.eq_1
attribute [go_sem] kPut.eq_1 kPut.eq_2 kSplit.eq_1 kSplit.eq_2 kCnd.eq_1 kKn.eq_1 kVal.eq_1 kApp.eq_1 kAppN.eq_1 kXs.eq_1 kRd.eq_1 kCons.eq_1 kDen.eq_1 kSnoc.eq_1 kAgg.eq_1 kAgg.eq_2 kOpt.eq_1 kOpt.eq_2 kOptV.eq_1 kOptV.eq_2
attribute [go_sem] denS denO
attribute [go_sem ↓] vcOrd.eq_1 vcOrd.eq_2 vcDraw.eq_1 vcDrawB.eq_1 vcDrawB.eq_2 effL.eq_1 effL.eq_2 effL.eq_3 vcOrdO.eq_1 vcOrdO.eq_2
attribute [go_sem] effOp callOp vcDrawT vcOrdG vcOrdK vcGrowO
attribute [go_sem] lookConv pvArr pvArrT pvArrV pvArrV.pvArrR vcBytesV vcBytesT vcMakeI vcMakeE vcMakeT vcCopyR vcCopyV vcCopyT vcCopy2
attribute [go_sem] vcMap vcPutR vcPutV vcPutX vcPutT kLk kOk2 kOk mapEs mapEs.mapEsR kLook pvLookZ pvLookT pvLookup
attribute [go_sem] gIdx gIdx1 memN effG effG1 kSpl vcPickE vcLookE vcOpE1 vcOpE vcDrG vcDrF vcDrC vcCallG extK vcDr1 vcDrO vcReg List.elem_cons List.elem_nil
attribute [go_sem] vcOpG vcOpL vcOpC guardOf guardG guardD guardV dstAt isLook pv ev Fr.get SV.core SV.grd SV.known vcStep vcStepO vcNew vcAlloc vcBoxC vcSlT vcSlZ vcSlC zerosOf placesIn
 vcStore vcStoreX vcStoreR vcStoreP vcStoreW vcStoreA oneAll oneVals vcAppend vcAppT vcAppE vcAppX vcAppR newsOf newsS newsR newsV killM killL kill names namesL Out.exitB vcBr
 vcCallee vcCallF vcApp2 grdAll cores partsOf grdParts grdO coreO
attribute [go_sem] pvPick pvPickV pvLoad pvLoadR pvLoadW pvLoadB pvLoadA exVals exShape whole wholeB whole1 pvFieldAddr pvFieldF pvFieldZ pvFieldX fieldOf pvIndexAddr pvIdxT pvIdxS pvIdxA pvIdxR
 pvIndex pvIndexT pvIndexS pvIndexC pvSlice pvSliceI pvSliceT pvSliceS pvSliceL pvSliceA SV.int? pvConv pvConvT pvConvB pvConvR pvConvC pvConvV vConv vConvI pvLen pvLenT pvLenS pvLenL pvLenR pvMinMax pvBin pvUn vBin vUn
 pvBuild pvBuildZ fillS pvPart pvPartB pvPartA pvField pvFieldV pvFieldC SV.parts SV.cellsOf SV.flat SV.val? pvExtract pvNil pvLen1 pvMM pvCallee
attribute [go_sem] resOne' resDen resCell resMk_0 resMk_1 resMk_2 resMk_3 resMk_4 den denL argF Res.ptrAt Res.rowVal Res.rptrAt Res.mapVal Res.slAt subF Fr.map within withinL withinF withinM
attribute [go_sem] List.map_cons List.map_nil List.all_cons List.all_nil List.length_cons List.length_nil List.getElem?_cons_zero List.getElem?_cons_succ List.getElem?_nil List.set_cons_zero List.set_cons_succ
 List.drop_succ_cons List.drop_zero List.take_succ_cons List.take_zero List.take_nil List.drop_nil List.cons_append List.nil_append List.append_nil List.getElem?_toArray
 Option.bind_some Option.map_some Option.map_none Option.getD_some Option.getD_none Option.some.injEq Option.isSome_some
 Bool.and_true Bool.true_and Bool.false_and Bool.and_false Option.map_id' ite_self Bool.not_true Bool.not_false Bool.and_self Bool.false_eq_true Bool.cond_true_left Bool.cond_false_right cond_true cond_false decide_true decide_false
 and_true true_and and_self true_implies false_implies implies_true if_true if_false ite_true ite_false forall_const and_imp exists_eq_left exists_eq_left' ne_eq
 reduceCtorEq reduceIte forall_eq' forall_eq List.mem_cons List.not_mem_nil or_false forall_eq_or_imp false_or not_true_eq_false not_false_eq_true imp_self List.range List.range.loop List.mapM_cons List.mapM_nil
 Nat.reduceLT Nat.reduceAdd Nat.reduceMul Nat.reduceSub Nat.reduceEqDiff Nat.reduceLeDiff Nat.add_zero Nat.zero_add Nat.sub_zero Nat.mul_one Nat.mul_zero Nat.zero_mul Nat.one_mul
 Option.bind_eq_bind Option.pure_def Option.bind_none List.length_append List.length_map
end Go.SX
