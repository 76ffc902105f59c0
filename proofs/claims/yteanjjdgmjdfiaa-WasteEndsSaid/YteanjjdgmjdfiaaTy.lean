/- Closed facts on the types of this translation: sizes, zero values, what a read may find. Written by a program of mine (wip/tools/types.py). -/
import Derived.Test.YteanjjdgmjdfiaaRows
import Derived.Test.YteanjjdgmjdfiaaSxD
namespace Go.Proofs.Yteanjjdgmjdfiaa
open Go Go.SX
@[go_sem] theorem Try.sz2 : sizeT Try.prog 2 = some 1 := by kernel_rfl
@[go_sem] theorem Try.ag2 : aggT Try.prog 2 = some false := by kernel_rfl
@[go_sem] theorem Try.by2 : bytesT Try.prog 2 = some 8 := by kernel_rfl
@[go_sem] theorem Try.sh2 : Go.SX.shape Try.prog 9 2 = some [.int .i64] := by kernel_rfl
@[go_sem] theorem Try.ze2 : zeroT Try.prog 2 = some [.int .i64 0] := by kernel_rfl
@[go_sem] theorem Try.zv2 : zeroVal Try.prog 2 = some (.int .i64 0) := by kernel_rfl
@[go_sem] theorem Try.ud2 : (Try.prog.underlying 2).isSome = true := by kernel_rfl
@[go_sem] theorem Try.sz3 : sizeT Try.prog 3 = some 1 := by kernel_rfl
@[go_sem] theorem Try.ag3 : aggT Try.prog 3 = some false := by kernel_rfl
@[go_sem] theorem Try.by3 : bytesT Try.prog 3 = some 8 := by kernel_rfl
@[go_sem] theorem Try.sh3 : Go.SX.shape Try.prog 9 3 = some [.int .i64] := by kernel_rfl
@[go_sem] theorem Try.ze3 : zeroT Try.prog 3 = some [.int .i64 0] := by kernel_rfl
@[go_sem] theorem Try.zv3 : zeroVal Try.prog 3 = some (.int .i64 0) := by kernel_rfl
@[go_sem] theorem Try.ud3 : (Try.prog.underlying 3).isSome = true := by kernel_rfl
@[go_sem] theorem Try.sz4 : sizeT Try.prog 4 = some 1 := by kernel_rfl
@[go_sem] theorem Try.ag4 : aggT Try.prog 4 = some false := by kernel_rfl
@[go_sem] theorem Try.by4 : bytesT Try.prog 4 = some 1 := by kernel_rfl
@[go_sem] theorem Try.sh4 : Go.SX.shape Try.prog 9 4 = some [.bool] := by kernel_rfl
@[go_sem] theorem Try.ze4 : zeroT Try.prog 4 = some [.bool false] := by kernel_rfl
@[go_sem] theorem Try.zv4 : zeroVal Try.prog 4 = some (.bool false) := by kernel_rfl
@[go_sem] theorem Try.ud4 : (Try.prog.underlying 4).isSome = true := by kernel_rfl
@[go_sem] theorem Try.sz5 : sizeT Try.prog 5 = some 1 := by kernel_rfl
@[go_sem] theorem Try.ag5 : aggT Try.prog 5 = some false := by kernel_rfl
@[go_sem] theorem Try.by5 : bytesT Try.prog 5 = some 1 := by kernel_rfl
@[go_sem] theorem Try.sh5 : Go.SX.shape Try.prog 9 5 = some [.int .u8] := by kernel_rfl
@[go_sem] theorem Try.ze5 : zeroT Try.prog 5 = some [.int .u8 0] := by kernel_rfl
@[go_sem] theorem Try.zv5 : zeroVal Try.prog 5 = some (.int .u8 0) := by kernel_rfl
@[go_sem] theorem Try.ud5 : (Try.prog.underlying 5).isSome = true := by kernel_rfl
@[go_sem] theorem Try.sz9 : sizeT Try.prog 9 = some 1 := by kernel_rfl
@[go_sem] theorem Try.ag9 : aggT Try.prog 9 = some false := by kernel_rfl
@[go_sem] theorem Try.by9 : bytesT Try.prog 9 = some 16 := by kernel_rfl
@[go_sem] theorem Try.sh9 : Go.SX.shape Try.prog 9 9 = some [.str] := by kernel_rfl
@[go_sem] theorem Try.ze9 : zeroT Try.prog 9 = some [.string ⟨#[]⟩] := by kernel_rfl
@[go_sem] theorem Try.zv9 : zeroVal Try.prog 9 = some (.string ⟨#[]⟩) := by kernel_rfl
@[go_sem] theorem Try.ud9 : (Try.prog.underlying 9).isSome = true := by kernel_rfl
@[go_sem] theorem Try.sz12 : sizeT Try.prog 12 = some 1 := by kernel_rfl
@[go_sem] theorem Try.ag12 : aggT Try.prog 12 = some false := by kernel_rfl
@[go_sem] theorem Try.by12 : bytesT Try.prog 12 = some 8 := by kernel_rfl
@[go_sem] theorem Try.sh12 : Go.SX.shape Try.prog 9 12 = some [.int .u64] := by kernel_rfl
@[go_sem] theorem Try.ze12 : zeroT Try.prog 12 = some [.int .u64 0] := by kernel_rfl
@[go_sem] theorem Try.zv12 : zeroVal Try.prog 12 = some (.int .u64 0) := by kernel_rfl
@[go_sem] theorem Try.ud12 : (Try.prog.underlying 12).isSome = true := by kernel_rfl
@[go_sem] theorem Try.sz17 : sizeT Try.prog 17 = some 1 := by kernel_rfl
@[go_sem] theorem Try.ag17 : aggT Try.prog 17 = some false := by kernel_rfl
@[go_sem] theorem Try.by17 : bytesT Try.prog 17 = some 8 := by kernel_rfl
@[go_sem] theorem Try.sh17 : Go.SX.shape Try.prog 9 17 = some [.ptr] := by kernel_rfl
@[go_sem] theorem Try.ze17 : zeroT Try.prog 17 = some [.pointer none] := by kernel_rfl
@[go_sem] theorem Try.zv17 : zeroVal Try.prog 17 = some (.pointer none) := by kernel_rfl
@[go_sem] theorem Try.ud17 : (Try.prog.underlying 17).isSome = true := by kernel_rfl
@[go_sem] theorem Try.sz21 : sizeT Try.prog 21 = some 1 := by kernel_rfl
@[go_sem] theorem Try.ag21 : aggT Try.prog 21 = some false := by kernel_rfl
@[go_sem] theorem Try.by21 : bytesT Try.prog 21 = some 4 := by kernel_rfl
@[go_sem] theorem Try.sh21 : Go.SX.shape Try.prog 9 21 = some [.int .i32] := by kernel_rfl
@[go_sem] theorem Try.ze21 : zeroT Try.prog 21 = some [.int .i32 0] := by kernel_rfl
@[go_sem] theorem Try.zv21 : zeroVal Try.prog 21 = some (.int .i32 0) := by kernel_rfl
@[go_sem] theorem Try.ud21 : (Try.prog.underlying 21).isSome = true := by kernel_rfl
@[go_sem] theorem Try.sz22 : sizeT Try.prog 22 = some 1 := by kernel_rfl
@[go_sem] theorem Try.ag22 : aggT Try.prog 22 = some false := by kernel_rfl
@[go_sem] theorem Try.by22 : bytesT Try.prog 22 = some 24 := by kernel_rfl
@[go_sem] theorem Try.sh22 : Go.SX.shape Try.prog 9 22 = some [.slc] := by kernel_rfl
@[go_sem] theorem Try.ze22 : zeroT Try.prog 22 = some [.slice none 0 0] := by kernel_rfl
@[go_sem] theorem Try.zv22 : zeroVal Try.prog 22 = some (.slice none 0 0) := by kernel_rfl
@[go_sem] theorem Try.ud22 : (Try.prog.underlying 22).isSome = true := by kernel_rfl
@[go_sem] theorem Try.sz23 : sizeT Try.prog 23 = some 1 := by kernel_rfl
@[go_sem] theorem Try.ag23 : aggT Try.prog 23 = some false := by kernel_rfl
@[go_sem] theorem Try.by23 : bytesT Try.prog 23 = some 8 := by kernel_rfl
@[go_sem] theorem Try.sh23 : Go.SX.shape Try.prog 9 23 = some [.flt .f64] := by kernel_rfl
@[go_sem] theorem Try.ze23 : zeroT Try.prog 23 = some [.float .f64 0] := by kernel_rfl
@[go_sem] theorem Try.zv23 : zeroVal Try.prog 23 = some (.float .f64 0) := by kernel_rfl
@[go_sem] theorem Try.ud23 : (Try.prog.underlying 23).isSome = true := by kernel_rfl
@[go_sem] theorem Try.sz24 : sizeT Try.prog 24 = some 1 := by kernel_rfl
@[go_sem] theorem Try.ag24 : aggT Try.prog 24 = some false := by kernel_rfl
@[go_sem] theorem Try.by24 : bytesT Try.prog 24 = some 24 := by kernel_rfl
@[go_sem] theorem Try.sh24 : Go.SX.shape Try.prog 9 24 = some [.slc] := by kernel_rfl
@[go_sem] theorem Try.ze24 : zeroT Try.prog 24 = some [.slice none 0 0] := by kernel_rfl
@[go_sem] theorem Try.zv24 : zeroVal Try.prog 24 = some (.slice none 0 0) := by kernel_rfl
@[go_sem] theorem Try.ud24 : (Try.prog.underlying 24).isSome = true := by kernel_rfl
@[go_sem] theorem Try.sz25 : sizeT Try.prog 25 = some 1 := by kernel_rfl
@[go_sem] theorem Try.ag25 : aggT Try.prog 25 = some false := by kernel_rfl
@[go_sem] theorem Try.by25 : bytesT Try.prog 25 = some 8 := by kernel_rfl
@[go_sem] theorem Try.sh25 : Go.SX.shape Try.prog 9 25 = some [.int .i64] := by kernel_rfl
@[go_sem] theorem Try.ze25 : zeroT Try.prog 25 = some [.int .i64 0] := by kernel_rfl
@[go_sem] theorem Try.zv25 : zeroVal Try.prog 25 = some (.int .i64 0) := by kernel_rfl
@[go_sem] theorem Try.ud25 : (Try.prog.underlying 25).isSome = true := by kernel_rfl
@[go_sem] theorem Try.sz28 : sizeT Try.prog 28 = some 2 := by kernel_rfl
@[go_sem] theorem Try.ag28 : aggT Try.prog 28 = some true := by kernel_rfl
@[go_sem] theorem Try.by28 : bytesT Try.prog 28 = some 16 := by kernel_rfl
@[go_sem] theorem Try.sh28 : Go.SX.shape Try.prog 9 28 = some [.int .i64, .int .i64] := by kernel_rfl
@[go_sem] theorem Try.ze28 : zeroT Try.prog 28 = some [.int .i64 0, .int .i64 0] := by kernel_rfl
@[go_sem] theorem Try.zv28 : zeroVal Try.prog 28 = some (.agg #[.int .i64 0, .int .i64 0]) := by kernel_rfl
@[go_sem] theorem Try.pl28 : placesOf Try.prog 28 = some [(0, 1), (1, 1)] := by kernel_rfl
@[go_sem] theorem Try.ud28 : (Try.prog.underlying 28).isSome = true := by kernel_rfl
@[go_sem] theorem Try.sz29 : sizeT Try.prog 29 = some 2 := by kernel_rfl
@[go_sem] theorem Try.ag29 : aggT Try.prog 29 = some true := by kernel_rfl
@[go_sem] theorem Try.by29 : bytesT Try.prog 29 = some 16 := by kernel_rfl
@[go_sem] theorem Try.sh29 : Go.SX.shape Try.prog 9 29 = some [.int .i64, .int .i64] := by kernel_rfl
@[go_sem] theorem Try.ze29 : zeroT Try.prog 29 = some [.int .i64 0, .int .i64 0] := by kernel_rfl
@[go_sem] theorem Try.zv29 : zeroVal Try.prog 29 = some (.agg #[.int .i64 0, .int .i64 0]) := by kernel_rfl
@[go_sem] theorem Try.pl29 : placesOf Try.prog 29 = some [(0, 1), (1, 1)] := by kernel_rfl
@[go_sem] theorem Try.ud29 : (Try.prog.underlying 29).isSome = true := by kernel_rfl
@[go_sem] theorem Try.sz43 : sizeT Try.prog 43 = some 1 := by kernel_rfl
@[go_sem] theorem Try.ag43 : aggT Try.prog 43 = some false := by kernel_rfl
@[go_sem] theorem Try.by43 : bytesT Try.prog 43 = some 8 := by kernel_rfl
@[go_sem] theorem Try.sh43 : Go.SX.shape Try.prog 9 43 = some [.int .u64] := by kernel_rfl
@[go_sem] theorem Try.ze43 : zeroT Try.prog 43 = some [.int .u64 0] := by kernel_rfl
@[go_sem] theorem Try.zv43 : zeroVal Try.prog 43 = some (.int .u64 0) := by kernel_rfl
@[go_sem] theorem Try.ud43 : (Try.prog.underlying 43).isSome = true := by kernel_rfl
@[go_sem] theorem Try.sz46 : sizeT Try.prog 46 = some 1 := by kernel_rfl
@[go_sem] theorem Try.ag46 : aggT Try.prog 46 = some false := by kernel_rfl
@[go_sem] theorem Try.by46 : bytesT Try.prog 46 = some 8 := by kernel_rfl
@[go_sem] theorem Try.sh46 : Go.SX.shape Try.prog 9 46 = some [.map] := by kernel_rfl
@[go_sem] theorem Try.ze46 : zeroT Try.prog 46 = some [.map none] := by kernel_rfl
@[go_sem] theorem Try.zv46 : zeroVal Try.prog 46 = some (.map none) := by kernel_rfl
@[go_sem] theorem Try.ud46 : (Try.prog.underlying 46).isSome = true := by kernel_rfl
@[go_sem] theorem Try.sz50 : sizeT Try.prog 50 = some 1 := by kernel_rfl
@[go_sem] theorem Try.ag50 : aggT Try.prog 50 = some false := by kernel_rfl
@[go_sem] theorem Try.by50 : bytesT Try.prog 50 = some 8 := by kernel_rfl
@[go_sem] theorem Try.sh50 : Go.SX.shape Try.prog 9 50 = some [.int .u64] := by kernel_rfl
@[go_sem] theorem Try.ze50 : zeroT Try.prog 50 = some [.int .u64 0] := by kernel_rfl
@[go_sem] theorem Try.zv50 : zeroVal Try.prog 50 = some (.int .u64 0) := by kernel_rfl
@[go_sem] theorem Try.ud50 : (Try.prog.underlying 50).isSome = true := by kernel_rfl
@[go_sem] theorem Try.sz58 : sizeT Try.prog 58 = some 1 := by kernel_rfl
@[go_sem] theorem Try.ag58 : aggT Try.prog 58 = some false := by kernel_rfl
@[go_sem] theorem Try.by58 : bytesT Try.prog 58 = some 4 := by kernel_rfl
@[go_sem] theorem Try.sh58 : Go.SX.shape Try.prog 9 58 = some [.int .u32] := by kernel_rfl
@[go_sem] theorem Try.ze58 : zeroT Try.prog 58 = some [.int .u32 0] := by kernel_rfl
@[go_sem] theorem Try.zv58 : zeroVal Try.prog 58 = some (.int .u32 0) := by kernel_rfl
@[go_sem] theorem Try.ud58 : (Try.prog.underlying 58).isSome = true := by kernel_rfl
@[go_sem] theorem Try.sz62 : sizeT Try.prog 62 = some 1 := by kernel_rfl
@[go_sem] theorem Try.ag62 : aggT Try.prog 62 = some false := by kernel_rfl
@[go_sem] theorem Try.by62 : bytesT Try.prog 62 = some 8 := by kernel_rfl
@[go_sem] theorem Try.sh62 : Go.SX.shape Try.prog 9 62 = some [.ptr] := by kernel_rfl
@[go_sem] theorem Try.ze62 : zeroT Try.prog 62 = some [.pointer none] := by kernel_rfl
@[go_sem] theorem Try.zv62 : zeroVal Try.prog 62 = some (.pointer none) := by kernel_rfl
@[go_sem] theorem Try.ud62 : (Try.prog.underlying 62).isSome = true := by kernel_rfl
attribute [go_sem] Try.underlying1 Try.underlying2 Try.underlying3 Try.underlying4 Try.underlying5 Try.underlying9 Try.underlying12 Try.underlying17 Try.underlying20 Try.underlying21 Try.underlying22 Try.underlying23 Try.underlying24 Try.underlying25 Try.underlying27 Try.underlying28 Try.underlying29 Try.underlying30 Try.underlying31 Try.underlying32 Try.underlying33 Try.underlying34 Try.underlying35 Try.underlying37 Try.underlying38 Try.underlying39 Try.underlying40 Try.underlying41 Try.underlying42 Try.underlying43 Try.underlying44 Try.underlying45 Try.underlying46 Try.underlying47 Try.underlying48 Try.underlying49 Try.underlying50 Try.underlying51 Try.underlying57 Try.underlying58 Try.underlying62
@[go_sem] theorem Try.mixed : Try.prog.follows .mixedOrders = True := eq_true Try.checked.mixed
@[go_sem] theorem Try.ext3 : extOf Try.prog 3 = none := extOf_none Try.func3 (by kernel_rfl)
attribute [go_sem] Try.ntmps3 Try.results3
@[go_sem] theorem Try.can3 : canCall Try.prog 3 = True := canCall_of Try.func3 rfl (by kernel_rfl)
@[go_sem] theorem Try.ext4 : extOf Try.prog 4 = none := extOf_none Try.func4 (by kernel_rfl)
attribute [go_sem] Try.ntmps4 Try.results4
@[go_sem] theorem Try.can4 : canCall Try.prog 4 = True := canCall_of Try.func4 rfl (by kernel_rfl)
@[go_sem] theorem Try.ext5 : extOf Try.prog 5 = none := extOf_none Try.func5 (by kernel_rfl)
attribute [go_sem] Try.ntmps5 Try.results5
@[go_sem] theorem Try.can5 : canCall Try.prog 5 = True := canCall_of Try.func5 rfl (by kernel_rfl)
@[go_sem] theorem Try.ext6 : extOf Try.prog 6 = none := extOf_none Try.func6 (by kernel_rfl)
attribute [go_sem] Try.ntmps6 Try.results6
@[go_sem] theorem Try.can6 : canCall Try.prog 6 = True := canCall_of Try.func6 rfl (by kernel_rfl)
@[go_sem] theorem Try.ext7 : extOf Try.prog 7 = none := extOf_none Try.func7 (by kernel_rfl)
attribute [go_sem] Try.ntmps7 Try.results7
@[go_sem] theorem Try.can7 : canCall Try.prog 7 = True := canCall_of Try.func7 rfl (by kernel_rfl)
@[go_sem] theorem Try.ext8 : extOf Try.prog 8 = none := extOf_none Try.func8 (by kernel_rfl)
attribute [go_sem] Try.ntmps8 Try.results8
@[go_sem] theorem Try.can8 : canCall Try.prog 8 = True := canCall_of Try.func8 rfl (by kernel_rfl)
@[go_sem] theorem Try.ext9 : extOf Try.prog 9 = none := extOf_none Try.func9 (by kernel_rfl)
attribute [go_sem] Try.ntmps9 Try.results9
@[go_sem] theorem Try.can9 : canCall Try.prog 9 = True := canCall_of Try.func9 rfl (by kernel_rfl)
@[go_sem] theorem Try.ext10 : extOf Try.prog 10 = none := extOf_none Try.func10 (by kernel_rfl)
attribute [go_sem] Try.ntmps10 Try.results10
@[go_sem] theorem Try.can10 : canCall Try.prog 10 = True := canCall_of Try.func10 rfl (by kernel_rfl)
@[go_sem] theorem Try.ext11 : extOf Try.prog 11 = none := extOf_none Try.func11 (by kernel_rfl)
attribute [go_sem] Try.ntmps11 Try.results11
@[go_sem] theorem Try.can11 : canCall Try.prog 11 = True := canCall_of Try.func11 rfl (by kernel_rfl)
@[go_sem] theorem Try.ext12 : extOf Try.prog 12 = none := extOf_none Try.func12 (by kernel_rfl)
attribute [go_sem] Try.ntmps12 Try.results12
@[go_sem] theorem Try.can12 : canCall Try.prog 12 = True := canCall_of Try.func12 rfl (by kernel_rfl)
@[go_sem] theorem Try.ext13 : extOf Try.prog 13 = none := extOf_none Try.func13 (by kernel_rfl)
attribute [go_sem] Try.ntmps13 Try.results13
@[go_sem] theorem Try.can13 : canCall Try.prog 13 = True := canCall_of Try.func13 rfl (by kernel_rfl)
@[go_sem] theorem Try.ext14 : extOf Try.prog 14 = none := extOf_none Try.func14 (by kernel_rfl)
attribute [go_sem] Try.ntmps14 Try.results14
@[go_sem] theorem Try.can14 : canCall Try.prog 14 = True := canCall_of Try.func14 rfl (by kernel_rfl)
@[go_sem] theorem Try.ext15 : extOf Try.prog 15 = none := extOf_none Try.func15 (by kernel_rfl)
attribute [go_sem] Try.ntmps15 Try.results15
@[go_sem] theorem Try.can15 : canCall Try.prog 15 = True := canCall_of Try.func15 rfl (by kernel_rfl)
@[go_sem] theorem Try.ext16 : extOf Try.prog 16 = some Go.Extern.MathFloatBits.float64bits := extOf_some Try.func16 (by kernel_rfl)
@[go_sem] theorem Try.ext17 : extOf Try.prog 17 = some Go.Extern.MathFloatBits.float64frombits := extOf_some Try.func17 (by kernel_rfl)
@[go_sem] theorem Try.ext18 : extOf Try.prog 18 = none := extOf_none Try.func18 (by kernel_rfl)
attribute [go_sem] Try.ntmps18 Try.results18
@[go_sem] theorem Try.can18 : canCall Try.prog 18 = True := canCall_of Try.func18 rfl (by kernel_rfl)
@[go_sem] theorem Try.ext19 : extOf Try.prog 19 = none := extOf_none Try.func19 (by kernel_rfl)
attribute [go_sem] Try.ntmps19 Try.results19
@[go_sem] theorem Try.can19 : canCall Try.prog 19 = True := canCall_of Try.func19 rfl (by kernel_rfl)
@[go_sem] theorem Try.ext20 : extOf Try.prog 20 = none := extOf_none Try.func20 (by kernel_rfl)
attribute [go_sem] Try.ntmps20 Try.results20
@[go_sem] theorem Try.can20 : canCall Try.prog 20 = True := canCall_of Try.func20 rfl (by kernel_rfl)
@[go_sem] theorem Try.ext21 : extOf Try.prog 21 = none := extOf_none Try.func21 (by kernel_rfl)
attribute [go_sem] Try.ntmps21 Try.results21
@[go_sem] theorem Try.can21 : canCall Try.prog 21 = True := canCall_of Try.func21 rfl (by kernel_rfl)
@[go_sem] theorem Try.ext22 : extOf Try.prog 22 = none := extOf_none Try.func22 (by kernel_rfl)
attribute [go_sem] Try.ntmps22 Try.results22
@[go_sem] theorem Try.can22 : canCall Try.prog 22 = True := canCall_of Try.func22 rfl (by kernel_rfl)
@[go_sem] theorem Try.ext23 : extOf Try.prog 23 = none := extOf_none Try.func23 (by kernel_rfl)
attribute [go_sem] Try.ntmps23 Try.results23
@[go_sem] theorem Try.can23 : canCall Try.prog 23 = True := canCall_of Try.func23 rfl (by kernel_rfl)
end Go.Proofs.Yteanjjdgmjdfiaa
