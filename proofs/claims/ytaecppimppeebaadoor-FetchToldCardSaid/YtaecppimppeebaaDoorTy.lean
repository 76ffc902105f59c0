/- Closed facts on the types of this translation: sizes, zero values, what a read may find. Written by a program of mine (wip/tools/types.py). -/
import Derived.Test.YtaecppimppeebaaDoorRows
import Derived.Test.YtaecppimppeebaaDoorSxD
namespace Go.Proofs.YtaecppimppeebaaDoor
open Go Go.SX
@[go_sem] theorem Tryd.sz2 : sizeT Tryd.prog 2 = some 1 := by kernel_rfl
@[go_sem] theorem Tryd.ag2 : aggT Tryd.prog 2 = some false := by kernel_rfl
@[go_sem] theorem Tryd.by2 : bytesT Tryd.prog 2 = some 8 := by kernel_rfl
@[go_sem] theorem Tryd.sh2 : Go.SX.shape Tryd.prog 9 2 = some [.int .i64] := by kernel_rfl
@[go_sem] theorem Tryd.ze2 : zeroT Tryd.prog 2 = some [.int .i64 0] := by kernel_rfl
@[go_sem] theorem Tryd.zv2 : zeroVal Tryd.prog 2 = some (.int .i64 0) := by kernel_rfl
@[go_sem] theorem Tryd.ud2 : (Tryd.prog.underlying 2).isSome = true := by kernel_rfl
@[go_sem] theorem Tryd.sz3 : sizeT Tryd.prog 3 = some 1 := by kernel_rfl
@[go_sem] theorem Tryd.ag3 : aggT Tryd.prog 3 = some false := by kernel_rfl
@[go_sem] theorem Tryd.by3 : bytesT Tryd.prog 3 = some 8 := by kernel_rfl
@[go_sem] theorem Tryd.sh3 : Go.SX.shape Tryd.prog 9 3 = some [.int .i64] := by kernel_rfl
@[go_sem] theorem Tryd.ze3 : zeroT Tryd.prog 3 = some [.int .i64 0] := by kernel_rfl
@[go_sem] theorem Tryd.zv3 : zeroVal Tryd.prog 3 = some (.int .i64 0) := by kernel_rfl
@[go_sem] theorem Tryd.ud3 : (Tryd.prog.underlying 3).isSome = true := by kernel_rfl
@[go_sem] theorem Tryd.sz4 : sizeT Tryd.prog 4 = some 1 := by kernel_rfl
@[go_sem] theorem Tryd.ag4 : aggT Tryd.prog 4 = some false := by kernel_rfl
@[go_sem] theorem Tryd.by4 : bytesT Tryd.prog 4 = some 1 := by kernel_rfl
@[go_sem] theorem Tryd.sh4 : Go.SX.shape Tryd.prog 9 4 = some [.bool] := by kernel_rfl
@[go_sem] theorem Tryd.ze4 : zeroT Tryd.prog 4 = some [.bool false] := by kernel_rfl
@[go_sem] theorem Tryd.zv4 : zeroVal Tryd.prog 4 = some (.bool false) := by kernel_rfl
@[go_sem] theorem Tryd.ud4 : (Tryd.prog.underlying 4).isSome = true := by kernel_rfl
@[go_sem] theorem Tryd.sz5 : sizeT Tryd.prog 5 = some 1 := by kernel_rfl
@[go_sem] theorem Tryd.ag5 : aggT Tryd.prog 5 = some false := by kernel_rfl
@[go_sem] theorem Tryd.by5 : bytesT Tryd.prog 5 = some 1 := by kernel_rfl
@[go_sem] theorem Tryd.sh5 : Go.SX.shape Tryd.prog 9 5 = some [.int .u8] := by kernel_rfl
@[go_sem] theorem Tryd.ze5 : zeroT Tryd.prog 5 = some [.int .u8 0] := by kernel_rfl
@[go_sem] theorem Tryd.zv5 : zeroVal Tryd.prog 5 = some (.int .u8 0) := by kernel_rfl
@[go_sem] theorem Tryd.ud5 : (Tryd.prog.underlying 5).isSome = true := by kernel_rfl
@[go_sem] theorem Tryd.sz9 : sizeT Tryd.prog 9 = some 1 := by kernel_rfl
@[go_sem] theorem Tryd.ag9 : aggT Tryd.prog 9 = some false := by kernel_rfl
@[go_sem] theorem Tryd.by9 : bytesT Tryd.prog 9 = some 16 := by kernel_rfl
@[go_sem] theorem Tryd.sh9 : Go.SX.shape Tryd.prog 9 9 = some [.str] := by kernel_rfl
@[go_sem] theorem Tryd.ze9 : zeroT Tryd.prog 9 = some [.string ⟨#[]⟩] := by kernel_rfl
@[go_sem] theorem Tryd.zv9 : zeroVal Tryd.prog 9 = some (.string ⟨#[]⟩) := by kernel_rfl
@[go_sem] theorem Tryd.ud9 : (Tryd.prog.underlying 9).isSome = true := by kernel_rfl
@[go_sem] theorem Tryd.sz12 : sizeT Tryd.prog 12 = some 1 := by kernel_rfl
@[go_sem] theorem Tryd.ag12 : aggT Tryd.prog 12 = some false := by kernel_rfl
@[go_sem] theorem Tryd.by12 : bytesT Tryd.prog 12 = some 8 := by kernel_rfl
@[go_sem] theorem Tryd.sh12 : Go.SX.shape Tryd.prog 9 12 = some [.int .u64] := by kernel_rfl
@[go_sem] theorem Tryd.ze12 : zeroT Tryd.prog 12 = some [.int .u64 0] := by kernel_rfl
@[go_sem] theorem Tryd.zv12 : zeroVal Tryd.prog 12 = some (.int .u64 0) := by kernel_rfl
@[go_sem] theorem Tryd.ud12 : (Tryd.prog.underlying 12).isSome = true := by kernel_rfl
@[go_sem] theorem Tryd.sz17 : sizeT Tryd.prog 17 = some 1 := by kernel_rfl
@[go_sem] theorem Tryd.ag17 : aggT Tryd.prog 17 = some false := by kernel_rfl
@[go_sem] theorem Tryd.by17 : bytesT Tryd.prog 17 = some 8 := by kernel_rfl
@[go_sem] theorem Tryd.sh17 : Go.SX.shape Tryd.prog 9 17 = some [.ptr] := by kernel_rfl
@[go_sem] theorem Tryd.ze17 : zeroT Tryd.prog 17 = some [.pointer none] := by kernel_rfl
@[go_sem] theorem Tryd.zv17 : zeroVal Tryd.prog 17 = some (.pointer none) := by kernel_rfl
@[go_sem] theorem Tryd.ud17 : (Tryd.prog.underlying 17).isSome = true := by kernel_rfl
@[go_sem] theorem Tryd.sz21 : sizeT Tryd.prog 21 = some 1 := by kernel_rfl
@[go_sem] theorem Tryd.ag21 : aggT Tryd.prog 21 = some false := by kernel_rfl
@[go_sem] theorem Tryd.by21 : bytesT Tryd.prog 21 = some 4 := by kernel_rfl
@[go_sem] theorem Tryd.sh21 : Go.SX.shape Tryd.prog 9 21 = some [.int .i32] := by kernel_rfl
@[go_sem] theorem Tryd.ze21 : zeroT Tryd.prog 21 = some [.int .i32 0] := by kernel_rfl
@[go_sem] theorem Tryd.zv21 : zeroVal Tryd.prog 21 = some (.int .i32 0) := by kernel_rfl
@[go_sem] theorem Tryd.ud21 : (Tryd.prog.underlying 21).isSome = true := by kernel_rfl
@[go_sem] theorem Tryd.sz22 : sizeT Tryd.prog 22 = some 1 := by kernel_rfl
@[go_sem] theorem Tryd.ag22 : aggT Tryd.prog 22 = some false := by kernel_rfl
@[go_sem] theorem Tryd.by22 : bytesT Tryd.prog 22 = some 24 := by kernel_rfl
@[go_sem] theorem Tryd.sh22 : Go.SX.shape Tryd.prog 9 22 = some [.slc] := by kernel_rfl
@[go_sem] theorem Tryd.ze22 : zeroT Tryd.prog 22 = some [.slice none 0 0] := by kernel_rfl
@[go_sem] theorem Tryd.zv22 : zeroVal Tryd.prog 22 = some (.slice none 0 0) := by kernel_rfl
@[go_sem] theorem Tryd.ud22 : (Tryd.prog.underlying 22).isSome = true := by kernel_rfl
@[go_sem] theorem Tryd.sz23 : sizeT Tryd.prog 23 = some 1 := by kernel_rfl
@[go_sem] theorem Tryd.ag23 : aggT Tryd.prog 23 = some false := by kernel_rfl
@[go_sem] theorem Tryd.by23 : bytesT Tryd.prog 23 = some 24 := by kernel_rfl
@[go_sem] theorem Tryd.sh23 : Go.SX.shape Tryd.prog 9 23 = some [.slc] := by kernel_rfl
@[go_sem] theorem Tryd.ze23 : zeroT Tryd.prog 23 = some [.slice none 0 0] := by kernel_rfl
@[go_sem] theorem Tryd.zv23 : zeroVal Tryd.prog 23 = some (.slice none 0 0) := by kernel_rfl
@[go_sem] theorem Tryd.ud23 : (Tryd.prog.underlying 23).isSome = true := by kernel_rfl
@[go_sem] theorem Tryd.sz24 : sizeT Tryd.prog 24 = some 1 := by kernel_rfl
@[go_sem] theorem Tryd.ag24 : aggT Tryd.prog 24 = some false := by kernel_rfl
@[go_sem] theorem Tryd.by24 : bytesT Tryd.prog 24 = some 8 := by kernel_rfl
@[go_sem] theorem Tryd.sh24 : Go.SX.shape Tryd.prog 9 24 = some [.int .i64] := by kernel_rfl
@[go_sem] theorem Tryd.ze24 : zeroT Tryd.prog 24 = some [.int .i64 0] := by kernel_rfl
@[go_sem] theorem Tryd.zv24 : zeroVal Tryd.prog 24 = some (.int .i64 0) := by kernel_rfl
@[go_sem] theorem Tryd.ud24 : (Tryd.prog.underlying 24).isSome = true := by kernel_rfl
@[go_sem] theorem Tryd.sz27 : sizeT Tryd.prog 27 = some 2 := by kernel_rfl
@[go_sem] theorem Tryd.ag27 : aggT Tryd.prog 27 = some true := by kernel_rfl
@[go_sem] theorem Tryd.by27 : bytesT Tryd.prog 27 = some 24 := by kernel_rfl
@[go_sem] theorem Tryd.sh27 : Go.SX.shape Tryd.prog 9 27 = some [.int .i64, .str] := by kernel_rfl
@[go_sem] theorem Tryd.ze27 : zeroT Tryd.prog 27 = some [.int .i64 0, .string ⟨#[]⟩] := by kernel_rfl
@[go_sem] theorem Tryd.zv27 : zeroVal Tryd.prog 27 = some (.agg #[.int .i64 0, .string ⟨#[]⟩]) := by kernel_rfl
@[go_sem] theorem Tryd.pl27 : placesOf Tryd.prog 27 = some [(0, 1), (1, 1)] := by kernel_rfl
@[go_sem] theorem Tryd.ud27 : (Tryd.prog.underlying 27).isSome = true := by kernel_rfl
@[go_sem] theorem Tryd.sz28 : sizeT Tryd.prog 28 = some 2 := by kernel_rfl
@[go_sem] theorem Tryd.ag28 : aggT Tryd.prog 28 = some true := by kernel_rfl
@[go_sem] theorem Tryd.by28 : bytesT Tryd.prog 28 = some 24 := by kernel_rfl
@[go_sem] theorem Tryd.sh28 : Go.SX.shape Tryd.prog 9 28 = some [.int .i64, .str] := by kernel_rfl
@[go_sem] theorem Tryd.ze28 : zeroT Tryd.prog 28 = some [.int .i64 0, .string ⟨#[]⟩] := by kernel_rfl
@[go_sem] theorem Tryd.zv28 : zeroVal Tryd.prog 28 = some (.agg #[.int .i64 0, .string ⟨#[]⟩]) := by kernel_rfl
@[go_sem] theorem Tryd.pl28 : placesOf Tryd.prog 28 = some [(0, 1), (1, 1)] := by kernel_rfl
@[go_sem] theorem Tryd.ud28 : (Tryd.prog.underlying 28).isSome = true := by kernel_rfl
@[go_sem] theorem Tryd.sz34 : sizeT Tryd.prog 34 = some 1 := by kernel_rfl
@[go_sem] theorem Tryd.ag34 : aggT Tryd.prog 34 = some false := by kernel_rfl
@[go_sem] theorem Tryd.by34 : bytesT Tryd.prog 34 = some 24 := by kernel_rfl
@[go_sem] theorem Tryd.sh34 : Go.SX.shape Tryd.prog 9 34 = some [.slc] := by kernel_rfl
@[go_sem] theorem Tryd.ze34 : zeroT Tryd.prog 34 = some [.slice none 0 0] := by kernel_rfl
@[go_sem] theorem Tryd.zv34 : zeroVal Tryd.prog 34 = some (.slice none 0 0) := by kernel_rfl
@[go_sem] theorem Tryd.ud34 : (Tryd.prog.underlying 34).isSome = true := by kernel_rfl
@[go_sem] theorem Tryd.sz38 : sizeT Tryd.prog 38 = some 1 := by kernel_rfl
@[go_sem] theorem Tryd.ag38 : aggT Tryd.prog 38 = some false := by kernel_rfl
@[go_sem] theorem Tryd.by38 : bytesT Tryd.prog 38 = some 24 := by kernel_rfl
@[go_sem] theorem Tryd.sh38 : Go.SX.shape Tryd.prog 9 38 = some [.slc] := by kernel_rfl
@[go_sem] theorem Tryd.ze38 : zeroT Tryd.prog 38 = some [.slice none 0 0] := by kernel_rfl
@[go_sem] theorem Tryd.zv38 : zeroVal Tryd.prog 38 = some (.slice none 0 0) := by kernel_rfl
@[go_sem] theorem Tryd.ud38 : (Tryd.prog.underlying 38).isSome = true := by kernel_rfl
@[go_sem] theorem Tryd.sz39 : sizeT Tryd.prog 39 = some 7 := by kernel_rfl
@[go_sem] theorem Tryd.ag39 : aggT Tryd.prog 39 = some true := by kernel_rfl
@[go_sem] theorem Tryd.by39 : bytesT Tryd.prog 39 = some 88 := by kernel_rfl
@[go_sem] theorem Tryd.sh39 : Go.SX.shape Tryd.prog 9 39 = some [.str, .int .i64, .int .i64, .int .i64, .int .i64, .slc, .str] := by kernel_rfl
@[go_sem] theorem Tryd.ze39 : zeroT Tryd.prog 39 = some [.string ⟨#[]⟩, .int .i64 0, .int .i64 0, .int .i64 0, .int .i64 0, .slice none 0 0, .string ⟨#[]⟩] := by kernel_rfl
@[go_sem] theorem Tryd.zv39 : zeroVal Tryd.prog 39 = some (.agg #[.string ⟨#[]⟩, .int .i64 0, .int .i64 0, .int .i64 0, .int .i64 0, .slice none 0 0, .string ⟨#[]⟩]) := by kernel_rfl
@[go_sem] theorem Tryd.pl39 : placesOf Tryd.prog 39 = some [(0, 1), (1, 1), (2, 1), (3, 1), (4, 1), (5, 1), (6, 1)] := by kernel_rfl
@[go_sem] theorem Tryd.ud39 : (Tryd.prog.underlying 39).isSome = true := by kernel_rfl
@[go_sem] theorem Tryd.sz40 : sizeT Tryd.prog 40 = some 7 := by kernel_rfl
@[go_sem] theorem Tryd.ag40 : aggT Tryd.prog 40 = some true := by kernel_rfl
@[go_sem] theorem Tryd.by40 : bytesT Tryd.prog 40 = some 88 := by kernel_rfl
@[go_sem] theorem Tryd.sh40 : Go.SX.shape Tryd.prog 9 40 = some [.str, .int .i64, .int .i64, .int .i64, .int .i64, .slc, .str] := by kernel_rfl
@[go_sem] theorem Tryd.ze40 : zeroT Tryd.prog 40 = some [.string ⟨#[]⟩, .int .i64 0, .int .i64 0, .int .i64 0, .int .i64 0, .slice none 0 0, .string ⟨#[]⟩] := by kernel_rfl
@[go_sem] theorem Tryd.zv40 : zeroVal Tryd.prog 40 = some (.agg #[.string ⟨#[]⟩, .int .i64 0, .int .i64 0, .int .i64 0, .int .i64 0, .slice none 0 0, .string ⟨#[]⟩]) := by kernel_rfl
@[go_sem] theorem Tryd.pl40 : placesOf Tryd.prog 40 = some [(0, 1), (1, 1), (2, 1), (3, 1), (4, 1), (5, 1), (6, 1)] := by kernel_rfl
@[go_sem] theorem Tryd.ud40 : (Tryd.prog.underlying 40).isSome = true := by kernel_rfl
@[go_sem] theorem Tryd.sz42 : sizeT Tryd.prog 42 = some 8 := by kernel_rfl
@[go_sem] theorem Tryd.ag42 : aggT Tryd.prog 42 = some true := by kernel_rfl
@[go_sem] theorem Tryd.by42 : bytesT Tryd.prog 42 = some 8 := by kernel_rfl
@[go_sem] theorem Tryd.sh42 : Go.SX.shape Tryd.prog 9 42 = some [.int .u8, .int .u8, .int .u8, .int .u8, .int .u8, .int .u8, .int .u8, .int .u8] := by kernel_rfl
@[go_sem] theorem Tryd.ze42 : zeroT Tryd.prog 42 = some [.int .u8 0, .int .u8 0, .int .u8 0, .int .u8 0, .int .u8 0, .int .u8 0, .int .u8 0, .int .u8 0] := by kernel_rfl
@[go_sem] theorem Tryd.zv42 : zeroVal Tryd.prog 42 = some (.agg #[.int .u8 0, .int .u8 0, .int .u8 0, .int .u8 0, .int .u8 0, .int .u8 0, .int .u8 0, .int .u8 0]) := by kernel_rfl
@[go_sem] theorem Tryd.pl42 : placesOf Tryd.prog 42 = some [(0, 1), (1, 1), (2, 1), (3, 1), (4, 1), (5, 1), (6, 1), (7, 1)] := by kernel_rfl
@[go_sem] theorem Tryd.ud42 : (Tryd.prog.underlying 42).isSome = true := by kernel_rfl
@[go_sem] theorem Tryd.sz43 : sizeT Tryd.prog 43 = some 8 := by kernel_rfl
@[go_sem] theorem Tryd.ag43 : aggT Tryd.prog 43 = some true := by kernel_rfl
@[go_sem] theorem Tryd.by43 : bytesT Tryd.prog 43 = some 8 := by kernel_rfl
@[go_sem] theorem Tryd.sh43 : Go.SX.shape Tryd.prog 9 43 = some [.int .u8, .int .u8, .int .u8, .int .u8, .int .u8, .int .u8, .int .u8, .int .u8] := by kernel_rfl
@[go_sem] theorem Tryd.ze43 : zeroT Tryd.prog 43 = some [.int .u8 0, .int .u8 0, .int .u8 0, .int .u8 0, .int .u8 0, .int .u8 0, .int .u8 0, .int .u8 0] := by kernel_rfl
@[go_sem] theorem Tryd.zv43 : zeroVal Tryd.prog 43 = some (.agg #[.int .u8 0, .int .u8 0, .int .u8 0, .int .u8 0, .int .u8 0, .int .u8 0, .int .u8 0, .int .u8 0]) := by kernel_rfl
@[go_sem] theorem Tryd.pl43 : placesOf Tryd.prog 43 = some [(0, 1), (1, 1), (2, 1), (3, 1), (4, 1), (5, 1), (6, 1), (7, 1)] := by kernel_rfl
@[go_sem] theorem Tryd.ud43 : (Tryd.prog.underlying 43).isSome = true := by kernel_rfl
@[go_sem] theorem Tryd.sz53 : sizeT Tryd.prog 53 = some 1 := by kernel_rfl
@[go_sem] theorem Tryd.ag53 : aggT Tryd.prog 53 = some false := by kernel_rfl
@[go_sem] theorem Tryd.by53 : bytesT Tryd.prog 53 = some 24 := by kernel_rfl
@[go_sem] theorem Tryd.sh53 : Go.SX.shape Tryd.prog 9 53 = some [.slc] := by kernel_rfl
@[go_sem] theorem Tryd.ze53 : zeroT Tryd.prog 53 = some [.slice none 0 0] := by kernel_rfl
@[go_sem] theorem Tryd.zv53 : zeroVal Tryd.prog 53 = some (.slice none 0 0) := by kernel_rfl
@[go_sem] theorem Tryd.ud53 : (Tryd.prog.underlying 53).isSome = true := by kernel_rfl
@[go_sem] theorem Tryd.sz66 : sizeT Tryd.prog 66 = some 1 := by kernel_rfl
@[go_sem] theorem Tryd.ag66 : aggT Tryd.prog 66 = some false := by kernel_rfl
@[go_sem] theorem Tryd.by66 : bytesT Tryd.prog 66 = some 8 := by kernel_rfl
@[go_sem] theorem Tryd.sh66 : Go.SX.shape Tryd.prog 9 66 = some [.int .u64] := by kernel_rfl
@[go_sem] theorem Tryd.ze66 : zeroT Tryd.prog 66 = some [.int .u64 0] := by kernel_rfl
@[go_sem] theorem Tryd.zv66 : zeroVal Tryd.prog 66 = some (.int .u64 0) := by kernel_rfl
@[go_sem] theorem Tryd.ud66 : (Tryd.prog.underlying 66).isSome = true := by kernel_rfl
@[go_sem] theorem Tryd.sz69 : sizeT Tryd.prog 69 = some 1 := by kernel_rfl
@[go_sem] theorem Tryd.ag69 : aggT Tryd.prog 69 = some false := by kernel_rfl
@[go_sem] theorem Tryd.by69 : bytesT Tryd.prog 69 = some 8 := by kernel_rfl
@[go_sem] theorem Tryd.sh69 : Go.SX.shape Tryd.prog 9 69 = some [.ptr] := by kernel_rfl
@[go_sem] theorem Tryd.ze69 : zeroT Tryd.prog 69 = some [.pointer none] := by kernel_rfl
@[go_sem] theorem Tryd.zv69 : zeroVal Tryd.prog 69 = some (.pointer none) := by kernel_rfl
@[go_sem] theorem Tryd.ud69 : (Tryd.prog.underlying 69).isSome = true := by kernel_rfl
@[go_sem] theorem Tryd.sz70 : sizeT Tryd.prog 70 = some 2 := by kernel_rfl
@[go_sem] theorem Tryd.ag70 : aggT Tryd.prog 70 = some true := by kernel_rfl
@[go_sem] theorem Tryd.by70 : bytesT Tryd.prog 70 = some 24 := by kernel_rfl
@[go_sem] theorem Tryd.sh70 : Go.SX.shape Tryd.prog 9 70 = some [.str, .int .i64] := by kernel_rfl
@[go_sem] theorem Tryd.ze70 : zeroT Tryd.prog 70 = some [.string ⟨#[]⟩, .int .i64 0] := by kernel_rfl
@[go_sem] theorem Tryd.zv70 : zeroVal Tryd.prog 70 = some (.agg #[.string ⟨#[]⟩, .int .i64 0]) := by kernel_rfl
@[go_sem] theorem Tryd.pl70 : placesOf Tryd.prog 70 = some [(0, 1), (1, 1)] := by kernel_rfl
@[go_sem] theorem Tryd.ud70 : (Tryd.prog.underlying 70).isSome = true := by kernel_rfl
@[go_sem] theorem Tryd.sz71 : sizeT Tryd.prog 71 = some 2 := by kernel_rfl
@[go_sem] theorem Tryd.ag71 : aggT Tryd.prog 71 = some true := by kernel_rfl
@[go_sem] theorem Tryd.by71 : bytesT Tryd.prog 71 = some 24 := by kernel_rfl
@[go_sem] theorem Tryd.sh71 : Go.SX.shape Tryd.prog 9 71 = some [.str, .int .i64] := by kernel_rfl
@[go_sem] theorem Tryd.ze71 : zeroT Tryd.prog 71 = some [.string ⟨#[]⟩, .int .i64 0] := by kernel_rfl
@[go_sem] theorem Tryd.zv71 : zeroVal Tryd.prog 71 = some (.agg #[.string ⟨#[]⟩, .int .i64 0]) := by kernel_rfl
@[go_sem] theorem Tryd.pl71 : placesOf Tryd.prog 71 = some [(0, 1), (1, 1)] := by kernel_rfl
@[go_sem] theorem Tryd.ud71 : (Tryd.prog.underlying 71).isSome = true := by kernel_rfl
@[go_sem] theorem Tryd.sz78 : sizeT Tryd.prog 78 = some 1 := by kernel_rfl
@[go_sem] theorem Tryd.ag78 : aggT Tryd.prog 78 = some false := by kernel_rfl
@[go_sem] theorem Tryd.by78 : bytesT Tryd.prog 78 = some 8 := by kernel_rfl
@[go_sem] theorem Tryd.sh78 : Go.SX.shape Tryd.prog 9 78 = some [.ptr] := by kernel_rfl
@[go_sem] theorem Tryd.ze78 : zeroT Tryd.prog 78 = some [.pointer none] := by kernel_rfl
@[go_sem] theorem Tryd.zv78 : zeroVal Tryd.prog 78 = some (.pointer none) := by kernel_rfl
@[go_sem] theorem Tryd.ud78 : (Tryd.prog.underlying 78).isSome = true := by kernel_rfl
@[go_sem] theorem Tryd.sz79 : sizeT Tryd.prog 79 = some 2 := by kernel_rfl
@[go_sem] theorem Tryd.ag79 : aggT Tryd.prog 79 = some true := by kernel_rfl
@[go_sem] theorem Tryd.by79 : bytesT Tryd.prog 79 = some 32 := by kernel_rfl
@[go_sem] theorem Tryd.sh79 : Go.SX.shape Tryd.prog 9 79 = some [.ptr, .slc] := by kernel_rfl
@[go_sem] theorem Tryd.ze79 : zeroT Tryd.prog 79 = some [.pointer none, .slice none 0 0] := by kernel_rfl
@[go_sem] theorem Tryd.zv79 : zeroVal Tryd.prog 79 = some (.agg #[.pointer none, .slice none 0 0]) := by kernel_rfl
@[go_sem] theorem Tryd.pl79 : placesOf Tryd.prog 79 = some [(0, 1), (1, 1)] := by kernel_rfl
@[go_sem] theorem Tryd.ud79 : (Tryd.prog.underlying 79).isSome = true := by kernel_rfl
@[go_sem] theorem Tryd.sz80 : sizeT Tryd.prog 80 = some 2 := by kernel_rfl
@[go_sem] theorem Tryd.ag80 : aggT Tryd.prog 80 = some true := by kernel_rfl
@[go_sem] theorem Tryd.by80 : bytesT Tryd.prog 80 = some 32 := by kernel_rfl
@[go_sem] theorem Tryd.sh80 : Go.SX.shape Tryd.prog 9 80 = some [.ptr, .slc] := by kernel_rfl
@[go_sem] theorem Tryd.ze80 : zeroT Tryd.prog 80 = some [.pointer none, .slice none 0 0] := by kernel_rfl
@[go_sem] theorem Tryd.zv80 : zeroVal Tryd.prog 80 = some (.agg #[.pointer none, .slice none 0 0]) := by kernel_rfl
@[go_sem] theorem Tryd.pl80 : placesOf Tryd.prog 80 = some [(0, 1), (1, 1)] := by kernel_rfl
@[go_sem] theorem Tryd.ud80 : (Tryd.prog.underlying 80).isSome = true := by kernel_rfl
@[go_sem] theorem Tryd.sz96 : sizeT Tryd.prog 96 = some 0 := by kernel_rfl
@[go_sem] theorem Tryd.ag96 : aggT Tryd.prog 96 = some true := by kernel_rfl
@[go_sem] theorem Tryd.by96 : bytesT Tryd.prog 96 = some 0 := by kernel_rfl
@[go_sem] theorem Tryd.sh96 : Go.SX.shape Tryd.prog 9 96 = some [] := by kernel_rfl
@[go_sem] theorem Tryd.ze96 : zeroT Tryd.prog 96 = some [] := by kernel_rfl
@[go_sem] theorem Tryd.zv96 : zeroVal Tryd.prog 96 = some (.agg #[]) := by kernel_rfl
@[go_sem] theorem Tryd.pl96 : placesOf Tryd.prog 96 = some [] := by kernel_rfl
@[go_sem] theorem Tryd.ud96 : (Tryd.prog.underlying 96).isSome = true := by kernel_rfl
@[go_sem] theorem Tryd.sz97 : sizeT Tryd.prog 97 = some 0 := by kernel_rfl
@[go_sem] theorem Tryd.ag97 : aggT Tryd.prog 97 = some true := by kernel_rfl
@[go_sem] theorem Tryd.by97 : bytesT Tryd.prog 97 = some 0 := by kernel_rfl
@[go_sem] theorem Tryd.sh97 : Go.SX.shape Tryd.prog 9 97 = some [] := by kernel_rfl
@[go_sem] theorem Tryd.ze97 : zeroT Tryd.prog 97 = some [] := by kernel_rfl
@[go_sem] theorem Tryd.zv97 : zeroVal Tryd.prog 97 = some (.agg #[]) := by kernel_rfl
@[go_sem] theorem Tryd.pl97 : placesOf Tryd.prog 97 = some [] := by kernel_rfl
@[go_sem] theorem Tryd.ud97 : (Tryd.prog.underlying 97).isSome = true := by kernel_rfl
@[go_sem] theorem Tryd.sz100 : sizeT Tryd.prog 100 = some 1 := by kernel_rfl
@[go_sem] theorem Tryd.ag100 : aggT Tryd.prog 100 = some false := by kernel_rfl
@[go_sem] theorem Tryd.by100 : bytesT Tryd.prog 100 = some 8 := by kernel_rfl
@[go_sem] theorem Tryd.sh100 : Go.SX.shape Tryd.prog 9 100 = some [.ptr] := by kernel_rfl
@[go_sem] theorem Tryd.ze100 : zeroT Tryd.prog 100 = some [.pointer none] := by kernel_rfl
@[go_sem] theorem Tryd.zv100 : zeroVal Tryd.prog 100 = some (.pointer none) := by kernel_rfl
@[go_sem] theorem Tryd.ud100 : (Tryd.prog.underlying 100).isSome = true := by kernel_rfl
@[go_sem] theorem Tryd.sz109 : sizeT Tryd.prog 109 = some 1 := by kernel_rfl
@[go_sem] theorem Tryd.ag109 : aggT Tryd.prog 109 = some false := by kernel_rfl
@[go_sem] theorem Tryd.by109 : bytesT Tryd.prog 109 = some 8 := by kernel_rfl
@[go_sem] theorem Tryd.sh109 : Go.SX.shape Tryd.prog 9 109 = some [.int .u64] := by kernel_rfl
@[go_sem] theorem Tryd.ze109 : zeroT Tryd.prog 109 = some [.int .u64 0] := by kernel_rfl
@[go_sem] theorem Tryd.zv109 : zeroVal Tryd.prog 109 = some (.int .u64 0) := by kernel_rfl
@[go_sem] theorem Tryd.ud109 : (Tryd.prog.underlying 109).isSome = true := by kernel_rfl
@[go_sem] theorem Tryd.sz115 : sizeT Tryd.prog 115 = some 2 := by kernel_rfl
@[go_sem] theorem Tryd.ag115 : aggT Tryd.prog 115 = some true := by kernel_rfl
@[go_sem] theorem Tryd.by115 : bytesT Tryd.prog 115 = some 2 := by kernel_rfl
@[go_sem] theorem Tryd.sh115 : Go.SX.shape Tryd.prog 9 115 = some [.int .u8, .int .u8] := by kernel_rfl
@[go_sem] theorem Tryd.ze115 : zeroT Tryd.prog 115 = some [.int .u8 0, .int .u8 0] := by kernel_rfl
@[go_sem] theorem Tryd.zv115 : zeroVal Tryd.prog 115 = some (.agg #[.int .u8 0, .int .u8 0]) := by kernel_rfl
@[go_sem] theorem Tryd.pl115 : placesOf Tryd.prog 115 = some [(0, 1), (1, 1)] := by kernel_rfl
@[go_sem] theorem Tryd.ud115 : (Tryd.prog.underlying 115).isSome = true := by kernel_rfl
@[go_sem] theorem Tryd.sz116 : sizeT Tryd.prog 116 = some 2 := by kernel_rfl
@[go_sem] theorem Tryd.ag116 : aggT Tryd.prog 116 = some true := by kernel_rfl
@[go_sem] theorem Tryd.by116 : bytesT Tryd.prog 116 = some 2 := by kernel_rfl
@[go_sem] theorem Tryd.sh116 : Go.SX.shape Tryd.prog 9 116 = some [.int .u8, .int .u8] := by kernel_rfl
@[go_sem] theorem Tryd.ze116 : zeroT Tryd.prog 116 = some [.int .u8 0, .int .u8 0] := by kernel_rfl
@[go_sem] theorem Tryd.zv116 : zeroVal Tryd.prog 116 = some (.agg #[.int .u8 0, .int .u8 0]) := by kernel_rfl
@[go_sem] theorem Tryd.pl116 : placesOf Tryd.prog 116 = some [(0, 1), (1, 1)] := by kernel_rfl
@[go_sem] theorem Tryd.ud116 : (Tryd.prog.underlying 116).isSome = true := by kernel_rfl
@[go_sem] theorem Tryd.sz117 : sizeT Tryd.prog 117 = some 32 := by kernel_rfl
@[go_sem] theorem Tryd.ag117 : aggT Tryd.prog 117 = some true := by kernel_rfl
@[go_sem] theorem Tryd.by117 : bytesT Tryd.prog 117 = some 32 := by kernel_rfl
@[go_sem] theorem Tryd.sh117 : Go.SX.shape Tryd.prog 9 117 = some [.int .u8, .int .u8, .int .u8, .int .u8, .int .u8, .int .u8, .int .u8, .int .u8, .int .u8, .int .u8, .int .u8, .int .u8, .int .u8, .int .u8, .int .u8, .int .u8, .int .u8, .int .u8, .int .u8, .int .u8, .int .u8, .int .u8, .int .u8, .int .u8, .int .u8, .int .u8, .int .u8, .int .u8, .int .u8, .int .u8, .int .u8, .int .u8] := by kernel_rfl
@[go_sem] theorem Tryd.ze117 : zeroT Tryd.prog 117 = some [.int .u8 0, .int .u8 0, .int .u8 0, .int .u8 0, .int .u8 0, .int .u8 0, .int .u8 0, .int .u8 0, .int .u8 0, .int .u8 0, .int .u8 0, .int .u8 0, .int .u8 0, .int .u8 0, .int .u8 0, .int .u8 0, .int .u8 0, .int .u8 0, .int .u8 0, .int .u8 0, .int .u8 0, .int .u8 0, .int .u8 0, .int .u8 0, .int .u8 0, .int .u8 0, .int .u8 0, .int .u8 0, .int .u8 0, .int .u8 0, .int .u8 0, .int .u8 0] := by kernel_rfl
@[go_sem] theorem Tryd.zv117 : zeroVal Tryd.prog 117 = some (.agg #[.int .u8 0, .int .u8 0, .int .u8 0, .int .u8 0, .int .u8 0, .int .u8 0, .int .u8 0, .int .u8 0, .int .u8 0, .int .u8 0, .int .u8 0, .int .u8 0, .int .u8 0, .int .u8 0, .int .u8 0, .int .u8 0, .int .u8 0, .int .u8 0, .int .u8 0, .int .u8 0, .int .u8 0, .int .u8 0, .int .u8 0, .int .u8 0, .int .u8 0, .int .u8 0, .int .u8 0, .int .u8 0, .int .u8 0, .int .u8 0, .int .u8 0, .int .u8 0]) := by kernel_rfl
@[go_sem] theorem Tryd.pl117 : placesOf Tryd.prog 117 = some [(0, 2), (2, 2), (4, 2), (6, 2), (8, 2), (10, 2), (12, 2), (14, 2), (16, 2), (18, 2), (20, 2), (22, 2), (24, 2), (26, 2), (28, 2), (30, 2)] := by kernel_rfl
@[go_sem] theorem Tryd.ud117 : (Tryd.prog.underlying 117).isSome = true := by kernel_rfl
@[go_sem] theorem Tryd.sz124 : sizeT Tryd.prog 124 = some 1 := by kernel_rfl
@[go_sem] theorem Tryd.ag124 : aggT Tryd.prog 124 = some false := by kernel_rfl
@[go_sem] theorem Tryd.by124 : bytesT Tryd.prog 124 = some 8 := by kernel_rfl
@[go_sem] theorem Tryd.sh124 : Go.SX.shape Tryd.prog 9 124 = some [.ptr] := by kernel_rfl
@[go_sem] theorem Tryd.ze124 : zeroT Tryd.prog 124 = some [.pointer none] := by kernel_rfl
@[go_sem] theorem Tryd.zv124 : zeroVal Tryd.prog 124 = some (.pointer none) := by kernel_rfl
@[go_sem] theorem Tryd.ud124 : (Tryd.prog.underlying 124).isSome = true := by kernel_rfl
@[go_sem] theorem Tryd.sz129 : sizeT Tryd.prog 129 = some 0 := by kernel_rfl
@[go_sem] theorem Tryd.ag129 : aggT Tryd.prog 129 = some true := by kernel_rfl
@[go_sem] theorem Tryd.by129 : bytesT Tryd.prog 129 = some 0 := by kernel_rfl
@[go_sem] theorem Tryd.sh129 : Go.SX.shape Tryd.prog 9 129 = some [] := by kernel_rfl
@[go_sem] theorem Tryd.ze129 : zeroT Tryd.prog 129 = some [] := by kernel_rfl
@[go_sem] theorem Tryd.zv129 : zeroVal Tryd.prog 129 = some (.agg #[]) := by kernel_rfl
@[go_sem] theorem Tryd.pl129 : placesOf Tryd.prog 129 = some [] := by kernel_rfl
@[go_sem] theorem Tryd.ud129 : (Tryd.prog.underlying 129).isSome = true := by kernel_rfl
@[go_sem] theorem Tryd.sz138 : sizeT Tryd.prog 138 = some 1 := by kernel_rfl
@[go_sem] theorem Tryd.ag138 : aggT Tryd.prog 138 = some false := by kernel_rfl
@[go_sem] theorem Tryd.by138 : bytesT Tryd.prog 138 = some 4 := by kernel_rfl
@[go_sem] theorem Tryd.sh138 : Go.SX.shape Tryd.prog 9 138 = some [.int .u32] := by kernel_rfl
@[go_sem] theorem Tryd.ze138 : zeroT Tryd.prog 138 = some [.int .u32 0] := by kernel_rfl
@[go_sem] theorem Tryd.zv138 : zeroVal Tryd.prog 138 = some (.int .u32 0) := by kernel_rfl
@[go_sem] theorem Tryd.ud138 : (Tryd.prog.underlying 138).isSome = true := by kernel_rfl
attribute [go_sem] Tryd.underlying1 Tryd.underlying2 Tryd.underlying3 Tryd.underlying4 Tryd.underlying5 Tryd.underlying9 Tryd.underlying12 Tryd.underlying17 Tryd.underlying20 Tryd.underlying21 Tryd.underlying22 Tryd.underlying23 Tryd.underlying24 Tryd.underlying26 Tryd.underlying27 Tryd.underlying28 Tryd.underlying30 Tryd.underlying31 Tryd.underlying32 Tryd.underlying33 Tryd.underlying34 Tryd.underlying36 Tryd.underlying37 Tryd.underlying38 Tryd.underlying39 Tryd.underlying40 Tryd.underlying41 Tryd.underlying42 Tryd.underlying43 Tryd.underlying44 Tryd.underlying46 Tryd.underlying48 Tryd.underlying49 Tryd.underlying50 Tryd.underlying51 Tryd.underlying52 Tryd.underlying53 Tryd.underlying55 Tryd.underlying56 Tryd.underlying57 Tryd.underlying58 Tryd.underlying59 Tryd.underlying60 Tryd.underlying62 Tryd.underlying63 Tryd.underlying64 Tryd.underlying65 Tryd.underlying66 Tryd.underlying67 Tryd.underlying68 Tryd.underlying69 Tryd.underlying70 Tryd.underlying71 Tryd.underlying72 Tryd.underlying73 Tryd.underlying74 Tryd.underlying75 Tryd.underlying76 Tryd.underlying77 Tryd.underlying78 Tryd.underlying79 Tryd.underlying80 Tryd.underlying81 Tryd.underlying82 Tryd.underlying83 Tryd.underlying85 Tryd.underlying86 Tryd.underlying88 Tryd.underlying89 Tryd.underlying90 Tryd.underlying91 Tryd.underlying92 Tryd.underlying93 Tryd.underlying94 Tryd.underlying95 Tryd.underlying96 Tryd.underlying97 Tryd.underlying98 Tryd.underlying99 Tryd.underlying100 Tryd.underlying101 Tryd.underlying102 Tryd.underlying103 Tryd.underlying104 Tryd.underlying106 Tryd.underlying108 Tryd.underlying109 Tryd.underlying110 Tryd.underlying113 Tryd.underlying114 Tryd.underlying115 Tryd.underlying116 Tryd.underlying117 Tryd.underlying118 Tryd.underlying119 Tryd.underlying120 Tryd.underlying122 Tryd.underlying123 Tryd.underlying124 Tryd.underlying125 Tryd.underlying127 Tryd.underlying128 Tryd.underlying129 Tryd.underlying130 Tryd.underlying131 Tryd.underlying132 Tryd.underlying133 Tryd.underlying134 Tryd.underlying135 Tryd.underlying136 Tryd.underlying137 Tryd.underlying138 Tryd.underlying140
@[go_sem] theorem Tryd.mixed : Tryd.prog.follows .mixedOrders = True := eq_true Tryd.checked.mixed
@[go_sem] theorem Tryd.ext3 : extOf Tryd.prog 3 = none := extOf_none Tryd.func3 (by kernel_rfl)
attribute [go_sem] Tryd.ntmps3 Tryd.results3
@[go_sem] theorem Tryd.can3 : canCall Tryd.prog 3 = True := canCall_of Tryd.func3 rfl (by kernel_rfl)
@[go_sem] theorem Tryd.ext4 : extOf Tryd.prog 4 = none := extOf_none Tryd.func4 (by kernel_rfl)
attribute [go_sem] Tryd.ntmps4 Tryd.results4
@[go_sem] theorem Tryd.can4 : canCall Tryd.prog 4 = True := canCall_of Tryd.func4 rfl (by kernel_rfl)
@[go_sem] theorem Tryd.ext5 : extOf Tryd.prog 5 = none := extOf_none Tryd.func5 (by kernel_rfl)
attribute [go_sem] Tryd.ntmps5 Tryd.results5
@[go_sem] theorem Tryd.can5 : canCall Tryd.prog 5 = True := canCall_of Tryd.func5 rfl (by kernel_rfl)
@[go_sem] theorem Tryd.ext6 : extOf Tryd.prog 6 = none := extOf_none Tryd.func6 (by kernel_rfl)
attribute [go_sem] Tryd.ntmps6 Tryd.results6
@[go_sem] theorem Tryd.can6 : canCall Tryd.prog 6 = True := canCall_of Tryd.func6 rfl (by kernel_rfl)
@[go_sem] theorem Tryd.ext7 : extOf Tryd.prog 7 = none := extOf_none Tryd.func7 (by kernel_rfl)
attribute [go_sem] Tryd.ntmps7 Tryd.results7
@[go_sem] theorem Tryd.can7 : canCall Tryd.prog 7 = True := canCall_of Tryd.func7 rfl (by kernel_rfl)
@[go_sem] theorem Tryd.ext8 : extOf Tryd.prog 8 = none := extOf_none Tryd.func8 (by kernel_rfl)
attribute [go_sem] Tryd.ntmps8 Tryd.results8
@[go_sem] theorem Tryd.can8 : canCall Tryd.prog 8 = True := canCall_of Tryd.func8 rfl (by kernel_rfl)
@[go_sem] theorem Tryd.ext9 : extOf Tryd.prog 9 = none := extOf_none Tryd.func9 (by kernel_rfl)
attribute [go_sem] Tryd.ntmps9 Tryd.results9
@[go_sem] theorem Tryd.can9 : canCall Tryd.prog 9 = True := canCall_of Tryd.func9 rfl (by kernel_rfl)
@[go_sem] theorem Tryd.ext10 : extOf Tryd.prog 10 = none := extOf_none Tryd.func10 (by kernel_rfl)
attribute [go_sem] Tryd.ntmps10 Tryd.results10
@[go_sem] theorem Tryd.can10 : canCall Tryd.prog 10 = True := canCall_of Tryd.func10 rfl (by kernel_rfl)
@[go_sem] theorem Tryd.ext11 : extOf Tryd.prog 11 = none := extOf_none Tryd.func11 (by kernel_rfl)
attribute [go_sem] Tryd.ntmps11 Tryd.results11
@[go_sem] theorem Tryd.can11 : canCall Tryd.prog 11 = True := canCall_of Tryd.func11 rfl (by kernel_rfl)
@[go_sem] theorem Tryd.ext12 : extOf Tryd.prog 12 = none := extOf_none Tryd.func12 (by kernel_rfl)
attribute [go_sem] Tryd.ntmps12 Tryd.results12
@[go_sem] theorem Tryd.can12 : canCall Tryd.prog 12 = True := canCall_of Tryd.func12 rfl (by kernel_rfl)
@[go_sem] theorem Tryd.ext13 : extOf Tryd.prog 13 = none := extOf_none Tryd.func13 (by kernel_rfl)
attribute [go_sem] Tryd.ntmps13 Tryd.results13
@[go_sem] theorem Tryd.can13 : canCall Tryd.prog 13 = True := canCall_of Tryd.func13 rfl (by kernel_rfl)
@[go_sem] theorem Tryd.ext14 : extOf Tryd.prog 14 = none := extOf_none Tryd.func14 (by kernel_rfl)
attribute [go_sem] Tryd.ntmps14 Tryd.results14
@[go_sem] theorem Tryd.can14 : canCall Tryd.prog 14 = True := canCall_of Tryd.func14 rfl (by kernel_rfl)
@[go_sem] theorem Tryd.ext15 : extOf Tryd.prog 15 = none := extOf_none Tryd.func15 (by kernel_rfl)
attribute [go_sem] Tryd.ntmps15 Tryd.results15
@[go_sem] theorem Tryd.can15 : canCall Tryd.prog 15 = True := canCall_of Tryd.func15 rfl (by kernel_rfl)
@[go_sem] theorem Tryd.ext16 : extOf Tryd.prog 16 = none := extOf_none Tryd.func16 (by kernel_rfl)
attribute [go_sem] Tryd.ntmps16 Tryd.results16
@[go_sem] theorem Tryd.can16 : canCall Tryd.prog 16 = True := canCall_of Tryd.func16 rfl (by kernel_rfl)
@[go_sem] theorem Tryd.ext17 : extOf Tryd.prog 17 = none := extOf_none Tryd.func17 (by kernel_rfl)
attribute [go_sem] Tryd.ntmps17 Tryd.results17
@[go_sem] theorem Tryd.can17 : canCall Tryd.prog 17 = True := canCall_of Tryd.func17 rfl (by kernel_rfl)
@[go_sem] theorem Tryd.ext18 : extOf Tryd.prog 18 = none := extOf_none Tryd.func18 (by kernel_rfl)
attribute [go_sem] Tryd.ntmps18 Tryd.results18
@[go_sem] theorem Tryd.can18 : canCall Tryd.prog 18 = True := canCall_of Tryd.func18 rfl (by kernel_rfl)
@[go_sem] theorem Tryd.ext19 : extOf Tryd.prog 19 = none := extOf_none Tryd.func19 (by kernel_rfl)
attribute [go_sem] Tryd.ntmps19 Tryd.results19
@[go_sem] theorem Tryd.can19 : canCall Tryd.prog 19 = True := canCall_of Tryd.func19 rfl (by kernel_rfl)
@[go_sem] theorem Tryd.ext20 : extOf Tryd.prog 20 = none := extOf_none Tryd.func20 (by kernel_rfl)
attribute [go_sem] Tryd.ntmps20 Tryd.results20
@[go_sem] theorem Tryd.can20 : canCall Tryd.prog 20 = True := canCall_of Tryd.func20 rfl (by kernel_rfl)
@[go_sem] theorem Tryd.ext21 : extOf Tryd.prog 21 = none := extOf_none Tryd.func21 (by kernel_rfl)
attribute [go_sem] Tryd.ntmps21 Tryd.results21
@[go_sem] theorem Tryd.can21 : canCall Tryd.prog 21 = True := canCall_of Tryd.func21 rfl (by kernel_rfl)
@[go_sem] theorem Tryd.ext22 : extOf Tryd.prog 22 = none := extOf_none Tryd.func22 (by kernel_rfl)
attribute [go_sem] Tryd.ntmps22 Tryd.results22
@[go_sem] theorem Tryd.can22 : canCall Tryd.prog 22 = True := canCall_of Tryd.func22 rfl (by kernel_rfl)
@[go_sem] theorem Tryd.ext23 : extOf Tryd.prog 23 = none := extOf_none Tryd.func23 (by kernel_rfl)
attribute [go_sem] Tryd.ntmps23 Tryd.results23
@[go_sem] theorem Tryd.can23 : canCall Tryd.prog 23 = True := canCall_of Tryd.func23 rfl (by kernel_rfl)
@[go_sem] theorem Tryd.ext24 : extOf Tryd.prog 24 = none := extOf_none Tryd.func24 (by kernel_rfl)
attribute [go_sem] Tryd.ntmps24 Tryd.results24
@[go_sem] theorem Tryd.can24 : canCall Tryd.prog 24 = True := canCall_of Tryd.func24 rfl (by kernel_rfl)
@[go_sem] theorem Tryd.ext25 : extOf Tryd.prog 25 = none := extOf_none Tryd.func25 (by kernel_rfl)
attribute [go_sem] Tryd.ntmps25 Tryd.results25
@[go_sem] theorem Tryd.can25 : canCall Tryd.prog 25 = True := canCall_of Tryd.func25 rfl (by kernel_rfl)
@[go_sem] theorem Tryd.ext26 : extOf Tryd.prog 26 = none := extOf_none Tryd.func26 (by kernel_rfl)
attribute [go_sem] Tryd.ntmps26 Tryd.results26
@[go_sem] theorem Tryd.can26 : canCall Tryd.prog 26 = True := canCall_of Tryd.func26 rfl (by kernel_rfl)
@[go_sem] theorem Tryd.ext27 : extOf Tryd.prog 27 = none := extOf_none Tryd.func27 (by kernel_rfl)
attribute [go_sem] Tryd.ntmps27 Tryd.results27
@[go_sem] theorem Tryd.can27 : canCall Tryd.prog 27 = True := canCall_of Tryd.func27 rfl (by kernel_rfl)
@[go_sem] theorem Tryd.ext28 : extOf Tryd.prog 28 = none := extOf_none Tryd.func28 (by kernel_rfl)
attribute [go_sem] Tryd.ntmps28 Tryd.results28
@[go_sem] theorem Tryd.can28 : canCall Tryd.prog 28 = True := canCall_of Tryd.func28 rfl (by kernel_rfl)
@[go_sem] theorem Tryd.ext29 : extOf Tryd.prog 29 = none := extOf_none Tryd.func29 (by kernel_rfl)
attribute [go_sem] Tryd.ntmps29 Tryd.results29
@[go_sem] theorem Tryd.can29 : canCall Tryd.prog 29 = True := canCall_of Tryd.func29 rfl (by kernel_rfl)
@[go_sem] theorem Tryd.ext30 : extOf Tryd.prog 30 = none := extOf_none Tryd.func30 (by kernel_rfl)
attribute [go_sem] Tryd.ntmps30 Tryd.results30
@[go_sem] theorem Tryd.can30 : canCall Tryd.prog 30 = True := canCall_of Tryd.func30 rfl (by kernel_rfl)
@[go_sem] theorem Tryd.ext31 : extOf Tryd.prog 31 = none := extOf_none Tryd.func31 (by kernel_rfl)
attribute [go_sem] Tryd.ntmps31 Tryd.results31
@[go_sem] theorem Tryd.can31 : canCall Tryd.prog 31 = True := canCall_of Tryd.func31 rfl (by kernel_rfl)
@[go_sem] theorem Tryd.ext32 : extOf Tryd.prog 32 = none := extOf_none Tryd.func32 (by kernel_rfl)
attribute [go_sem] Tryd.ntmps32 Tryd.results32
@[go_sem] theorem Tryd.can32 : canCall Tryd.prog 32 = True := canCall_of Tryd.func32 rfl (by kernel_rfl)
@[go_sem] theorem Tryd.ext33 : extOf Tryd.prog 33 = none := extOf_none Tryd.func33 (by kernel_rfl)
attribute [go_sem] Tryd.ntmps33 Tryd.results33
@[go_sem] theorem Tryd.can33 : canCall Tryd.prog 33 = True := canCall_of Tryd.func33 rfl (by kernel_rfl)
@[go_sem] theorem Tryd.ext34 : extOf Tryd.prog 34 = none := extOf_none Tryd.func34 (by kernel_rfl)
attribute [go_sem] Tryd.ntmps34 Tryd.results34
@[go_sem] theorem Tryd.can34 : canCall Tryd.prog 34 = True := canCall_of Tryd.func34 rfl (by kernel_rfl)
@[go_sem] theorem Tryd.ext35 : extOf Tryd.prog 35 = none := extOf_none Tryd.func35 (by kernel_rfl)
attribute [go_sem] Tryd.ntmps35 Tryd.results35
@[go_sem] theorem Tryd.can35 : canCall Tryd.prog 35 = True := canCall_of Tryd.func35 rfl (by kernel_rfl)
@[go_sem] theorem Tryd.ext36 : extOf Tryd.prog 36 = none := extOf_none Tryd.func36 (by kernel_rfl)
attribute [go_sem] Tryd.ntmps36 Tryd.results36
@[go_sem] theorem Tryd.can36 : canCall Tryd.prog 36 = True := canCall_of Tryd.func36 rfl (by kernel_rfl)
@[go_sem] theorem Tryd.ext37 : extOf Tryd.prog 37 = none := extOf_none Tryd.func37 (by kernel_rfl)
attribute [go_sem] Tryd.ntmps37 Tryd.results37
@[go_sem] theorem Tryd.can37 : canCall Tryd.prog 37 = True := canCall_of Tryd.func37 rfl (by kernel_rfl)
@[go_sem] theorem Tryd.ext38 : extOf Tryd.prog 38 = none := extOf_none Tryd.func38 (by kernel_rfl)
attribute [go_sem] Tryd.ntmps38 Tryd.results38
@[go_sem] theorem Tryd.can38 : canCall Tryd.prog 38 = True := canCall_of Tryd.func38 rfl (by kernel_rfl)
@[go_sem] theorem Tryd.ext39 : extOf Tryd.prog 39 = none := extOf_none Tryd.func39 (by kernel_rfl)
attribute [go_sem] Tryd.ntmps39 Tryd.results39
@[go_sem] theorem Tryd.can39 : canCall Tryd.prog 39 = True := canCall_of Tryd.func39 rfl (by kernel_rfl)
@[go_sem] theorem Tryd.ext40 : extOf Tryd.prog 40 = none := extOf_none Tryd.func40 (by kernel_rfl)
attribute [go_sem] Tryd.ntmps40 Tryd.results40
@[go_sem] theorem Tryd.can40 : canCall Tryd.prog 40 = True := canCall_of Tryd.func40 rfl (by kernel_rfl)
@[go_sem] theorem Tryd.ext41 : extOf Tryd.prog 41 = none := extOf_none Tryd.func41 (by kernel_rfl)
attribute [go_sem] Tryd.ntmps41 Tryd.results41
@[go_sem] theorem Tryd.can41 : canCall Tryd.prog 41 = True := canCall_of Tryd.func41 rfl (by kernel_rfl)
@[go_sem] theorem Tryd.ext42 : extOf Tryd.prog 42 = none := extOf_none Tryd.func42 (by kernel_rfl)
attribute [go_sem] Tryd.ntmps42 Tryd.results42
@[go_sem] theorem Tryd.can42 : canCall Tryd.prog 42 = True := canCall_of Tryd.func42 rfl (by kernel_rfl)
@[go_sem] theorem Tryd.ext43 : extOf Tryd.prog 43 = none := extOf_none Tryd.func43 (by kernel_rfl)
attribute [go_sem] Tryd.ntmps43 Tryd.results43
@[go_sem] theorem Tryd.can43 : canCall Tryd.prog 43 = True := canCall_of Tryd.func43 rfl (by kernel_rfl)
@[go_sem] theorem Tryd.ext44 : extOf Tryd.prog 44 = none := extOf_none Tryd.func44 (by kernel_rfl)
attribute [go_sem] Tryd.ntmps44 Tryd.results44
@[go_sem] theorem Tryd.can44 : canCall Tryd.prog 44 = True := canCall_of Tryd.func44 rfl (by kernel_rfl)
@[go_sem] theorem Tryd.ext45 : extOf Tryd.prog 45 = none := extOf_none Tryd.func45 (by kernel_rfl)
attribute [go_sem] Tryd.ntmps45 Tryd.results45
@[go_sem] theorem Tryd.can45 : canCall Tryd.prog 45 = True := canCall_of Tryd.func45 rfl (by kernel_rfl)
@[go_sem] theorem Tryd.ext46 : extOf Tryd.prog 46 = none := extOf_none Tryd.func46 (by kernel_rfl)
attribute [go_sem] Tryd.ntmps46 Tryd.results46
@[go_sem] theorem Tryd.can46 : canCall Tryd.prog 46 = True := canCall_of Tryd.func46 rfl (by kernel_rfl)
@[go_sem] theorem Tryd.ext47 : extOf Tryd.prog 47 = none := extOf_none Tryd.func47 (by kernel_rfl)
attribute [go_sem] Tryd.ntmps47 Tryd.results47
@[go_sem] theorem Tryd.can47 : canCall Tryd.prog 47 = True := canCall_of Tryd.func47 rfl (by kernel_rfl)
@[go_sem] theorem Tryd.ext48 : extOf Tryd.prog 48 = none := extOf_none Tryd.func48 (by kernel_rfl)
attribute [go_sem] Tryd.ntmps48 Tryd.results48
@[go_sem] theorem Tryd.can48 : canCall Tryd.prog 48 = True := canCall_of Tryd.func48 rfl (by kernel_rfl)
@[go_sem] theorem Tryd.ext49 : extOf Tryd.prog 49 = none := extOf_none Tryd.func49 (by kernel_rfl)
attribute [go_sem] Tryd.ntmps49 Tryd.results49
@[go_sem] theorem Tryd.can49 : canCall Tryd.prog 49 = True := canCall_of Tryd.func49 rfl (by kernel_rfl)
@[go_sem] theorem Tryd.ext50 : extOf Tryd.prog 50 = none := extOf_none Tryd.func50 (by kernel_rfl)
attribute [go_sem] Tryd.ntmps50 Tryd.results50
@[go_sem] theorem Tryd.can50 : canCall Tryd.prog 50 = True := canCall_of Tryd.func50 rfl (by kernel_rfl)
@[go_sem] theorem Tryd.ext51 : extOf Tryd.prog 51 = none := extOf_none Tryd.func51 (by kernel_rfl)
attribute [go_sem] Tryd.ntmps51 Tryd.results51
@[go_sem] theorem Tryd.can51 : canCall Tryd.prog 51 = True := canCall_of Tryd.func51 rfl (by kernel_rfl)
@[go_sem] theorem Tryd.ext52 : extOf Tryd.prog 52 = none := extOf_none Tryd.func52 (by kernel_rfl)
attribute [go_sem] Tryd.ntmps52 Tryd.results52
@[go_sem] theorem Tryd.can52 : canCall Tryd.prog 52 = True := canCall_of Tryd.func52 rfl (by kernel_rfl)
@[go_sem] theorem Tryd.ext53 : extOf Tryd.prog 53 = none := extOf_none Tryd.func53 (by kernel_rfl)
attribute [go_sem] Tryd.ntmps53 Tryd.results53
@[go_sem] theorem Tryd.can53 : canCall Tryd.prog 53 = True := canCall_of Tryd.func53 rfl (by kernel_rfl)
@[go_sem] theorem Tryd.ext54 : extOf Tryd.prog 54 = none := extOf_none Tryd.func54 (by kernel_rfl)
attribute [go_sem] Tryd.ntmps54 Tryd.results54
@[go_sem] theorem Tryd.can54 : canCall Tryd.prog 54 = True := canCall_of Tryd.func54 rfl (by kernel_rfl)
@[go_sem] theorem Tryd.ext55 : extOf Tryd.prog 55 = none := extOf_none Tryd.func55 (by kernel_rfl)
attribute [go_sem] Tryd.ntmps55 Tryd.results55
@[go_sem] theorem Tryd.can55 : canCall Tryd.prog 55 = True := canCall_of Tryd.func55 rfl (by kernel_rfl)
@[go_sem] theorem Tryd.ext56 : extOf Tryd.prog 56 = none := extOf_none Tryd.func56 (by kernel_rfl)
attribute [go_sem] Tryd.ntmps56 Tryd.results56
@[go_sem] theorem Tryd.can56 : canCall Tryd.prog 56 = True := canCall_of Tryd.func56 rfl (by kernel_rfl)
@[go_sem] theorem Tryd.ext57 : extOf Tryd.prog 57 = none := extOf_none Tryd.func57 (by kernel_rfl)
attribute [go_sem] Tryd.ntmps57 Tryd.results57
@[go_sem] theorem Tryd.can57 : canCall Tryd.prog 57 = True := canCall_of Tryd.func57 rfl (by kernel_rfl)
@[go_sem] theorem Tryd.ext58 : extOf Tryd.prog 58 = none := extOf_none Tryd.func58 (by kernel_rfl)
attribute [go_sem] Tryd.ntmps58 Tryd.results58
@[go_sem] theorem Tryd.can58 : canCall Tryd.prog 58 = True := canCall_of Tryd.func58 rfl (by kernel_rfl)
@[go_sem] theorem Tryd.ext59 : extOf Tryd.prog 59 = none := extOf_none Tryd.func59 (by kernel_rfl)
attribute [go_sem] Tryd.ntmps59 Tryd.results59
@[go_sem] theorem Tryd.can59 : canCall Tryd.prog 59 = True := canCall_of Tryd.func59 rfl (by kernel_rfl)
@[go_sem] theorem Tryd.ext60 : extOf Tryd.prog 60 = none := extOf_none Tryd.func60 (by kernel_rfl)
attribute [go_sem] Tryd.ntmps60 Tryd.results60
@[go_sem] theorem Tryd.can60 : canCall Tryd.prog 60 = True := canCall_of Tryd.func60 rfl (by kernel_rfl)
@[go_sem] theorem Tryd.ext61 : extOf Tryd.prog 61 = none := extOf_none Tryd.func61 (by kernel_rfl)
attribute [go_sem] Tryd.ntmps61 Tryd.results61
@[go_sem] theorem Tryd.can61 : canCall Tryd.prog 61 = True := canCall_of Tryd.func61 rfl (by kernel_rfl)
@[go_sem] theorem Tryd.ext64 : extOf Tryd.prog 64 = none := extOf_none Tryd.func64 (by kernel_rfl)
attribute [go_sem] Tryd.ntmps64 Tryd.results64
@[go_sem] theorem Tryd.can64 : canCall Tryd.prog 64 = True := canCall_of Tryd.func64 rfl (by kernel_rfl)
@[go_sem] theorem Tryd.ext65 : extOf Tryd.prog 65 = none := extOf_none Tryd.func65 (by kernel_rfl)
attribute [go_sem] Tryd.ntmps65 Tryd.results65
@[go_sem] theorem Tryd.can65 : canCall Tryd.prog 65 = True := canCall_of Tryd.func65 rfl (by kernel_rfl)
@[go_sem] theorem Tryd.ext66 : extOf Tryd.prog 66 = none := extOf_none Tryd.func66 (by kernel_rfl)
attribute [go_sem] Tryd.ntmps66 Tryd.results66
@[go_sem] theorem Tryd.can66 : canCall Tryd.prog 66 = True := canCall_of Tryd.func66 rfl (by kernel_rfl)
@[go_sem] theorem Tryd.ext67 : extOf Tryd.prog 67 = none := extOf_none Tryd.func67 (by kernel_rfl)
attribute [go_sem] Tryd.ntmps67 Tryd.results67
@[go_sem] theorem Tryd.can67 : canCall Tryd.prog 67 = True := canCall_of Tryd.func67 rfl (by kernel_rfl)
@[go_sem] theorem Tryd.ext68 : extOf Tryd.prog 68 = none := extOf_none Tryd.func68 (by kernel_rfl)
attribute [go_sem] Tryd.ntmps68 Tryd.results68
@[go_sem] theorem Tryd.can68 : canCall Tryd.prog 68 = True := canCall_of Tryd.func68 rfl (by kernel_rfl)
@[go_sem] theorem Tryd.ext69 : extOf Tryd.prog 69 = none := extOf_none Tryd.func69 (by kernel_rfl)
attribute [go_sem] Tryd.ntmps69 Tryd.results69
@[go_sem] theorem Tryd.can69 : canCall Tryd.prog 69 = True := canCall_of Tryd.func69 rfl (by kernel_rfl)
@[go_sem] theorem Tryd.ext70 : extOf Tryd.prog 70 = none := extOf_none Tryd.func70 (by kernel_rfl)
attribute [go_sem] Tryd.ntmps70 Tryd.results70
@[go_sem] theorem Tryd.can70 : canCall Tryd.prog 70 = True := canCall_of Tryd.func70 rfl (by kernel_rfl)
@[go_sem] theorem Tryd.ext71 : extOf Tryd.prog 71 = none := extOf_none Tryd.func71 (by kernel_rfl)
attribute [go_sem] Tryd.ntmps71 Tryd.results71
@[go_sem] theorem Tryd.can71 : canCall Tryd.prog 71 = True := canCall_of Tryd.func71 rfl (by kernel_rfl)
@[go_sem] theorem Tryd.ext72 : extOf Tryd.prog 72 = none := extOf_none Tryd.func72 (by kernel_rfl)
attribute [go_sem] Tryd.ntmps72 Tryd.results72
@[go_sem] theorem Tryd.can72 : canCall Tryd.prog 72 = True := canCall_of Tryd.func72 rfl (by kernel_rfl)
@[go_sem] theorem Tryd.ext73 : extOf Tryd.prog 73 = none := extOf_none Tryd.func73 (by kernel_rfl)
attribute [go_sem] Tryd.ntmps73 Tryd.results73
@[go_sem] theorem Tryd.can73 : canCall Tryd.prog 73 = True := canCall_of Tryd.func73 rfl (by kernel_rfl)
@[go_sem] theorem Tryd.ext74 : extOf Tryd.prog 74 = none := extOf_none Tryd.func74 (by kernel_rfl)
attribute [go_sem] Tryd.ntmps74 Tryd.results74
@[go_sem] theorem Tryd.can74 : canCall Tryd.prog 74 = True := canCall_of Tryd.func74 rfl (by kernel_rfl)
@[go_sem] theorem Tryd.ext75 : extOf Tryd.prog 75 = none := extOf_none Tryd.func75 (by kernel_rfl)
attribute [go_sem] Tryd.ntmps75 Tryd.results75
@[go_sem] theorem Tryd.can75 : canCall Tryd.prog 75 = True := canCall_of Tryd.func75 rfl (by kernel_rfl)
@[go_sem] theorem Tryd.ext76 : extOf Tryd.prog 76 = none := extOf_none Tryd.func76 (by kernel_rfl)
attribute [go_sem] Tryd.ntmps76 Tryd.results76
@[go_sem] theorem Tryd.can76 : canCall Tryd.prog 76 = True := canCall_of Tryd.func76 rfl (by kernel_rfl)
@[go_sem] theorem Tryd.ext79 : extOf Tryd.prog 79 = none := extOf_none Tryd.func79 (by kernel_rfl)
attribute [go_sem] Tryd.ntmps79 Tryd.results79
@[go_sem] theorem Tryd.can79 : canCall Tryd.prog 79 = True := canCall_of Tryd.func79 rfl (by kernel_rfl)
@[go_sem] theorem Tryd.ext80 : extOf Tryd.prog 80 = none := extOf_none Tryd.func80 (by kernel_rfl)
attribute [go_sem] Tryd.ntmps80 Tryd.results80
@[go_sem] theorem Tryd.can80 : canCall Tryd.prog 80 = True := canCall_of Tryd.func80 rfl (by kernel_rfl)
@[go_sem] theorem Tryd.ext85 : extOf Tryd.prog 85 = none := extOf_none Tryd.func85 (by kernel_rfl)
attribute [go_sem] Tryd.ntmps85 Tryd.results85
@[go_sem] theorem Tryd.can85 : canCall Tryd.prog 85 = True := canCall_of Tryd.func85 rfl (by kernel_rfl)
@[go_sem] theorem Tryd.ext86 : extOf Tryd.prog 86 = none := extOf_none Tryd.func86 (by kernel_rfl)
attribute [go_sem] Tryd.ntmps86 Tryd.results86
@[go_sem] theorem Tryd.can86 : canCall Tryd.prog 86 = True := canCall_of Tryd.func86 rfl (by kernel_rfl)
end Go.Proofs.YtaecppimppeebaaDoor
