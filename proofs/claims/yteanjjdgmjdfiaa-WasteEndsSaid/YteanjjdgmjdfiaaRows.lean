/-
  No cell of these rows narrows 'for every input' (looked for: loops, veiled, ifaces, maps, wideKeys, modest, calm, conditions, laid).
  DERIVED. THE GIVEN ROWS OF THIS SEAT. 2 by the template 'for every input the law returns true; each argument reads behind the call as it read before'; 0 by the template 'total and deterministic' (their statements: YteanjjdgmjdfiaaTotals.lean).
  GIVEN WITH THE SEED: the statements are not yours to turn. If you find one false, say at which input.
  Laid BY PROGRAM, IN A SANDBOX (cutbox-rows.mjs): the forced cells as the released guide's own fill.sh prints them over the translation 5e5400f521db9da5… (all of the seat's roots in one cut). By AI agents, Wed Nov 11 2026. No macro, syntax, notation, axiom, sorry.
-/
import Derived.Test.YteanjjdgmjdfiaaChecked
import GoSem.Claim
import GoSem.ClaimJoined
import GoSem.ClaimMapViews
import Derived.JoinedTies
import Derived.KernelRfl
namespace Go.Proofs.Yteanjjdgmjdfiaa
/- THE CELL 'sum', in the pinned program and in every row, IS THE sha256 OF THE DUMP (.gsa) THAT YteanjjdgmjdfiaaProg.lean LOADS. Nothing in Lean hashes anything: it is a label: what it is worth is what the hold of that sum in a sandbox is worth. -/
noncomputable def Try.pinned : Pinned := { name := "yteanjjdgmjdfiaa", sum := "5e5400f521db9da55b7c59a975b04d1ec901991186c4c617ea3a6549e3a03389", checked := Try.checked }
namespace Rows
def none {H : Type} : Left H := { results := [], args := [] }

/-- 'lumkeep.WasteRanks': WHATEVER THE INPUT: true; the input reads as it did. -/
def wasteRanksSpec : ChangeSpec := { name := "wasteRanks", fn := fun _ => fun
  | [d1, d2, d3] => { results := [.lit (.bool true)], args := [d1, d2, d3] }
  | _ => none }
def wasteRanksRow : OpenClaim := { program := "yteanjjdgmjdfiaa", sum := "5e5400f521db9da55b7c59a975b04d1ec901991186c4c617ea3a6549e3a03389", func := "lumberroom/lumkeep.WasteRanks", spec := "wasteRanks", unfollowed := true, recurses := true, apart := false }
def WasteRanksSaid : Prop := wasteRanksRow.holds Try.pinned (OpenSpec.ofChange wasteRanksSpec)

/-- ITS FALSE NEIGHBOUR: 'it returns false'. Refute it at one input. -/
def wasteRanksWrong : ChangeSpec := { name := "wasteRanks", fn := fun _ => fun
  | [d1, d2, d3] => { results := [.lit (.bool false)], args := [d1, d2, d3] }
  | _ => none }
def WasteRanksWrongFalsely : Prop := wasteRanksRow.holds Try.pinned (OpenSpec.ofChange wasteRanksWrong)

/-- 'lumkeep.WasteEnds': WHATEVER THE INPUT: true; the input reads as it did. -/
def wasteEndsSpec : ChangeSpec := { name := "wasteEnds", fn := fun _ => fun
  | [d] => { results := [.lit (.bool true)], args := [d] }
  | _ => none }
def wasteEndsRow : OpenClaim := { program := "yteanjjdgmjdfiaa", sum := "5e5400f521db9da55b7c59a975b04d1ec901991186c4c617ea3a6549e3a03389", func := "lumberroom/lumkeep.WasteEnds", spec := "wasteEnds", inPlace := ["math.Float64bits", "math.Float64frombits"], unfollowed := true, recurses := true, apart := false }
def WasteEndsSaid : Prop := wasteEndsRow.holds Try.pinned (OpenSpec.ofChange wasteEndsSpec)

/-- ITS FALSE NEIGHBOUR: 'it returns false'. Refute it at one input. -/
def wasteEndsWrong : ChangeSpec := { name := "wasteEnds", fn := fun _ => fun
  | [d] => { results := [.lit (.bool false)], args := [d] }
  | _ => none }
def WasteEndsWrongFalsely : Prop := wasteEndsRow.holds Try.pinned (OpenSpec.ofChange wasteEndsWrong)

/- THE SECOND FORM. 'bulk': how many values and letters a reading holds, each counted each time it is reached (what is shared counts as often as it is met; a slice's spare places count too). A statement '..UptoSaid' is the law's where the arguments, and the package variables that the reading takes, are together of bulk at most 1048576: NARROWER than '..Said'. Prove '..Said' where nothing that the law and all that it calls make is longer than what came in: it says more and counts as full. Else prove '..UptoSaid'. A law counts once. -/
mutual
def uptoBulk {H : Type} : DataW H → Nat
  | .lit (.string bytes) => bytes.length + 1
  | .lit _ => 1
  | .nil => 1
  | .ptr d => uptoBulk d + 1
  | .slice elems spare => uptoBulkAll elems + uptoBulkAll spare + 1
  | .agg parts => uptoBulkAll parts + 1
  | .iface _ d => uptoBulk d + 1
  | .map entries => uptoBulkEntries entries + 1
  | .held _ => 1
def uptoBulkAll {H : Type} : List (DataW H) → Nat
  | [] => 0
  | d :: r => uptoBulk d + uptoBulkAll r
def uptoBulkEntries {H : Type} : List (Lit × DataW H) → Nat
  | [] => 0
  | x :: r => uptoBulkEntry x + uptoBulkEntries r
def uptoBulkEntry {H : Type} : Lit × DataW H → Nat
  | (.string bytes, d) => bytes.length + uptoBulk d + 1
  | (_, d) => uptoBulk d + 1
 end
def uptoSmall : (H : Type) → List (DataW H) → Bool := fun _ ds => decide (uptoBulkAll ds ≤ 1048576)
def OpenSpec.upto (s : _root_.Go.ChangeSpec) : _root_.Go.OpenSpec := { _root_.Go.OpenSpec.ofChange s with cond := some uptoSmall }

/-- 'lumkeep.WasteRanks', WHERE WHAT IT READS IS OF BULK AT MOST 1048576: true; the input reads as it did. -/
def wasteRanksUptoRow : OpenClaim := { program := "yteanjjdgmjdfiaa", sum := "5e5400f521db9da55b7c59a975b04d1ec901991186c4c617ea3a6549e3a03389", func := "lumberroom/lumkeep.WasteRanks", spec := "wasteRanks", unfollowed := true, recurses := true, apart := false, narrowed := true }
def WasteRanksUptoSaid : Prop := wasteRanksUptoRow.holds Try.pinned (OpenSpec.upto wasteRanksSpec)

/-- 'lumkeep.WasteEnds', WHERE WHAT IT READS IS OF BULK AT MOST 1048576: true; the input reads as it did. -/
def wasteEndsUptoRow : OpenClaim := { program := "yteanjjdgmjdfiaa", sum := "5e5400f521db9da55b7c59a975b04d1ec901991186c4c617ea3a6549e3a03389", func := "lumberroom/lumkeep.WasteEnds", spec := "wasteEnds", inPlace := ["math.Float64bits", "math.Float64frombits"], unfollowed := true, recurses := true, apart := false, narrowed := true }
def WasteEndsUptoSaid : Prop := wasteEndsUptoRow.holds Try.pinned (OpenSpec.upto wasteEndsSpec)

end Rows
end Go.Proofs.Yteanjjdgmjdfiaa
