/- Proves closed facts of the row betweenPieces and of its witness, with no condition. -/
import Derived.Test.YtjhmgeegnilbpaaGreatDoorCards
import Derived.Test.YtjhmgeegnilbpaaGreatDoorTie
import Derived.ProofKit
import Derived.OpenShut
import Derived.LaidMore
import Derived.Lay
import Derived.SevenTiedAt
import Derived.Stop.Joined
import Derived.Lib.SmallJoins
set_option linter.all false
namespace Go.Proofs.YtjhmgeegnilbpaaGreatDoor.betweenPieces
open Go.ChangeShapes Go.WideShapes Go.ChangeAt Go.RowKit Go.Joins Go.Deep
theorem own : ownKnob Tryz.prog.godebug = none := by kernel_rfl
theorem laidOut : laidOutB Tryz.prog = true := by kernel_rfl
noncomputable abbrev laid := Rows.betweenPiecesRow.laid
abbrev wit : Array Value := #[.slice none 0 0, .agg #[.int .u64 0, .int .u64 0]]
theorem plainLaid : (laid.all fun x => x.2.handleName?.isNone) = true := by kernel_rfl
theorem fits (os : Os) : (World.holding Tryz.prog os ⟨#[], #[], []⟩).layFits Tryz.prog laid [] = true := by kernel_rfl
theorem ifaces (os : Os) : (World.holding Tryz.prog os ⟨#[], #[], []⟩).layIfaces Tryz.prog laid (World.laidAll Tryz.prog os laid) = true := by kernel_rfl
theorem zip (os : Os) : World.variablesZipB Tryz.prog ((World.laidAll Tryz.prog os laid).forCall (fun _ _ => 0) ⟨#[], wit, []⟩) = true := by kernel_rfl
theorem rest (os : Os) : (((World.laidAll Tryz.prog os laid).forCall (fun _ _ => 0) ⟨#[], wit, []⟩).heap.toList.drop Tryz.prog.globals.size).take ((begin Tryz.prog (fun _ _ => 0) default).world.heap.size - Tryz.prog.globals.size) =
      (begin Tryz.prog (fun _ _ => 0) default).world.heap.toList.drop Tryz.prog.globals.size := by kernel_rfl
theorem okIn (os : Os) : Input.okWideB Tryz.prog ((World.laidAll Tryz.prog os laid).forCall (fun _ _ => 0) ⟨#[], wit, []⟩) 3 ⟨#[], wit, []⟩ = true := by kernel_rfl
theorem noInit : Tryz.prog.inits.idxOf? 3 = none := by kernel_rfl
theorem named : Tryz.prog.funcNamed Rows.betweenPiecesRow.func = some 3 := by kernel_rfl
theorem inst : Tryz.f3.isInstance Tryz.prog Rows.betweenPiecesRow.origin Rows.betweenPiecesRow.targs := of_decide_eq_true (by kernel_rfl)
theorem byText : Rows.betweenPiecesRow.wfByText (OpenSpec.ofChange Rows.betweenPiecesSpec) = true := by kernel_rfl
theorem mainIs : Tryz.pinned.checked.prog.mainIs = some (true, "5e5bd45fcabbac513cef8d6812590a7edec1744c33d3ca8748c9180a1f8e9b48".toList) := by kernel_rfl
theorem looks : false = Tryz.pinned.checked.prog.looks [] := by kernel_rfl
theorem stand22 : Tryz.pinned.checked.prog.wantsStandIn 22 = false := by kernel_rfl
theorem stand25 : Tryz.pinned.checked.prog.wantsStandIn 25 = false := by kernel_rfl
theorem rec22 : Tryz.prog.readableRec 22 = true := by kernel_rfl
theorem rec25 : Tryz.prog.readableRec 25 = true := by kernel_rfl
theorem row22 : 22 < Tryz.prog.types.size := of_decide_eq_true (by kernel_rfl)
theorem row25 : 25 < Tryz.prog.types.size := of_decide_eq_true (by kernel_rfl)
theorem cells23 : Tryz.prog.cellsOf 23 = 1 := by kernel_rfl
theorem cells25 : Tryz.prog.cellsOf 25 = 2 := by kernel_rfl
theorem one25 : oneCellFields Tryz.prog (Tryz.prog.fieldsOf 25) = true := by kernel_rfl
end Go.Proofs.YtjhmgeegnilbpaaGreatDoor.betweenPieces
