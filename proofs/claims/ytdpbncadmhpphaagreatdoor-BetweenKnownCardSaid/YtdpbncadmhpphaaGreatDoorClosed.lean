/- Proves closed facts of the row BetweenKnown and of its witness, with no condition. -/
import Derived.Test.YtdpbncadmhpphaaGreatDoorCards
import Derived.Test.YtdpbncadmhpphaaGreatDoorTie
import Derived.ProofKit
import Derived.OpenShut
import Derived.LaidMore
import Derived.Lay
import Derived.SevenTiedAt
import Derived.Stop.Joined
set_option linter.all false
namespace Go.Proofs.YtdpbncadmhpphaaGreatDoor.betweenKnown
open Go.ChangeShapes Go.WideShapes Go.ChangeAt Go.RowKit
theorem own : ownKnob Tryz.prog.godebug = none := by kernel_rfl
noncomputable abbrev laid := Rows.betweenKnownRow.laid
theorem plainLaid : (laid.all fun x => x.2.handleName?.isNone) = true := by kernel_rfl
theorem fits (os : Os) : (World.holding Tryz.prog os ⟨#[], #[], []⟩).layFits Tryz.prog laid [] = true := by kernel_rfl
theorem ifaces (os : Os) : (World.holding Tryz.prog os ⟨#[], #[], []⟩).layIfaces Tryz.prog laid (World.laidAll Tryz.prog os laid) = true := by kernel_rfl
theorem zip (os : Os) : World.variablesZipB Tryz.prog ((World.laidAll Tryz.prog os laid).forCall (fun _ _ => 0) ⟨#[], #[], []⟩) = true := by kernel_rfl
theorem rest (os : Os) : (((World.laidAll Tryz.prog os laid).forCall (fun _ _ => 0) ⟨#[], #[], []⟩).heap.toList.drop Tryz.prog.globals.size).take ((begin Tryz.prog (fun _ _ => 0) default).world.heap.size - Tryz.prog.globals.size) =
      (begin Tryz.prog (fun _ _ => 0) default).world.heap.toList.drop Tryz.prog.globals.size := by kernel_rfl
theorem okIn (os : Os) : Input.okWideB Tryz.prog ((World.laidAll Tryz.prog os laid).forCall (fun _ _ => 0) ⟨#[], #[], []⟩) 3 ⟨#[], #[], []⟩ = true := by kernel_rfl
theorem noInit : Tryz.prog.inits.idxOf? 3 = none := by kernel_rfl
theorem named : Tryz.prog.funcNamed Rows.betweenKnownRow.func = some 3 := by kernel_rfl
theorem inst : Tryz.f3.isInstance Tryz.prog Rows.betweenKnownRow.origin Rows.betweenKnownRow.targs := of_decide_eq_true (by kernel_rfl)
theorem byText : Rows.betweenKnownRow.wfByText (OpenSpec.ofChange Rows.betweenKnownSpec) = true := by kernel_rfl
theorem mainIs : Tryz.pinned.checked.prog.mainIs = some (true, "5b5e1f5872a8649b3b96029e663f1e295754572e8270a83c08dc27a726383e6e".toList) := by kernel_rfl
theorem looks : false = Tryz.pinned.checked.prog.looks [] := by kernel_rfl
end Go.Proofs.YtdpbncadmhpphaaGreatDoor.betweenKnown
