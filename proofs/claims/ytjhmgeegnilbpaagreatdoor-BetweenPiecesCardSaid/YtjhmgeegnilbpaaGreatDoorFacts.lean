/- Proves the closed facts of the row of betweenPieces: what the given program's text says of the function, with no condition. -/
import Derived.Test.YtjhmgeegnilbpaaGreatDoorRows
import Derived.WalkKit
import Derived.ProofKit
import Derived.OpenShut
set_option linter.all false
namespace Go.Proofs.YtjhmgeegnilbpaaGreatDoor.betweenPiecesFacts
open Go.ChangeShapes Go.WideShapes Go.ChangeAt Go.RowKit
noncomputable abbrev P : Program := Tryz.prog
abbrev f : FuncId := 3
noncomputable abbrev fn : Func := Tryz.f3
noncomputable abbrev s : ChangeSpec := Rows.betweenPiecesSpec
noncomputable abbrev c : OpenClaim := Rows.betweenPiecesRow
theorem k1 : (c.wf (OpenSpec.ofChange s)) = true := by kernel_rfl
theorem k2 : (laidOutB P) = true := by kernel_rfl
theorem k3 : (mapsRowed P) = true := by kernel_rfl
theorem k4 : (fn.params.all (P.readableRec ·)) = true := by kernel_rfl
theorem k5 : (namedTie P c.named s.vars) = true := by kernel_rfl
theorem k6 : ((c.stops == [])) = true := by kernel_rfl
theorem k7 : ((P.stops == [])) = true := by kernel_rfl
theorem k8 : ((c.knobs == [])) = true := by kernel_rfl
theorem k9 : ((P.stopKnobs == [])) = true := by kernel_rfl
theorem k10 : ((c.inPlace == P.inPlace f)) = true := by kernel_rfl
theorem k11 : ((c.unfollowed == P.unfollowed f)) = true := by kernel_rfl
theorem k12 : ((c.recurses == P.recurses f)) = true := by kernel_rfl
theorem k13 : ((c.named == P.varsNamed f)) = true := by kernel_rfl
theorem k14 : ((c.maps == (fn.params.toList ++ s.plain.varTypes P).any (P.mapsRec ·))) = true := by kernel_rfl
theorem k15 : ((c.ifaces == (fn.params.toList ++ s.plain.varTypes P).any (P.ifacesRec ·))) = true := by kernel_rfl
theorem k16 : ((c.mapsOut == P.mapsAmong fn.resultTypes.toList)) = true := by kernel_rfl
theorem k17 : ((c.loops == (fn.params.toList ++ s.plain.varTypes P).any (P.loopsFrom ·))) = true := by kernel_rfl
theorem k18 : ((c.wideKeys == (fn.params.toList ++ s.plain.varTypes P ++ fn.resultTypes.toList).any (P.wideKeysFrom ·))) = true := by kernel_rfl
theorem k19 : (s.vars.all (P.varReadable ·)) = true := by kernel_rfl
theorem k20 : (fn.resultTypes.all (fun t => P.readableRec t && decide (t < P.types.size))) = true := by kernel_rfl
theorem k21 : ((c.ifacesOut == fn.resultTypes.toList.any (P.ifacesRec ·))) = true := by kernel_rfl
theorem k22 : ((c.loopsOut == fn.resultTypes.toList.any (P.loopsFrom ·))) = true := by kernel_rfl
theorem k23 : ((c.plainKeys == P.plainKeys)) = true := by kernel_rfl
theorem k24 : (c.shortTexts.isNone) = true := by kernel_rfl
theorem k25 : (P.stopsHeard) = true := by kernel_rfl
theorem k26 : (P.mayEnter) = true := by kernel_rfl
theorem k27 : ((c.lifted == P.liftsFinal)) = true := by kernel_rfl
theorem k28 : ((P.make == some c.make)) = true := by kernel_rfl
theorem k29 : ((c.kinds == (if c.domain.isEmpty then [] else fn.params.toList.map fun t => match P.underlying t with | some (.int k) => some k | _ => none))) = true := by kernel_rfl
theorem k30 : ((c.pinned == c.pinnedBy)) = true := by kernel_rfl
theorem k31 : ((c.veiled == (fn.params.toList ++ s.plain.varTypes P ++ fn.resultTypes.toList).any (P.veiledRec ·))) = true := by kernel_rfl
theorem k32 : (c.veiledFits P fn.params.toList (fn.params.toList ++ s.plain.varTypes P ++ fn.resultTypes.toList)) = true := by kernel_rfl
end Go.Proofs.YtjhmgeegnilbpaaGreatDoor.betweenPiecesFacts
