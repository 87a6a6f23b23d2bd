/-
  NARROWER THAN 'FOR EVERY INPUT', by the rows' own cells (each row's printed sentence says how): PlanChooses: loops · PlanFewer: loops.
  DERIVED. THE GIVEN ROWS OF THIS SEAT. 3 by the template 'for every input the law returns true; each argument reads behind the call as it read before'; 0 by the template 'total and deterministic' (their statements: YtogbiabocifbmaaGreatTotals.lean).
  GIVEN WITH THE SEED: the statements are not yours to turn. If you find one false, say at which input.
  Laid BY PROGRAM, IN A SANDBOX (cutbox-rows.mjs): the forced cells as the released guide's own fill.sh prints them over the translation 84a83264c133bac1… (all of the seat's roots in one cut). By AI agents, Wed Nov 11 2026. No macro, syntax, notation, axiom, sorry.
-/
import Derived.Test.YtogbiabocifbmaaGreatChecked
import GoSem.Claim
import GoSem.ClaimJoined
import GoSem.ClaimMapViews
import Derived.JoinedTies
import Derived.KernelRfl
namespace Go.Proofs.YtogbiabocifbmaaGreat
/- THE CELL 'sum', in the pinned program and in every row, IS THE sha256 OF THE DUMP (.gsa) THAT YtogbiabocifbmaaGreatProg.lean LOADS. Nothing in Lean hashes anything: it is a label: what it is worth is what the hold of that sum in a sandbox is worth. -/
noncomputable def Tryz.pinned : Pinned := { name := "ytogbiabocifbmaagreat", sum := "84a83264c133bac13f81ab1fb2a3159a5e6d90d7f2e154fd82ab65600dffdbbe", checked := Tryz.checked }
namespace Rows
def none {H : Type} : Left H := { results := [], args := [] }

/-- 'almanaclaw26.PlanChooses': WHATEVER THE INPUT: true; the input reads as it did. -/
def planChoosesSpec : ChangeSpec := { name := "planChooses", fn := fun _ => fun
  | [d1, d2] => { results := [.lit (.bool true)], args := [d1, d2] }
  | _ => none }
def planChoosesRow : OpenClaim := { program := "ytogbiabocifbmaagreat", sum := "84a83264c133bac13f81ab1fb2a3159a5e6d90d7f2e154fd82ab65600dffdbbe", func := "almanac/almanaclaw26.PlanChooses", spec := "planChooses", inPlace := ["math.Float64frombits", "math.Float64bits", "math.archFloor", "math.archTrunc", "internal/bytealg.abigen_runtime_cmpstring", "slices.overlaps[almanac/entity.Prop]"], unfollowed := true, recurses := true, loops := true, plainKeys := false, apart := false }
def PlanChoosesSaid : Prop := planChoosesRow.holds Tryz.pinned (OpenSpec.ofChange planChoosesSpec)

/-- ITS FALSE NEIGHBOUR: 'it returns false'. Refute it at one input. -/
def planChoosesWrong : ChangeSpec := { name := "planChooses", fn := fun _ => fun
  | [d1, d2] => { results := [.lit (.bool false)], args := [d1, d2] }
  | _ => none }
def PlanChoosesWrongFalsely : Prop := planChoosesRow.holds Tryz.pinned (OpenSpec.ofChange planChoosesWrong)

/-- 'almanaclaw26.PlanFewer': WHATEVER THE INPUT: true; the input reads as it did. -/
def planFewerSpec : ChangeSpec := { name := "planFewer", fn := fun _ => fun
  | [d1, d2, d3, d4] => { results := [.lit (.bool true)], args := [d1, d2, d3, d4] }
  | _ => none }
def planFewerRow : OpenClaim := { program := "ytogbiabocifbmaagreat", sum := "84a83264c133bac13f81ab1fb2a3159a5e6d90d7f2e154fd82ab65600dffdbbe", func := "almanac/almanaclaw26.PlanFewer", spec := "planFewer", inPlace := ["math.Float64frombits", "math.Float64bits", "math.archFloor", "math.archTrunc", "internal/bytealg.abigen_runtime_cmpstring", "slices.overlaps[almanac/entity.Prop]"], unfollowed := true, recurses := true, loops := true, plainKeys := false, apart := false }
def PlanFewerSaid : Prop := planFewerRow.holds Tryz.pinned (OpenSpec.ofChange planFewerSpec)

/-- ITS FALSE NEIGHBOUR: 'it returns false'. Refute it at one input. -/
def planFewerWrong : ChangeSpec := { name := "planFewer", fn := fun _ => fun
  | [d1, d2, d3, d4] => { results := [.lit (.bool false)], args := [d1, d2, d3, d4] }
  | _ => none }
def PlanFewerWrongFalsely : Prop := planFewerRow.holds Tryz.pinned (OpenSpec.ofChange planFewerWrong)

/-- 'almanaclaw26.PlanKnown': WHATEVER THE INPUT: true; the input reads as it did. -/
def planKnownSpec : ChangeSpec := { name := "planKnown", fn := fun _ => fun
  | [] => { results := [.lit (.bool true)], args := [] }
  | _ => none }
def planKnownRow : OpenClaim := { program := "ytogbiabocifbmaagreat", sum := "84a83264c133bac13f81ab1fb2a3159a5e6d90d7f2e154fd82ab65600dffdbbe", func := "almanac/almanaclaw26.PlanKnown", spec := "planKnown", inPlace := ["math.Float64frombits", "math.Float64bits", "internal/bytealg.abigen_runtime_cmpstring", "math.archTrunc", "slices.overlaps[almanac/entity.Prop]"], unfollowed := true, recurses := true, plainKeys := false, apart := false }
def PlanKnownSaid : Prop := planKnownRow.holds Tryz.pinned (OpenSpec.ofChange planKnownSpec)

/-- ITS FALSE NEIGHBOUR: 'it returns false'. Refute it at one input. -/
def planKnownWrong : ChangeSpec := { name := "planKnown", fn := fun _ => fun
  | [] => { results := [.lit (.bool false)], args := [] }
  | _ => none }
def PlanKnownWrongFalsely : Prop := planKnownRow.holds Tryz.pinned (OpenSpec.ofChange planKnownWrong)

/- THE SECOND FORM. 'bulk': how many values and letters a reading holds, each counted each time it is reached (what is shared counts as often as it is met; a slice's spare places count too). A statement '..UptoSaid' is the law's where the arguments, and the package variables that the reading takes, are together of bulk at most 1048576: NARROWER than '..Said'. Prove '..Said' where nothing that the law and all that it calls make is longer than what came in: it says more and counts as full. Else prove '..UptoSaid'. A law counts once. -/
mutual
def uptoBulk {H : Type} : DataW H → Nat
  | .lit (.string bytes) => bytes.length + 1
  | .lit _ => 1
  | .nil => 1
  | .ptr d => uptoBulk d + 1
  | .slice elems spare => uptoBulkAll elems + uptoBulkAll spare + 1
  | .agg parts => uptoBulkAll parts + 1
  | .iface _ d => uptoBulk d + 1
  | .map entries => uptoBulkEntries entries + 1
  | .held _ => 1
def uptoBulkAll {H : Type} : List (DataW H) → Nat
  | [] => 0
  | d :: r => uptoBulk d + uptoBulkAll r
def uptoBulkEntries {H : Type} : List (Lit × DataW H) → Nat
  | [] => 0
  | x :: r => uptoBulkEntry x + uptoBulkEntries r
def uptoBulkEntry {H : Type} : Lit × DataW H → Nat
  | (.string bytes, d) => bytes.length + uptoBulk d + 1
  | (_, d) => uptoBulk d + 1
 end
def uptoSmall : (H : Type) → List (DataW H) → Bool := fun _ ds => decide (uptoBulkAll ds ≤ 1048576)
def OpenSpec.upto (s : _root_.Go.ChangeSpec) : _root_.Go.OpenSpec := { _root_.Go.OpenSpec.ofChange s with cond := some uptoSmall }

/-- 'almanaclaw26.PlanChooses', WHERE WHAT IT READS IS OF BULK AT MOST 1048576: true; the input reads as it did. -/
def planChoosesUptoRow : OpenClaim := { program := "ytogbiabocifbmaagreat", sum := "84a83264c133bac13f81ab1fb2a3159a5e6d90d7f2e154fd82ab65600dffdbbe", func := "almanac/almanaclaw26.PlanChooses", spec := "planChooses", inPlace := ["math.Float64frombits", "math.Float64bits", "math.archFloor", "math.archTrunc", "internal/bytealg.abigen_runtime_cmpstring", "slices.overlaps[almanac/entity.Prop]"], unfollowed := true, recurses := true, loops := true, plainKeys := false, apart := false, narrowed := true }
def PlanChoosesUptoSaid : Prop := planChoosesUptoRow.holds Tryz.pinned (OpenSpec.upto planChoosesSpec)

/-- 'almanaclaw26.PlanFewer', WHERE WHAT IT READS IS OF BULK AT MOST 1048576: true; the input reads as it did. -/
def planFewerUptoRow : OpenClaim := { program := "ytogbiabocifbmaagreat", sum := "84a83264c133bac13f81ab1fb2a3159a5e6d90d7f2e154fd82ab65600dffdbbe", func := "almanac/almanaclaw26.PlanFewer", spec := "planFewer", inPlace := ["math.Float64frombits", "math.Float64bits", "math.archFloor", "math.archTrunc", "internal/bytealg.abigen_runtime_cmpstring", "slices.overlaps[almanac/entity.Prop]"], unfollowed := true, recurses := true, loops := true, plainKeys := false, apart := false, narrowed := true }
def PlanFewerUptoSaid : Prop := planFewerUptoRow.holds Tryz.pinned (OpenSpec.upto planFewerSpec)

/-- 'almanaclaw26.PlanKnown', WHERE WHAT IT READS IS OF BULK AT MOST 1048576: true; the input reads as it did. -/
def planKnownUptoRow : OpenClaim := { program := "ytogbiabocifbmaagreat", sum := "84a83264c133bac13f81ab1fb2a3159a5e6d90d7f2e154fd82ab65600dffdbbe", func := "almanac/almanaclaw26.PlanKnown", spec := "planKnown", inPlace := ["math.Float64frombits", "math.Float64bits", "internal/bytealg.abigen_runtime_cmpstring", "math.archTrunc", "slices.overlaps[almanac/entity.Prop]"], unfollowed := true, recurses := true, plainKeys := false, apart := false, narrowed := true }
def PlanKnownUptoSaid : Prop := planKnownUptoRow.holds Tryz.pinned (OpenSpec.upto planKnownSpec)

end Rows
end Go.Proofs.YtogbiabocifbmaaGreat
