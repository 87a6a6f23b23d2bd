/- Proves, for the given program, what some calls of its functions come to, at the arguments named here, for every world. -/
import Derived.Test.YtjhmgeegnilbpaaGreatDoorMkS
import Derived.Test.YtjhmgeegnilbpaaGreatDoorMk6
set_option linter.all false
namespace Ab.Bk
open Go Go.Proofs Ab.Mk
noncomputable section
set_option maxRecDepth 100000
theorem mixed : Tryz.prog.follows .mixedOrders = true := by decide +kernel
theorem noc : noCount Tryz.prog = true := by decide +kernel
theorem globs : Tryz.prog.globals.size = 8 := by decide +kernel
theorem forall_nil {Q : Entry → Prop} : ∀ E ∈ ([] : List Entry), Q E := fun _ h => nomatch h
theorem forall_cons {Q : Entry → Prop} {E : Entry} {l : List Entry} (h : Q E) (k : ∀ E ∈ l, Q E) : ∀ D ∈ E :: l, Q D := fun D hD => match hD with
  | .head _ => h
  | .tail _ hD => k D hD
def exts : List Ext := [⟨263, goBits⟩, ⟨246, goSame⟩]
theorem ext263 : Ext.Holds Tryz.prog ⟨263, goBits⟩ := Ext.holds (P := Tryz.prog) (X := ⟨263, goBits⟩) Tryz.func263 (by kernel_rfl) (by kernel_rfl) (by kernel_rfl) (e := Extern.MathFloatBits.float64bits) (by kernel_rfl) goBits_S
theorem ext246 : Ext.Holds Tryz.prog ⟨246, goSame⟩ := Ext.holds (P := Tryz.prog) (X := ⟨246, goSame⟩) Tryz.func246 (by kernel_rfl) (by kernel_rfl) (by kernel_rfl) (e := Extern.AbiNoEscape.same) (by kernel_rfl) goSame_S
theorem exts_ok : ∀ X ∈ exts, X.Holds Tryz.prog := by
  intro X hX
  simp only [exts, List.mem_cons, List.not_mem_nil, or_false] at hX
  rcases hX with rfl | rfl
  · exact ext263
  · exact ext246
def orc (es : List Entry) : FuncId → List AVal → AHeap → Option (AVal × AHeap) := orcS keysB outB exts 8 es
theorem orc_S {es : List Entry} (he : ∀ E ∈ es, E.Holds Tryz.prog) : OrcS Tryz.prog (orc es) :=
  orcS_S noc (by decide) (by decide) (by decide) (by decide) (by decide) sorts globs exts_ok he
theorem step {es : List Entry} (he : ∀ E ∈ es, E.Holds Tryz.prog) (E : Entry) (hr : (E.ok && E.ran (ev Tryz.prog (orc es) 100000 (.call E.f E.args) E.h0)) = true) : E.Holds Tryz.prog :=
  Entry.holds_of_orc (orc_S he) mixed noc 100000 E hr
end
end Ab.Bk
