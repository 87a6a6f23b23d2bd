/- Proves, for the given program, that what the entries of the next texts say may be used in each other, given the sorts. -/
import Derived.Test.YtdpbncadmhpphaaGreatDoorMk4
import Derived.Test.YtdpbncadmhpphaaGreatDoorMk6
set_option linter.all false
namespace Ab.Bk
open Go Go.Proofs Ab.Mk
noncomputable section
set_option maxRecDepth 100000
theorem mixed : Tryz.prog.follows .mixedOrders = true := by decide +kernel
theorem noc : noCount Tryz.prog = true := by decide +kernel
theorem globs : Tryz.prog.globals.size = 8 := by decide +kernel
theorem forall_nil {Q : Entry → Prop} : ∀ E ∈ ([] : List Entry), Q E := fun _ h => nomatch h
theorem forall_cons {Q : Entry → Prop} {E : Entry} {l : List Entry} (h : Q E) (k : ∀ E ∈ l, Q E) : ∀ D ∈ E :: l, Q D := fun D hD => match hD with
  | .head _ => h
  | .tail _ hD => k D hD
def exts : List Ext := [⟨297, goBits⟩, ⟨243, goSame⟩]
theorem ext297 : Ext.Holds Tryz.prog ⟨297, goBits⟩ := Ext.holds (P := Tryz.prog) (X := ⟨297, goBits⟩) Tryz.func297 (by kernel_rfl) (by kernel_rfl) (by kernel_rfl) (e := Extern.MathFloatBits.float64bits) (by kernel_rfl) goBits_S
theorem ext243 : Ext.Holds Tryz.prog ⟨243, goSame⟩ := Ext.holds (P := Tryz.prog) (X := ⟨243, goSame⟩) Tryz.func243 (by kernel_rfl) (by kernel_rfl) (by kernel_rfl) (e := Extern.AbiNoEscape.same) (by kernel_rfl) goSame_S
theorem exts_ok : ∀ X ∈ exts, X.Holds Tryz.prog := by
  intro X hX
  simp only [exts, List.mem_cons, List.not_mem_nil, or_false] at hX
  rcases hX with rfl | rfl
  · exact ext297
  · exact ext243
def orc (es : List Entry) : FuncId → List AVal → AHeap → Option (AVal × AHeap) := orcS keysB outB exts 8 es
/-- the sort's runs are in hand: each call that is told, holds -/
theorem orc_S (hs : ∀ i, i < 8 → runAll (Mk.part i) = true) {es : List Entry} (he : ∀ E ∈ es, E.Holds Tryz.prog) : OrcS Tryz.prog (orc es) :=
  orcS_S noc (by decide) (by decide) (by decide) (by decide) (by decide) (sorts_of mixed noc globs hs) globs exts_ok he
def Sorts : Prop := ∀ i, i < 8 → runAll (Mk.part i) = true
theorem step (hs : Sorts) {es : List Entry} (he : ∀ E ∈ es, E.Holds Tryz.prog) (E : Entry) (hr : (E.ok && E.ran (ev Tryz.prog (orc es) 100000 (.call E.f E.args) E.h0)) = true) : E.Holds Tryz.prog :=
  Entry.holds_of_orc (orc_S hs he) mixed noc 100000 E hr
end
end Ab.Bk
