/- Proves that no function of the given program starts a goroutine, so that the row of the law does not. -/
import GoSem.ClaimGoes
import Derived.Test.YtjhmgeegnilbpaaGreatDoorProg
set_option linter.all false
namespace Ab
open Go
/-- no function of the program starts a goroutine: so the row does not -/
theorem goes_false {P : Program} {c : OpenClaim} (hs : c.start = .entering) (h : P.funcs.toList.all (fun fn => !fn.goes) = true) : false = c.goesBy P := by
  have hfn : ∀ g : Nat, (P.funcs[g]?).any Func.goes = false := by
    intro g
    cases hg : P.funcs[g]? with
    | none => rfl
    | some fn =>
      have hm : fn ∈ P.funcs.toList := by simpa using Array.mem_of_getElem? hg
      have := List.all_eq_true.1 h fn hm
      simpa using this
  have hall : P.funcs.any Func.goes = false := by
    rw [← Array.any_toList]
    rw [List.any_eq_false]
    intro fn hm
    have := List.all_eq_true.1 h fn hm
    simpa using this
  have hP : ∀ f, P.goes f = false := by
    intro f
    unfold Program.goes
    rw [hall, Bool.and_false, Bool.or_false]
    rw [List.any_eq_false]
    intro g _
    rw [hfn g]; simp
  unfold OpenClaim.goesBy Program.goesAt Program.goesFrom
  rw [hs]
  cases P.funcNamed c.func with
  | none => rfl
  | some f => simp [hP f]
theorem all_parts {α : Type} {f : α → Bool} {l : List α} (n : Nat) (h1 : (l.take n).all f = true) (h2 : (l.drop n).all f = true) : l.all f = true := by
  rw [← List.take_append_drop n l, List.all_append, h1, h2]; rfl
end Ab

namespace Ab.Bk
open Go Go.Proofs
theorem ng1 : ((Tryz.prog.funcs.toList.take 280).all fun fn => !fn.goes) = true := by decide +kernel
theorem ng2 : ((Tryz.prog.funcs.toList.drop 280).all fun fn => !fn.goes) = true := by decide +kernel
theorem goes {c : OpenClaim} (hs : c.start = .entering) : false = c.goesBy Tryz.prog := goes_false hs (all_parts 280 ng1 ng2)
end Ab.Bk
