/- Proves, for the given program, that eight runs over all orders of six given numbers prove that slices.Sort sorts them, in every world. -/
import Derived.Test.YtdpbncadmhpphaaGreatDoorMk3
set_option linter.all false
namespace Ab.Mk
open Go Go.Proofs
noncomputable section
def noOrc : FuncId → List AVal → AHeap → Option (AVal × AHeap) := fun _ _ _ => none
theorem noOrc_S : OrcS Tryz.prog noOrc := fun _ _ _ _ _ h => by cases h
/-- the keys of the chapter's map, as they were laid, and sorted -/
def keysB : List Int := [.ofNat 0, .ofNat 9, .ofNat 1, .ofNat 3, .ofNat 4, .ofNat 6]
def outB : List Int := [.ofNat 0, .ofNat 1, .ofNat 3, .ofNat 4, .ofNat 6, .ofNat 9]
def runAll (l : List (List Int)) : Bool := l.all fun ss => sortRun noOrc 100000 6 outB ss
def part (i : Nat) : List (List Int) := ((perms keysB).drop (90 * i)).take 90
theorem parts {l : List (List Int)} {n : Nat} (hl : l.length ≤ 90 * n) {f : List Int → Bool} (h : ∀ i, i < n → ((l.drop (90 * i)).take 90).all f = true) : l.all f = true := by
  rw [List.all_eq_true]
  intro x hx
  obtain ⟨j, hj, rfl⟩ := List.getElem_of_mem hx
  have hi : j / 90 < n := Nat.div_lt_of_lt_mul (by omega)
  have := h (j / 90) hi
  rw [List.all_eq_true] at this
  apply this
  rw [List.mem_iff_getElem?]
  refine ⟨j % 90, ?_⟩
  rw [List.getElem?_take_of_lt (Nat.mod_lt _ (by decide)), List.getElem?_drop, show 90 * (j / 90) + j % 90 = j by omega, List.getElem?_eq_getElem hj]
theorem perms_length : (perms keysB).length ≤ 90 * 8 := by decide +kernel
set_option maxRecDepth 100000 in
theorem sorts_of (hmix : Tryz.prog.follows .mixedOrders = true) (hno : noCount Tryz.prog = true) (hng : Tryz.prog.globals.size = 8) (h : ∀ i, i < 8 → runAll (part i) = true) : ∀ ss, ss.Perm keysB → SortOk ss outB := by
  intro ss hp
  have h1 : (perms keysB).all (fun ss => sortRun noOrc 100000 6 outB ss) = true := parts perms_length h
  rw [List.all_eq_true] at h1
  exact sort_ok noOrc_S hmix hno hng (h1 ss (mem_perms _ _ hp))
end
end Ab.Mk
