/- Proves, for the given program, what slices.Sort makes of a row of at most 1000 numbers, in every world. -/
import Derived.Test.YtjhmgeegnilbpaaGreatDoorMk2
import Derived.Test.YtjhmgeegnilbpaaGreatDoorBp2
import Derived.Test.YtjhmgeegnilbpaaGreatDoorSx4
import Derived.Sort.EveryDepth
set_option linter.all false
namespace Ab.Mk
open Go Go.Proofs Go.Sort Go.RowKit
theorem sort_any (ss : List Int) (hl : ss.length ≤ 1000) : SortOk ss (ss.mergeSort fun x y => decide (x ≤ y)) := by
  intro gb cap cur W hb h1 h2 h3
  have hgs : gb < W.heap.size := (Array.getElem?_eq_some_iff.1 hb).1
  have c := calls_of_every_depth fun D => Ux.Sx.slices_Sort_int_in D gb 0 cap ss W (Bp.holds_block (Value.int .u64) hb h3) hgs (by omega)
  refine callsIn_wide.2 (c.mono ?_)
  rintro e w' ⟨rfl, n, os, rfl⟩
  refine ⟨rfl, ⟨_, Bp.heap_put _ _ hb, by simp [putCells, h2], ?_⟩, ?_, ?_, rfl, rfl⟩
  · rw [Bp.take_put _ _ _ _ (by simp) (by omega), List.take_of_length_le (by simp)]
  · intro k hk hne
    rw [heap_grow_old _ _ (by rw [size_putRow]; exact hk)]
    have hne' : gb ≠ k := fun e => hne e.symm
    simp [putRow, mapBlock, Sort.ahead, Array.getElem?_modify, hne']
  · rw [size_grow, size_putRow]; exact Nat.le_add_right _ _
/-- the keys of the chapter's map, as they were laid, and sorted -/
def keysB : List Int := [.ofNat 0, .ofNat 9, .ofNat 1, .ofNat 3, .ofNat 4, .ofNat 6]
def outB : List Int := [.ofNat 0, .ofNat 1, .ofNat 3, .ofNat 4, .ofNat 6, .ofNat 9]
theorem sorts : ∀ ss : List Int, ss.Perm keysB → SortOk ss outB := by
  intro ss hp
  have e : (ss.mergeSort fun x y => decide (x ≤ y)) = outB := by
    have h1 : (ss.mergeSort fun x y => decide (x ≤ y)).Pairwise fun x y => decide (x ≤ y) = true := List.pairwise_mergeSort (fun a b c h1 h2 => by simp at h1 h2 ⊢; omega) (fun a b => by simp; omega) _
    have h2 : outB.Pairwise fun x y => decide (x ≤ y) = true := by decide
    have h3 : (ss.mergeSort fun x y => decide (x ≤ y)).Perm outB := (List.mergeSort_perm _ _).trans (hp.trans (by decide))
    exact List.Perm.eq_of_pairwise (fun a b _ _ h1 h2 => by simp at h1 h2; omega) h1 h2 h3
  rw [← e]
  exact sort_any ss (by have := hp.length_eq; simp [keysB] at this; omega)
end Ab.Mk
