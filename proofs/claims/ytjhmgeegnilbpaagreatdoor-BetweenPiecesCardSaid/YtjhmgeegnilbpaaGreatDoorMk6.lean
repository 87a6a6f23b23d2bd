/- Proves, for the given program, that the calls that are told hold, given the sorts, and that a run to true proves a closed law. -/
import Derived.Test.YtjhmgeegnilbpaaGreatDoorMk5
set_option linter.all false
namespace Ab.Mk
open Go Go.Proofs

/-- calls that are told: a sorted map's keys, externs, entries -/
noncomputable def orcS (K out : List Int) (xs : List Ext) (ng : Nat) (es : List Entry) (f : FuncId) (args : List AVal) (h : AHeap) : Option (AVal × AHeap) :=
  bif Nat.beq f 100 then goSorted K out args h else orcE xs ng es f args h
set_option maxRecDepth 100000 in
theorem orcS_S (hno : noCount Tryz.prog = true) {K out : List Int} (hK : K ≠ []) (hnd : K.Nodup) (hwf : ∀ k ∈ K, (Lit.int .u64 k).wf = true) (hlen : K.length ≤ 1000) (hol : out.length = K.length) (hsort : ∀ ss, ss.Perm K → SortOk ss out)
    {xs : List Ext} {es : List Entry} {ng : Nat} (hng : Tryz.prog.globals.size = ng) (hx : ∀ X ∈ xs, X.Holds Tryz.prog) (he : ∀ E ∈ es, E.Holds Tryz.prog) : OrcS Tryz.prog (orcS K out xs ng es) := by
  intro f args h v h' ho
  unfold orcS at ho
  cases hf : Nat.beq f 100 with
  | true =>
    rw [hf] at ho
    rw [beq_iff] at hf
    subst hf
    exact goSorted_S hno hK hnd hwf hlen hol hsort ho
  | false => rw [hf] at ho; exact orcE_S hng hx he f args h v h' ho
end Ab.Mk
namespace Ab
open Go
variable {P : Program}
theorem Entry.holds_of_orc {orc : FuncId → List AVal → AHeap → Option (AVal × AHeap)} (horc : OrcS P orc) (hmix : P.follows .mixedOrders = true) (hno : noCount P = true) (n : Nat) (E : Entry)
    (hr : (E.ok && E.ran (ev P orc n (.call E.f E.args) E.h0)) = true) : E.Holds P := by
  simp only [Bool.and_eq_true] at hr
  exact Entry.holds_of_run (sound horc hmix hno n) hr.1 hr.2
theorem walk_of_orc {orc : FuncId → List AVal → AHeap → Option (AVal × AHeap)} (horc : OrcS P orc) {ng : Nat} (hmix : P.follows .mixedOrders = true) (hno : noCount P = true) (hng : P.globals.size = ng) (n : Nat) (f : FuncId)
    (hr : isTrue (ev P orc n (.call f []) ⟨ng, .leaf⟩) = true) (w : World) : Calls P f #[] w fun e w' => e = .returned (.bool true) ∧ More w w' := by
  subst hng
  have hs := sound horc hmix hno n (.call f []) ⟨P.globals.size, .leaf⟩ _ rfl
  unfold isTrue at hr
  split at hr
  · rename_i h heq
    rw [heq] at hs
    obtain ⟨v, h', e, hc, _⟩ := hs (by simp)
    cases e
    exact hc.closed (fun ι u' hv => by simpa only [VR] using hv) w
  · cases hr
end Ab
