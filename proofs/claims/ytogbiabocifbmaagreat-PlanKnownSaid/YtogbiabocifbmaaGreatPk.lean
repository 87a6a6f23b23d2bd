/- Proves the given statement PlanKnownSaid: the closed law returns true in every world and leaves the world as it was but for new blocks, with no condition. -/
import Derived.Test.YtogbiabocifbmaaGreatPkEn1
import Derived.Test.YtogbiabocifbmaaGreatPkFacts
import Derived.Test.YtogbiabocifbmaaGreatRows
import Derived.WalkKit
import Derived.ProofKit
import Derived.OpenShut
namespace Go.Proofs.YtogbiabocifbmaaGreat.planKnown
open Go.ChangeShapes Go.WideShapes Go.ChangeAt Go.RowKit
set_option linter.unusedVariables false      -- a walk need not use every 'w<i>' (that an integer argument fits its kind)

theorem own : ownKnob Tryz.prog.godebug = none := by kernel_rfl

/-! ### STEP 1: THE WALK: the Go text returns true. 'Grown w w'': the world has at most new blocks (Derived/RowKit3.lean). Part the cases AHEAD of 'go_enter' where a test parts the walk; take each callee by a contract of your own. -/
theorem walk (w : World) : Calls Tryz.prog 5 #[] w fun e w' => e = .returned (.bool true) ∧ Ab.More w w' := Ab.Pk.walk w

/-! ### THE ROW's STEP: WRITTEN OUT: LEAVE IT -/
set_option maxRecDepth 100000 in
theorem lifted (os : Os) (started : os.Started) (H : Type) (enc : TypeId × Value → H) :
    ReturnsInHanded {} Tryz.checked os 5 .any (Rows.planKnownSpec.pre6 enc Tryz.prog Tryz.f5 Rows.planKnownRow.domain false) (Rows.planKnownSpec.post enc Tryz.prog Tryz.f5 false true false false) := by
  refine returnsInHanded_of_change (C := Tryz.checked) own started (by kernel_rfl) Tryz.func5
    (ChangeSpec.witness6 (enc := enc) (C := Tryz.checked) false ⟨#[], #[], []⟩ 8 (by kernel_rfl) (by kernel_rfl) (by kernel_rfl) (by kernel_rfl)) ?_
  intro W base args ds gs before hval0 hW hcnd _
  have hval : ∀ (j : Nat) t v, Tryz.f5.params[j]? = some t → args[j]? = some v → Value.okWide Tryz.prog W .any base t v := hval0
  have hW' := hW
  obtain ⟨p, q, hA0, hV, rfl, hfz, hnd⟩ := hW
  have hA : DataW.TrodAll enc Tryz.prog W 0 (fun _ => true) true Tryz.f5.params.toList args.toList ds p := hA0
  rw [Tryz.params5] at hA hval
  obtain ⟨rfl, rfl, rfl⟩ := trodAll_none hA
  obtain ⟨rfl, rfl⟩ := trodVars_none hV
  clear hA0 hval0
  simp only [List.append_nil] at hW'
  refine (walk  W).mono fun e W' ⟨he, hg⟩ => ?_
  subst he
  exact ⟨_, rfl, Ab.post_of_more (pa := []) (pv := []) hW' (fun _ _ _ => (trodAll_cons_mk (shut_bool Tryz.underlying4 _) trodAll_mk0)) (fun sp _ => rfl) (fun _ _ => rfl) rfl hg⟩

theorem and_true {a b : Bool} (h : a = true) (k : b = true) : (a && b) = true := by rw [h, k]; rfl
set_option maxRecDepth 100000 in
theorem facts : joinedFacts planKnownFacts.P planKnownFacts.f planKnownFacts.fn planKnownFacts.s planKnownFacts.c = true := by
  unfold joinedFacts
  exact (and_true (and_true (and_true (and_true (and_true (and_true (and_true (and_true (and_true (and_true (and_true (and_true (and_true (and_true (and_true (and_true (and_true (and_true (and_true (and_true (and_true (and_true (and_true (and_true (and_true (and_true (and_true (and_true (and_true (and_true (and_true planKnownFacts.k1 planKnownFacts.k2) planKnownFacts.k3) planKnownFacts.k4) planKnownFacts.k5) planKnownFacts.k6) planKnownFacts.k7) planKnownFacts.k8) planKnownFacts.k9) planKnownFacts.k10) planKnownFacts.k11) planKnownFacts.k12) planKnownFacts.k13) planKnownFacts.k14) planKnownFacts.k15) planKnownFacts.k16) planKnownFacts.k17) planKnownFacts.k18) planKnownFacts.k19) planKnownFacts.k20) planKnownFacts.k21) planKnownFacts.k22) planKnownFacts.k23) planKnownFacts.k24) planKnownFacts.k25) planKnownFacts.k26) planKnownFacts.k27) planKnownFacts.k28) planKnownFacts.k29) planKnownFacts.k30) planKnownFacts.k31) planKnownFacts.k32)
theorem named : Tryz.prog.funcNamed Rows.planKnownRow.func = some 5 := by kernel_rfl
theorem inst : Tryz.f5.isInstance Tryz.prog Rows.planKnownRow.origin Rows.planKnownRow.targs := of_decide_eq_true (by kernel_rfl)
theorem over : Rows.planKnownRow.holds Tryz.pinned (OpenSpec.ofChange Rows.planKnownSpec) :=
  OpenClaim.holds_of_wide 5 Tryz.f5 rfl rfl rfl rfl rfl rfl rfl ⟨rfl, rfl, rfl, rfl, rfl⟩ rfl rfl rfl rfl rfl named Tryz.func5 facts
    inst (by unfold Func.isWrapper; first | (rw [if_pos (by decide +kernel)]; kernel_rfl) | (rw [if_neg (by decide +kernel)]; exact ⟨rfl, rfl⟩))
    (fun os started H enc _ => lifted os started H enc)

/-- ████ THE STATEMENT ████ -/
theorem proved : Rows.PlanKnownSaid :=
  over
#print axioms proved
end Go.Proofs.YtogbiabocifbmaaGreat.planKnown
