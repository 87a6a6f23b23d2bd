/- Proves the given statement BetweenKnownCardSaid: the closed law returns true in every world whose listed package variables hold what the program lays, and leaves the world as it was but for new blocks, with no other condition. -/
import Derived.Test.YtdpbncadmhpphaaGreatDoorCards
import Derived.Test.YtdpbncadmhpphaaGreatDoorTie
import Derived.ProofKit
import Derived.OpenShut
import Derived.LaidMore
import Derived.Lay
import Derived.SevenTiedAt
import Derived.Stop.Joined
import Derived.Test.YtdpbncadmhpphaaGreatDoorClosed
import Derived.Test.YtdpbncadmhpphaaGreatDoorBkFacts
import Derived.Test.YtdpbncadmhpphaaGreatDoorBk6
import Derived.Test.YtdpbncadmhpphaaGreatDoorSo9
import Derived.Test.YtdpbncadmhpphaaGreatDoorGoes
set_option linter.all false
namespace Go.Proofs.YtdpbncadmhpphaaGreatDoor.betweenKnown
open Go.ChangeShapes Go.WideShapes Go.ChangeAt Go.RowKit
theorem walk (w : World) : Calls Tryz.prog 3 #[] w fun e w' => e = .returned (.bool true) ∧ Ab.More w w' := Ab.Bk.walk Ab.Mk.sorts w
theorem met (os : Os) : laidMet Tryz.prog laid ((World.laidAll Tryz.prog os laid).forCall (fun _ _ => 0) ⟨#[], #[], []⟩).memory := laidMet_laidAll _ (fits os) (ifaces os)
set_option maxRecDepth 100000 in
theorem lifted (os : Os) (started : os.Started) (H : Type) (enc : TypeId × Value → H) :
    ReturnsInHanded {} Tryz.checked os 3 .any (fun w args => (Rows.betweenKnownSpec.pre enc Tryz.prog Tryz.f3 Rows.betweenKnownRow.domain false w args ∧ laidMetH Tryz.prog laid w) ∧ sizedMet enc Tryz.prog Tryz.f3 (OpenSpec.ofChange Rows.betweenKnownSpec) false w args)
      (Rows.betweenKnownSpec.post enc Tryz.prog Tryz.f3 false true false false) := by
  refine returnsInHanded_of_change_and (C := Tryz.checked) (X := fun w _ => laidMetH Tryz.prog laid w) (fun _ _ _ hh h => h.of_heap hh) own started noInit Tryz.func3
    (ChangeSpec.witness_shaped (enc := enc) (C := Tryz.checked) (os := os) (X := fun w _ => laidMetH Tryz.prog laid w) false (World.laidAll Tryz.prog os laid) #[] 8 (World.laidAll_os _ _ _)
      (World.shaped_of_ZipB (zip os) (rest os)) (okIn os) (by kernel_rfl) (by kernel_rfl)
      (by rw [MakeChecks.laidMetH_plain _ _ _ plainLaid]; exact met os)) ?_
  intro W base args ds gs before hval0 hW hc _ hL _
  have hW' := hW
  obtain ⟨p, q, hA0, hV, rfl, hfz, hnd⟩ := hW
  have hA : DataW.TrodAll enc Tryz.prog W 0 (fun _ => true) true Tryz.f3.params.toList args.toList ds p := hA0
  rw [Tryz.params3] at hA
  obtain ⟨rfl, rfl, rfl⟩ := trodAll_none hA
  obtain ⟨rfl, rfl⟩ := trodVars_none hV
  clear hA0 hval0
  simp only [List.append_nil] at hW'
  refine (walk W).mono fun e W' ⟨he, hg⟩ => ?_
  subst he
  exact ⟨_, rfl, Ab.post_of_more (pa := []) (pv := []) hW' (fun _ _ _ => (trodAll_cons_mk (shut_bool Tryz.underlying4 _) trodAll_mk0)) (fun sp _ => rfl) (fun _ _ => rfl) rfl hg⟩
theorem and_true {a b : Bool} (h : a = true) (k : b = true) : (a && b) = true := by rw [h, k]; rfl
set_option maxRecDepth 100000 in
theorem facts : joinedFacts betweenKnownFacts.P betweenKnownFacts.f betweenKnownFacts.fn betweenKnownFacts.s betweenKnownFacts.c = true := by
  unfold joinedFacts
  exact (and_true (and_true (and_true (and_true (and_true (and_true (and_true (and_true (and_true (and_true (and_true (and_true (and_true (and_true (and_true (and_true (and_true (and_true (and_true (and_true (and_true (and_true (and_true (and_true (and_true (and_true (and_true (and_true (and_true (and_true (and_true betweenKnownFacts.k1 betweenKnownFacts.k2) betweenKnownFacts.k3) betweenKnownFacts.k4) betweenKnownFacts.k5) betweenKnownFacts.k6) betweenKnownFacts.k7) betweenKnownFacts.k8) betweenKnownFacts.k9) betweenKnownFacts.k10) betweenKnownFacts.k11) betweenKnownFacts.k12) betweenKnownFacts.k13) betweenKnownFacts.k14) betweenKnownFacts.k15) betweenKnownFacts.k16) betweenKnownFacts.k17) betweenKnownFacts.k18) betweenKnownFacts.k19) betweenKnownFacts.k20) betweenKnownFacts.k21) betweenKnownFacts.k22) betweenKnownFacts.k23) betweenKnownFacts.k24) betweenKnownFacts.k25) betweenKnownFacts.k26) betweenKnownFacts.k27) betweenKnownFacts.k28) betweenKnownFacts.k29) betweenKnownFacts.k30) betweenKnownFacts.k31) betweenKnownFacts.k32)
theorem holds : Rows.BetweenKnownSaid :=
  OpenClaim.holds_of_wide 3 Tryz.f3 rfl rfl rfl rfl rfl rfl rfl ⟨rfl, rfl, rfl, rfl, rfl⟩ rfl rfl rfl rfl rfl named Tryz.func3 facts
    inst (by unfold Func.isWrapper; first | (rw [if_pos (by decide +kernel)]; kernel_rfl) | (rw [if_neg (by decide +kernel)]; exact ⟨rfl, rfl⟩))
    (fun os started H enc _ => lifted os started H enc)
theorem card : Rows.BetweenKnownCardSaid :=
  Claim7.holds_tied_plain_at .later [] [.data, .data, .data, .data, .pinned, .pinned] true (true, "5b5e1f5872a8649b3b96029e663f1e295754572e8270a83c08dc27a726383e6e") false holds (fun _ h => by cases h) byText (fun _ h => by cases h) betweenKnown_row_tie rfl ⟨rfl, rfl⟩ mainIs rfl
    (fun f fn hf hfn => by
      obtain rfl : f = 3 := Option.some.inj (named.symm.trans hf) |>.symm
      obtain rfl : fn = Tryz.f3 := (Option.some.inj (Tryz.func3.symm.trans hfn)).symm
      exact ⟨looks, fun j t ht => by
        rw [Tryz.params3] at ht
        simp at ht⟩)
    (Ab.Bk.goes rfl)
#print axioms card
end Go.Proofs.YtdpbncadmhpphaaGreatDoor.betweenKnown
