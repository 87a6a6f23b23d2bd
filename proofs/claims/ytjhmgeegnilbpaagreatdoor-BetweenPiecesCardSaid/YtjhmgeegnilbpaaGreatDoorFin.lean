/- Proves the given statement BetweenPiecesCardSaid: for every slice of instants and every period the law returns true, in every world whose listed package variables hold what the program lays, and leaves what was there as it was, with no other condition. -/
import Derived.Test.YtjhmgeegnilbpaaGreatDoorCards
import Derived.Test.YtjhmgeegnilbpaaGreatDoorTie
import Derived.ProofKit
import Derived.OpenShut
import Derived.LaidMore
import Derived.Lay
import Derived.SevenTiedAt
import Derived.Stop.Joined
import Derived.Lib.SmallJoins
import Derived.Test.YtjhmgeegnilbpaaGreatDoorClosed
import Derived.Test.YtjhmgeegnilbpaaGreatDoorFacts
import Derived.Test.YtjhmgeegnilbpaaGreatDoorBk13
import Derived.Test.YtjhmgeegnilbpaaGreatDoorBp4
import Derived.Test.YtjhmgeegnilbpaaGreatDoorGoes
set_option linter.all false
namespace Go.Proofs.YtjhmgeegnilbpaaGreatDoor.betweenPieces
open Go.ChangeShapes Go.WideShapes Go.ChangeAt Go.RowKit Go.Joins Go.Deep
theorem walk (a : Option Addr) (len cap : Nat) (zs : List Int) (F T : Int) (w : World) (hF : 0 ≤ F) (h : Bp.IsRow w a len cap zs) :
    Calls Tryz.prog 3 #[.slice a len cap, .agg #[.int .u64 F, .int .u64 T]] w fun e w' => e = .returned (.bool true) ∧ Ab.More w w' :=
  (Bp.law_any (M := Ab.More) (fun w => Ab.Bk.walk w) a len cap zs F T w hF h).mono fun e w' ⟨he, w1, hb, hm⟩ => ⟨he, Bp.more_of_below hb hm⟩
theorem met (os : Os) : laidMet Tryz.prog laid ((World.laidAll Tryz.prog os laid).forCall (fun _ _ => 0) ⟨#[], wit, []⟩).memory := laidMet_laidAll _ (fits os) (ifaces os)
theorem wf_nonneg {x : Int} (h : (Lit.int .u64 x).wf = true) : 0 ≤ x := by
  have := bounds_u64 h
  omega
set_option maxRecDepth 100000 in
theorem lifted (os : Os) (started : os.Started) (H : Type) (enc : TypeId × Value → H) :
    ReturnsInHanded {} Tryz.checked os 3 .any (fun w args => (Rows.betweenPiecesSpec.pre enc Tryz.prog Tryz.f3 Rows.betweenPiecesRow.domain false w args ∧ laidMetH Tryz.prog laid w) ∧ sizedMet enc Tryz.prog Tryz.f3 (OpenSpec.ofChange Rows.betweenPiecesSpec) false w args)
      (Rows.betweenPiecesSpec.post enc Tryz.prog Tryz.f3 false true false false) := by
  refine returnsInHanded_of_change_and (C := Tryz.checked) (X := fun w _ => laidMetH Tryz.prog laid w) (fun _ _ _ hh h => h.of_heap hh) own started noInit Tryz.func3
    (ChangeSpec.witness_shaped (enc := enc) (C := Tryz.checked) (os := os) (X := fun w _ => laidMetH Tryz.prog laid w) false (World.laidAll Tryz.prog os laid) wit 8 (World.laidAll_os _ _ _)
      (World.shaped_of_ZipB (zip os) (rest os)) (okIn os) (by kernel_rfl) (by kernel_rfl)
      (by rw [MakeChecks.laidMetH_plain _ _ _ plainLaid]; exact met os)) ?_
  intro W base args ds gs before hval0 hW hc _ hL _
  have hval : ∀ (j : Nat) t v, Tryz.f3.params[j]? = some t → args[j]? = some v → Value.okWide Tryz.prog W .any base t v := hval0
  have hW' := hW
  obtain ⟨p, q, hA0, hV, rfl, hfz, hnd⟩ := hW
  have hA : DataW.TrodAll enc Tryz.prog W 0 (fun _ => true) true Tryz.f3.params.toList args.toList ds p := hA0
  rw [Tryz.params3] at hA hval
  obtain ⟨v0, v1, d0, d1, p0, p1, rfl, rfl, rfl, h0, h1⟩ := trodAll_two hA
  obtain ⟨rfl, rfl⟩ := trodVars_none hV
  obtain ⟨a0, len0, cap0, rfl⟩ := okWide_slice Tryz.underlying22 (hval 0 22 v0 rfl rfl)
  have k0 := h0
  have k1 := h1
  have lt0 : ∀ x ∈ p0, x.block < W.heap.size := by obtain ⟨m, hm⟩ := k0; exact DataW.trod_lt m _ _ _ hm
  have lt1 : ∀ x ∈ p1, x.block < W.heap.size := by obtain ⟨m, hm⟩ := k1; exact DataW.trod_lt m _ _ _ hm
  obtain ⟨z0, w0⟩ : ∃ zs, Bp.IsRow W a0 len0 cap0 zs := by
    obtain ⟨fuel, hf⟩ := h0
    rcases open_ints Tryz.underlying22 Tryz.underlying23 cells23 hf with ⟨hcs, _⟩ | ⟨x, l, c, zs, hcs, _, hl, hm, hz, _, hcell, hwz⟩
    · simp [Value.cells] at hcs
      obtain ⟨rfl, rfl, rfl⟩ := hcs
      exact ⟨[], .inl ⟨rfl, rfl, rfl⟩⟩
    · simp [Value.cells] at hcs
      obtain ⟨rfl, rfl, rfl⟩ := hcs
      exact ⟨zs, .inr ⟨_, rfl, hl, hm, by simp at hz; omega, hcell⟩⟩
  obtain ⟨c0, c1, y0, y1, m, rfl, rfl, rfl, hy0, hy1⟩ := open_agg2 Tryz.underlying25 one25 cells25 (hval 1 25 v1 rfl rfl) h1
  obtain ⟨F, e0, rfl, wF⟩ := DataW.trod_int Tryz.underlying23 hy0
  obtain ⟨T, e1, rfl, wT⟩ := DataW.trod_int Tryz.underlying23 hy1
  simp only [List.cons.injEq, and_true] at e0 e1
  subst e0; subst e1
  clear hA0 hval0 hval
  refine (walk a0 len0 cap0 z0 F T W (wf_nonneg wF) w0).mono fun e W' ⟨he, hg⟩ => ?_
  subst he
  refine ⟨_, rfl, Ab.post_of_more (pv := []) hW' (fun _ _ _ => (trodAll_cons_mk (shut_bool Tryz.underlying4 _) trodAll_mk0)) (fun sp hsp => ?_) (fun _ _ => rfl) rfl hg⟩
  refine trodAll_cons_mk (Go.WideElems.Trod_stays laidOut rec22 row22 k0 (fun x hx => Bp.more_same hg (lt0 x hx)) (fun x hx => hsp x (List.mem_append_left _ (List.mem_append_left _ hx)))) ?_
  exact trodAll_cons_mk (Go.WideElems.Trod_stays laidOut rec25 row25 k1 (fun x hx => Bp.more_same hg (lt1 x hx)) (fun x hx => hsp x (List.mem_append_left _ (List.mem_append_right _ hx)))) trodAll_mk0
theorem and_true {a b : Bool} (h : a = true) (k : b = true) : (a && b) = true := by rw [h, k]; rfl
set_option maxRecDepth 100000 in
theorem facts : joinedFacts betweenPiecesFacts.P betweenPiecesFacts.f betweenPiecesFacts.fn betweenPiecesFacts.s betweenPiecesFacts.c = true := by
  unfold joinedFacts
  exact (and_true (and_true (and_true (and_true (and_true (and_true (and_true (and_true (and_true (and_true (and_true (and_true (and_true (and_true (and_true (and_true (and_true (and_true (and_true (and_true (and_true (and_true (and_true (and_true (and_true (and_true (and_true (and_true (and_true (and_true (and_true betweenPiecesFacts.k1 betweenPiecesFacts.k2) betweenPiecesFacts.k3) betweenPiecesFacts.k4) betweenPiecesFacts.k5) betweenPiecesFacts.k6) betweenPiecesFacts.k7) betweenPiecesFacts.k8) betweenPiecesFacts.k9) betweenPiecesFacts.k10) betweenPiecesFacts.k11) betweenPiecesFacts.k12) betweenPiecesFacts.k13) betweenPiecesFacts.k14) betweenPiecesFacts.k15) betweenPiecesFacts.k16) betweenPiecesFacts.k17) betweenPiecesFacts.k18) betweenPiecesFacts.k19) betweenPiecesFacts.k20) betweenPiecesFacts.k21) betweenPiecesFacts.k22) betweenPiecesFacts.k23) betweenPiecesFacts.k24) betweenPiecesFacts.k25) betweenPiecesFacts.k26) betweenPiecesFacts.k27) betweenPiecesFacts.k28) betweenPiecesFacts.k29) betweenPiecesFacts.k30) betweenPiecesFacts.k31) betweenPiecesFacts.k32)
theorem holds : Rows.BetweenPiecesSaid :=
  OpenClaim.holds_of_wide 3 Tryz.f3 rfl rfl rfl rfl rfl rfl rfl ⟨rfl, rfl, rfl, rfl, rfl⟩ rfl rfl rfl rfl rfl named Tryz.func3 facts
    inst (by unfold Func.isWrapper; first | (rw [if_pos (by decide +kernel)]; kernel_rfl) | (rw [if_neg (by decide +kernel)]; exact ⟨rfl, rfl⟩))
    (fun os started H enc _ => lifted os started H enc)
theorem card : Rows.BetweenPiecesCardSaid :=
  Claim7.holds_tied_plain_at .later [] [.data, .data, .data, .data, .pinned, .pinned] true (true, "5e5bd45fcabbac513cef8d6812590a7edec1744c33d3ca8748c9180a1f8e9b48") false holds (fun _ h => by cases h) byText (fun _ h => by cases h) betweenPieces_row_tie rfl ⟨rfl, rfl⟩ mainIs rfl
    (fun f fn hf hfn => by
      obtain rfl : f = 3 := Option.some.inj (named.symm.trans hf) |>.symm
      obtain rfl : fn = Tryz.f3 := (Option.some.inj (Tryz.func3.symm.trans hfn)).symm
      exact ⟨looks, fun j t ht => by
        rw [Tryz.params3] at ht
        rcases j with _ | _ | j
        · obtain rfl : t = 22 := by simpa using ht.symm
          exact stand22
        · obtain rfl : t = 25 := by simpa using ht.symm
          exact stand25
        · simp at ht⟩)
    (Ab.Bk.goes rfl)
#print axioms card
end Go.Proofs.YtjhmgeegnilbpaaGreatDoor.betweenPieces
