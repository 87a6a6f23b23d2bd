/- Proves, for the given program, that the law returns true at every slice of instants and every period, given what its last call does. -/
import Derived.Test.YtjhmgeegnilbpaaGreatDoorBp3
import Derived.Test.YtjhmgeegnilbpaaGreatDoorAb6
import Derived.Lib.SmallJoins
set_option linter.all false
namespace Go.Proofs.Bp
open Go.RowKit
theorem pieces2_below {w w' : World} {b : Nat} {v : Value} {l : List (Int × Int)} (h : w.ownsRow b 25 2 v l.length (flat l)) (hb : Below w.heap.size w w') : w'.ownsRow b 25 2 v l.length (flat l) := by
  refine ⟨h.1, h.2.imp id ?_⟩
  rintro ⟨g, cap, cur, e, hg, hh, r⟩
  have hgs : g < w.heap.size := (Array.getElem?_eq_some_iff.1 hh).1
  exact ⟨g, cap, cur, e, hg, (hb.block g hgs).trans hh, r⟩
/-- what the law leaves: true; what was there is as it was, up to what the last call does -/
def LawEnd (M : World → World → Prop) (w : World) (e : Ending) (w' : World) : Prop := e = .returned (.bool true) ∧ ∃ w1, Below w.heap.size w w1 ∧ M w1 w'
theorem below_draws {B : Nat} {a w : World} (h : Below B a w) (q : Nat) : Below B a (w.drewN q) := ⟨h.os, h.tape, h.output, h.size, h.block⟩
theorem refL_length (zs : List Int) (F T : Int) (hn : zs.length ≤ 60) : (refL zs F T).length ≤ 100 := by
  by_cases hm : mayB F T = true
  · rw [refL_comp hm, pairs_length]
    have := length_comp F T zs
    omega
  · have : refL zs F T = [] := by simp [refL, hm]
    rw [this]; simp
theorem ints_news {W : World} {b off n : Nat} {zs : List Int} (hzl : zs.length = n) (hc : ∀ j, j < n → W.cell? ⟨b, off + j, none⟩ = some (.int .u64 zs[j]!)) :
    ∀ j u, (zs.map Ux.encU)[j]? = some u → W.cell? ((⟨b, off, none⟩ : Addr).add j) = some u := by
  intro j u hu
  have hjl : j < zs.length := by
    rw [List.getElem?_map] at hu
    cases hz : zs[j]? with
    | none => rw [hz] at hu; simp at hu
    | some x => exact (List.getElem?_eq_some_iff.1 hz).1
  have hu' : u = .int .u64 zs[j]! := by
    simp [List.getElem?_map, hjl] at hu
    simp [hjl, ← hu]
  rw [hu']
  by_cases hj0 : j = 0
  · subst hj0; simpa [Addr.add] using hc 0 (by omega)
  · simpa [Addr.add, hj0] using hc j (by omega)
set_option maxHeartbeats 4000000 in
set_option maxRecDepth 100000 in
theorem law_some {M : World → World → Prop} (wk : ∀ w, Calls Tryz.prog 7 #[] w fun e w' => e = .returned (.bool true) ∧ M w w') (b off n0 c n : Nat) (zs : List Int) (F T : Int) (w : World)
    (hn : n0 ≤ 60 ∧ n = n0 ∨ 60 < n0 ∧ n = 60) (hbw : b < w.heap.size) (hnc : n0 ≤ c) (hcm : c ≤ 9223372036854775807) (hzl : zs.length = n) (hc : ∀ j, j < n → w.cell? ⟨b, off + j, none⟩ = some (.int .u64 zs[j]!)) (hF : 0 ≤ F) :
    Calls Tryz.prog 3 #[.slice (some ⟨b, off, none⟩) n0 c, .agg #[.int .u64 F, .int .u64 T]] w (LawEnd M w) := by
  obtain ⟨j0, hj, hy0, hy1, hy2⟩ := info_parts info23
  have hn60 : n ≤ 60 := by omega
  have hI : Ints w (some ⟨b, off, none⟩) n zs := ⟨hzl, .inr ⟨b, off, rfl, hbw, hc⟩⟩
  have HI : Hid (Ints w (some ⟨b, off, none⟩) n zs) := hI
  have WK : Hid (∀ w, Calls Tryz.prog 7 #[] w fun e w' => e = .returned (.bool true) ∧ M w w') := wk
  have HZ : Hid (zs.length = n) := hzl
  obtain ⟨W0, hW0⟩ : ∃ W0, W0 = w.alloc (.cells #[.int .u64 F, .int .u64 T] 25) := ⟨_, rfl⟩
  have BW0 : Below w.heap.size w W0 := by rw [hW0]; exact (Below.refl _ _).alloc (Nat.le_refl _) _
  have hs0 : W0.heap.size = w.heap.size + 1 := by rw [hW0]; simp
  have HI0 : Hid (Ints W0 (some ⟨b, off, none⟩) n zs) := hI.below BW0 (Nat.le_refl _)
  have hbW0 : b < W0.heap.size := by omega
  have hnews := ints_news (W := W0) (b := b) (off := off) hzl (fun j hj => (BW0.cell (p := ⟨b, off + j, none⟩) hbw).trans (hc j hj))
  have HNW : Hid (∀ j u, (zs.map Ux.encU)[j]? = some u → (w.alloc (.cells #[.int .u64 F, .int .u64 T] 25)).cell? ((⟨b, off, none⟩ : Addr).add j) = some u) := by
    rw [hW0] at hnews; exact hnews
  have hmin : min (n0 : Int) 60 = (n : Int) := by omega
  have hnci : (n : Int) ≤ (c : Int) := by omega
  have HS0 : Hid (W0.heap.size = w.heap.size + 1) := hs0
  clear hI wk hc hnews hn hW0 hs0 hnc hzl BW0 HI0 hbW0
  go_enter Tryz.func3, Tryz.ntmps3
  go_wp2_with (at_builtin; go_loud (refine wpList_append_own _ rfl (.const (.slice none 0 0)) (.tmp 13) 22 rfl (w.heap.size + 1) 23 j0 (.int .u64 0) 1 8 Tryz.underlying22 hj hy0 hy1 hy2 rfl (by decide) (.slice none 0 0) 0 [] rfl (World.ownsRow_nil _ _ _ _) ⟨b, off, none⟩ n c (zs.map Ux.encU) rfl (by rw [List.length_map, HZ.out, Nat.mul_one]) HNW.out (fun u hu => by obtain ⟨x, _, rfl⟩ := List.mem_map.1 hu; rfl) (by unfold maxLen; omega) (by omega) (by simp) ?_); intro v5 w5 hown5 hgrow5 hnil5; refine Hid.out ?_)
  refine Lib.hid ?_
  have g5 : Below (w.heap.size + 1) (w.alloc (.cells #[.int .u64 F, .int .u64 T] 25)) w5 := (Below.refl _ _).grown hgrow5 (by simp) (fun k hk => by simp [Value.ownBlock] at hk)
  have B5 : Below w.heap.size w w5 := ((Below.refl _ _).alloc (Nat.le_refl _) _).trans (g5.mono (by omega))
  have c50 : w5.cell? ⟨w.heap.size, 0, none⟩ = some (.int .u64 F) := (g5.cell (p := ⟨w.heap.size, 0, none⟩) (by simp)).trans (by simp)
  have c51 : w5.cell? ⟨w.heap.size, 1, none⟩ = some (.int .u64 T) := (g5.cell (p := ⟨w.heap.size, 1, none⟩) (by simp)).trans (by simp)
  have h5s : w.heap.size < w5.heap.size := by have := g5.size; simp at this; omega
  have HO5 : Hid (Own w5 (w.heap.size + 1) v5 zs) := by
    have h := hown5
    rw [Nat.zero_add, List.nil_append] at h
    show Own _ _ _ _
    unfold Own
    rw [HZ.out]
    exact h
  have HB5 : Hid (Below w.heap.size w w5) := B5
  have HI5 : Hid (Ints w5 (some ⟨b, off, none⟩) n zs) := HI.out.below B5 (Nat.le_refl _)
  have hz60 : zs.length ≤ 60 := by have := HZ.out; omega
  clear hown5 hgrow5 hnil5 g5 B5
  go_wp2_with (go_at_call 4; refine (pieces (w.heap.size + 1) v5 zs F T w5 HO5.out hz60 hF).mono ?_; rintro e w6 ⟨v6, rfl, ho6, hb6⟩; refine Hid.out ?_)
  refine Lib.hid ?_
  have HO6 : Hid (w6.ownsRow w5.heap.size 25 2 v6 (refL zs F T).length (flat (refL zs F T))) := ho6
  have HB6 : Hid (Below w5.heap.size w5 w6) := hb6
  have HV6 : Hid (Own w6 (w.heap.size + 1) v5 zs) := own_below HO5.out hb6 (Nat.le_refl _)
  have HI6 : Hid (Ints w6 (some ⟨b, off, none⟩) n zs) := HI5.out.below hb6 (Nat.le_refl _)
  have c60 : w6.cell? ⟨w.heap.size, 0, none⟩ = some (.int .u64 F) := (hb6.cell (p := ⟨w.heap.size, 0, none⟩) h5s).trans c50
  have c61 : w6.cell? ⟨w.heap.size, 1, none⟩ = some (.int .u64 T) := (hb6.cell (p := ⟨w.heap.size, 1, none⟩) h5s).trans c51
  clear ho6 hb6 c50 c51 hmin hnci
  go_wp2_with fail
  go_loopw [7] (fun s7 wr => ∃ k m : Nat, k ≤ n ∧ s7 = .int .i64 k ∧ wr = w6.drewN m) (fun s7 _ => n - (intOf s7).toNat)
  case atStart => exact ⟨0, 0, Nat.zero_le _, rfl, rfl⟩
  case round =>
    obtain ⟨k, m, hk, rfl, rfl⟩ := hrel
    by_cases hlt : k < n
    · obtain ⟨g, cap, rfl, hgb, hgs, hcell⟩ := own_form HV6.out (by have := HZ.out; omega)
      have hcg := hcell k (by rw [HZ.out]; exact hlt)
      obtain ⟨b', off', e, _, hci⟩ := HI6.out.2.resolve_left (by omega)
      cases e
      have hcb := hci k hlt
      obtain ⟨x, hx⟩ : ∃ x, x = zs[k]! := ⟨_, rfl⟩
      rw [← hx] at hcg hcb
      have hzn := HZ.out
      rw [hzn]
      clear hx hcell hci hzn c60 c61
      go_wp2_with fail
      go_quiet (fail)
      go_wp2
      all_goals
        go_roundw
        case rel => exact ⟨k + 1, m + nq, by omega, by go_num, by simp [World.drewN, Nat.add_assoc]⟩
        case measure => simp [intOf]; omega
    · have hkn : k = n := by omega
      subst hkn
      have HIr : Hid (Ints (w6.drewN m) (some ⟨b, off, none⟩) k zs) := HI6.out.below (below_draws (Below.refl _ _) m) (Nat.le_refl _)
      have HOr : Hid ((w6.drewN m).ownsRow w5.heap.size 25 2 v6 (refL zs F T).length (flat (refL zs F T))) := pieces2_below HO6.out (below_draws (Below.refl _ _) m)
      have HBr : Hid (Below w.heap.size w (w6.drewN m)) := below_draws (HB5.out.trans (HB6.out.mono (by omega))) m
      have hbr : w.heap.size ≤ (w6.drewN m).heap.size := HBr.out.size
      have e0 : (w6.drewN m).cell? ⟨w.heap.size, 0, none⟩ = some (.int .u64 F) := c60
      have e1 : (w6.drewN m).cell? ⟨w.heap.size, 1, none⟩ = some (.int .u64 T) := c61
      have HL100 := refL_length zs F T hz60
      clear c60 c61
      generalize w6.drewN m = wr at HIr HOr HBr hbr e0 e1 ⊢
      go_wp2_with (go_at_call 6; refine (refPieces (some ⟨b, off, none⟩) k c zs F T wr HIr.out (by omega) hF).mono ?_; rintro e w7 ⟨v7, rfl, ho7, hb7⟩; refine Hid.out ?_)
      refine Lib.hid ?_
      have HP6 : Hid (Pieces2 w7 v6 (refL zs F T)) := pieces_of (pieces2_below HOr.out hb7)
      have HP7 : Hid (Pieces2 w7 v7 (refL zs F T)) := pieces_of ho7
      have HB7 : Hid (Below w.heap.size w w7) := HBr.out.trans (hb7.mono hbr)
      clear ho7 hb7 e0 e1
      go_wp2_with (go_at_call 5; refine (like (refL zs F T) v6 v7 w7 HP6.out HP7.out (by omega)).mono ?_; rintro e w8 ⟨rfl, q, rfl⟩; refine Hid.out ?_)
      refine Lib.hid ?_
      go_wp2_with (go_at_call 7; refine (WK.out _).mono ?_; rintro e w9 ⟨rfl, hM⟩; refine Hid.out ?_)
      refine Lib.hid ?_
      have HMM : Hid (M (w7.drewN q) w9) := hM
      clear hM
      go_wp2
      go_ret
      exact ⟨rfl, _, below_draws HB7.out q, HMM.out⟩
end Go.Proofs.Bp

namespace Go.Proofs.Bp
open Go.RowKit
set_option maxHeartbeats 4000000 in
set_option maxRecDepth 100000 in
theorem law_nil {M : World → World → Prop} (wk : ∀ w, Calls Tryz.prog 7 #[] w fun e w' => e = .returned (.bool true) ∧ M w w') (F T : Int) (w : World) (hF : 0 ≤ F) :
    Calls Tryz.prog 3 #[.slice none 0 0, .agg #[.int .u64 F, .int .u64 T]] w (LawEnd M w) := by
  have WK : Hid (∀ w, Calls Tryz.prog 7 #[] w fun e w' => e = .returned (.bool true) ∧ M w w') := wk
  have B5 : Below w.heap.size w (w.alloc (.cells #[.int .u64 F, .int .u64 T] 25)) := (Below.refl _ _).alloc (Nat.le_refl _) _
  clear wk
  go_enter Tryz.func3, Tryz.ntmps3
  have HB5 : Hid (Below w.heap.size w (w.alloc (.cells #[.int .u64 F, .int .u64 T] 25))) := B5
  clear B5
  go_wp2_with (go_at_call 4; refine (pieces 0 (.slice none 0 0) [] F T _ (World.ownsRow_nil _ _ _ _) (by simp) hF).mono ?_; rintro e w6 ⟨v6, rfl, ho6, hb6⟩; refine Hid.out ?_)
  refine Lib.hid ?_
  have HO6 : Hid (w6.ownsRow (w.alloc (.cells #[.int .u64 F, .int .u64 T] 25)).heap.size 25 2 v6 (refL [] F T).length (flat (refL [] F T))) := ho6
  have c60 : w6.cell? ⟨w.heap.size, 0, none⟩ = some (.int .u64 F) := (hb6.cell (p := ⟨w.heap.size, 0, none⟩) (by simp)).trans (by simp)
  have c61 : w6.cell? ⟨w.heap.size, 1, none⟩ = some (.int .u64 T) := (hb6.cell (p := ⟨w.heap.size, 1, none⟩) (by simp)).trans (by simp)
  have HBr : Hid (Below w.heap.size w w6) := HB5.out.trans (hb6.mono (by simp))
  have hbr : w.heap.size ≤ w6.heap.size := HBr.out.size
  have HL100 := refL_length [] F T (by simp)
  clear ho6 hb6
  go_wp2_with fail
  go_loop [7] (fun s7 => s7 = .int .i64 0) (fun _ => 0)
  case atStart => rfl
  case round =>
    obtain rfl := hrel
    go_wp2_with (go_at_call 6; refine (refPieces none 0 0 [] F T w6 ⟨rfl, .inl rfl⟩ (by omega) hF).mono ?_; rintro e w7 ⟨v7, rfl, ho7, hb7⟩; refine Hid.out ?_)
    refine Lib.hid ?_
    have HP6 : Hid (Pieces2 w7 v6 (refL [] F T)) := pieces_of (pieces2_below HO6.out hb7)
    have HP7 : Hid (Pieces2 w7 v7 (refL [] F T)) := pieces_of ho7
    have HB7 : Hid (Below w.heap.size w w7) := HBr.out.trans (hb7.mono hbr)
    clear ho7 hb7
    go_wp2_with (go_at_call 5; refine (like (refL [] F T) v6 v7 w7 HP6.out HP7.out (by omega)).mono ?_; rintro e w8 ⟨rfl, q, rfl⟩; refine Hid.out ?_)
    refine Lib.hid ?_
    go_wp2_with (go_at_call 7; refine (WK.out _).mono ?_; rintro e w9 ⟨rfl, hM⟩; refine Hid.out ?_)
    refine Lib.hid ?_
    have HMM : Hid (M (w7.drewN q) w9) := hM
    clear hM
    go_wp2
    go_ret
    exact ⟨rfl, _, below_draws HB7.out q, HMM.out⟩
end Go.Proofs.Bp

namespace Go.Proofs.Bp
open Go.RowKit Go.ChangeShapes Go.WideShapes Go.ChangeAt Go.Joins
theorem more_of_below {w w1 w' : World} (h : Below w.heap.size w w1) (k : Ab.More w1 w') : Ab.More w w' :=
  ⟨k.1.trans h.os, k.2.1.trans h.output, Nat.le_trans h.size k.2.2.1, fun i hi => (k.2.2.2 i (Nat.lt_of_lt_of_le hi h.size)).trans (h.block i hi)⟩
theorem more_same {W w' : World} (h : Ab.More W w') {p : MemPlace} (hp : p.block < W.heap.size) : W.sameAt w' p := by
  cases p with
  | cell b o => exact World.cell?_of_block (w := W) (h.2.2.2 b hp)
  | map b => exact h.2.2.2 b hp
/-- the slice that came in: nil, or a row of numbers -/
def IsRow (w : World) (a : Option Addr) (len cap : Nat) (zs : List Int) : Prop :=
  (a = none ∧ len = 0 ∧ cap = 0) ∨ ∃ x, a = some x ∧ len ≤ cap ∧ cap ≤ maxLen ∧ len ≤ zs.length ∧ ∀ i, i < zs.length → w.cell? (x.add i) = some (.int .u64 (zs.getD i 0))
set_option maxHeartbeats 4000000 in
set_option maxRecDepth 100000 in
theorem law_empty {M : World → World → Prop} (wk : ∀ w, Calls Tryz.prog 7 #[] w fun e w' => e = .returned (.bool true) ∧ M w w') (a : Addr) (c : Nat) (F T : Int) (w : World) (hF : 0 ≤ F) (hcm : c ≤ 9223372036854775807) :
    Calls Tryz.prog 3 #[.slice (some a) 0 c, .agg #[.int .u64 F, .int .u64 T]] w (LawEnd M w) := by
  obtain ⟨j0, hj, hy0, hy1, hy2⟩ := info_parts info23
  have WK : Hid (∀ w, Calls Tryz.prog 7 #[] w fun e w' => e = .returned (.bool true) ∧ M w w') := wk
  clear wk
  have hmin : min (0 : Int) 60 = 0 := by omega
  have hci : (0 : Int) ≤ (c : Int) := by omega
  go_enter Tryz.func3, Tryz.ntmps3
  go_wp2_with (at_builtin; go_loud (refine wpList_append_own _ rfl (.const (.slice none 0 0)) (.tmp 13) 22 rfl (w.heap.size + 1) 23 j0 (.int .u64 0) 1 8 Tryz.underlying22 hj hy0 hy1 hy2 rfl (by decide) (.slice none 0 0) 0 [] rfl (World.ownsRow_nil _ _ _ _) a 0 c [] rfl rfl (fun j u hu => by simp at hu) (fun u hu => by simp at hu) (by unfold maxLen; omega) (by omega) (by simp) ?_); intro v5 w5 hown5 hgrow5 hnil5; refine Hid.out ?_)
  refine Lib.hid ?_
  have g5 : Below (w.heap.size + 1) (w.alloc (.cells #[.int .u64 F, .int .u64 T] 25)) w5 := (Below.refl _ _).grown hgrow5 (by simp) (fun k hk => by simp [Value.ownBlock] at hk)
  have B5 : Below w.heap.size w w5 := ((Below.refl _ _).alloc (Nat.le_refl _) _).trans (g5.mono (by omega))
  have c50 : w5.cell? ⟨w.heap.size, 0, none⟩ = some (.int .u64 F) := (g5.cell (p := ⟨w.heap.size, 0, none⟩) (by simp)).trans (by simp)
  have c51 : w5.cell? ⟨w.heap.size, 1, none⟩ = some (.int .u64 T) := (g5.cell (p := ⟨w.heap.size, 1, none⟩) (by simp)).trans (by simp)
  have h5s : w.heap.size < w5.heap.size := by have := g5.size; simp at this; omega
  have HO5 : Hid (Own w5 (w.heap.size + 1) v5 []) := hown5
  have HB5 : Hid (Below w.heap.size w w5) := B5
  clear hown5 hgrow5 hnil5 g5 B5
  go_wp2_with (go_at_call 4; refine (pieces (w.heap.size + 1) v5 [] F T w5 HO5.out (by simp) hF).mono ?_; rintro e w6 ⟨v6, rfl, ho6, hb6⟩; refine Hid.out ?_)
  refine Lib.hid ?_
  have HO6 : Hid (w6.ownsRow w5.heap.size 25 2 v6 (refL [] F T).length (flat (refL [] F T))) := ho6
  have c60 : w6.cell? ⟨w.heap.size, 0, none⟩ = some (.int .u64 F) := (hb6.cell (p := ⟨w.heap.size, 0, none⟩) h5s).trans c50
  have c61 : w6.cell? ⟨w.heap.size, 1, none⟩ = some (.int .u64 T) := (hb6.cell (p := ⟨w.heap.size, 1, none⟩) h5s).trans c51
  have HBr : Hid (Below w.heap.size w w6) := HB5.out.trans (hb6.mono (by omega))
  have hbr : w.heap.size ≤ w6.heap.size := HBr.out.size
  have HL100 := refL_length [] F T (by simp)
  clear ho6 hb6 c50 c51 hmin hci
  go_wp2_with fail
  go_loop [7] (fun s7 => s7 = .int .i64 0) (fun _ => 0)
  case atStart => rfl
  case round =>
    obtain rfl := hrel
    go_wp2_with (go_at_call 6; refine (refPieces (some a) 0 c [] F T w6 ⟨rfl, .inl rfl⟩ (by omega) hF).mono ?_; rintro e w7 ⟨v7, rfl, ho7, hb7⟩; refine Hid.out ?_)
    refine Lib.hid ?_
    have HP6 : Hid (Pieces2 w7 v6 (refL [] F T)) := pieces_of (pieces2_below HO6.out hb7)
    have HP7 : Hid (Pieces2 w7 v7 (refL [] F T)) := pieces_of ho7
    have HB7 : Hid (Below w.heap.size w w7) := HBr.out.trans (hb7.mono hbr)
    clear ho7 hb7
    go_wp2_with (go_at_call 5; refine (like (refL [] F T) v6 v7 w7 HP6.out HP7.out (by omega)).mono ?_; rintro e w8 ⟨rfl, q, rfl⟩; refine Hid.out ?_)
    refine Lib.hid ?_
    go_wp2_with (go_at_call 7; refine (WK.out _).mono ?_; rintro e w9 ⟨rfl, hM⟩; refine Hid.out ?_)
    refine Lib.hid ?_
    have HMM : Hid (M (w7.drewN q) w9) := hM
    clear hM
    go_wp2
    go_ret
    exact ⟨rfl, _, below_draws HB7.out q, HMM.out⟩
theorem law_any {M : World → World → Prop} (wk : ∀ w, Calls Tryz.prog 7 #[] w fun e w' => e = .returned (.bool true) ∧ M w w') (a : Option Addr) (len cap : Nat) (zs : List Int) (F T : Int) (w : World) (hF : 0 ≤ F) (h : IsRow w a len cap zs) :
    Calls Tryz.prog 3 #[.slice a len cap, .agg #[.int .u64 F, .int .u64 T]] w (LawEnd M w) := by
  rcases h with ⟨rfl, rfl, rfl⟩ | ⟨x, rfl, hl, hm, hz, hc⟩
  · exact law_nil wk F T w hF
  · unfold maxLen at hm
    by_cases h0 : len = 0
    · subst h0
      exact law_empty wk x cap F T w hF (by omega)
    · obtain ⟨b, off, spot⟩ := x
      have hc0 := hc 0 (by omega)
      have hspot : spot = none := by simpa [Addr.add] using World.cell?_spot hc0
      subst hspot
      have hcj : ∀ j, j < zs.length → w.cell? ⟨b, off + j, none⟩ = some (.int .u64 (zs.getD j 0)) := fun j hj => by
        have := hc j hj
        by_cases hj0 : j = 0
        · subst hj0; simpa [Addr.add] using this
        · simpa [Addr.add, hj0] using this
      have hb : b < w.heap.size := World.block_lt_of_cell? w _ (hcj 0 (by omega))
      exact law_some wk b off len cap (min len 60) (zs.take (min len 60)) F T w (by omega) hb hl (by omega) (by simp; omega)
        (fun j hj => by
          rw [hcj j (by omega)]
          congr 2
          have h1 : j < zs.length := by omega
          have h2 : j < (zs.take (min len 60)).length := by simp; omega
          rw [getElem!_pos _ j h2, List.getElem_take]
          simp [h1]) hF
end Go.Proofs.Bp
