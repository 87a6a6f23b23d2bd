/- Proves, for the given program, that between.Pieces makes the pieces of the reference, for at most 60 instants and a period that begins at 0 or later. -/
import Derived.Shelf.SlicesE.Clone
import Derived.Shelf.SlicesE.DeleteFunc
import Derived.Shelf.SlicesE.Compact
import Derived.Test.YtjhmgeegnilbpaaGreatDoorProg
import Derived.Test.YtjhmgeegnilbpaaGreatDoorBp2
import Derived.Test.YtjhmgeegnilbpaaGreatDoorSx4
import Derived.Sort.EveryDepth
import Derived.Deep.RegionHeld3
import Derived.Deep.AppendLies
import Derived.StillTactics
import Derived.IntWalk
import Derived.Laws.Pointers
set_option linter.all false
namespace Go.Proofs
open Go.Shelf Go.RowKit Go.Lib Go.Sort
def Tryz.layDel_ren : Go.Shelf.Ren := ⟨fun | 10 => 9 | 6 => 22 | n => n, fun | 22 => 22 | 23 => 23 | 25 => 34 | 3 => 3 | 4 => 4 | 0 => 0 | n => n, fun | n => n⟩
theorem Tryz.layDel : Go.Proofs.SlLaysH.n10 Tryz.prog Tryz.layDel_ren := {
    mixed := by kernel_rfl,
    f6 := ⟨Tryz.f22.name, by decide, Tryz.func22.trans (congrArg some (by kernel_rfl))⟩,
    f10 := ⟨Tryz.f9.name, by decide, Tryz.func9.trans (congrArg some (by kernel_rfl))⟩,
    t0 := Tryz.underlying0,
    a0 := Tryz.isAgg0,
    z0 := Tryz.sizeOf0,
    v0 := Tryz.zeroValue0,
    t3 := Tryz.underlying3,
    a3 := Tryz.isAgg3,
    z3 := Tryz.sizeOf3,
    v3 := Tryz.zeroValue3,
    t4 := Tryz.underlying4,
    a4 := Tryz.isAgg4,
    z4 := Tryz.sizeOf4,
    v4 := Tryz.zeroValue4,
    t22 := Tryz.underlying22,
    a22 := Tryz.isAgg22,
    z22 := Tryz.sizeOf22,
    v22 := Tryz.zeroValue22,
    a23 := Tryz.isAgg23,
    z23 := Tryz.sizeOf23,
    t25 := Tryz.underlying34,
    a25 := Tryz.isAgg34,
    z25 := Tryz.sizeOf34,
    v25 := Tryz.zeroValue34 }
def Tryz.layIdx_ren : Go.Shelf.Ren := ⟨fun | 6 => 22 | n => n, fun | 22 => 22 | 23 => 23 | 25 => 34 | 3 => 3 | 0 => 0 | 4 => 4 | n => n, fun | n => n⟩
theorem Tryz.layIdx : Go.Proofs.SlLaysH.n6 Tryz.prog Tryz.layIdx_ren := {
    mixed := by kernel_rfl,
    f6 := ⟨Tryz.f22.name, by decide, Tryz.func22.trans (congrArg some (by kernel_rfl))⟩,
    t0 := Tryz.underlying0,
    a0 := Tryz.isAgg0,
    z0 := Tryz.sizeOf0,
    v0 := Tryz.zeroValue0,
    t3 := Tryz.underlying3,
    a3 := Tryz.isAgg3,
    z3 := Tryz.sizeOf3,
    v3 := Tryz.zeroValue3,
    t4 := Tryz.underlying4,
    a4 := Tryz.isAgg4,
    z4 := Tryz.sizeOf4,
    v4 := Tryz.zeroValue4,
    t22 := Tryz.underlying22,
    a22 := Tryz.isAgg22,
    z22 := Tryz.sizeOf22,
    v22 := Tryz.zeroValue22,
    a23 := Tryz.isAgg23,
    z23 := Tryz.sizeOf23,
    t25 := Tryz.underlying34,
    a25 := Tryz.isAgg34,
    z25 := Tryz.sizeOf34,
    v25 := Tryz.zeroValue34 }
def Tryz.layClone_ren : Go.Shelf.Ren := ⟨fun | 41 => 10 | n => n, fun | 22 => 22 | 23 => 23 | 4 => 4 | n => n, fun | n => n⟩
theorem Tryz.layClone : Go.Proofs.SlLaysE0.n41 Tryz.prog Tryz.layClone_ren := {
    mixed := by kernel_rfl,
    f41 := ⟨Tryz.f10.name, by decide, Tryz.func10.trans (congrArg some (by kernel_rfl))⟩,
    t4 := Tryz.underlying4,
    a4 := Tryz.isAgg4,
    z4 := Tryz.sizeOf4,
    v4 := Tryz.zeroValue4,
    t22 := Tryz.underlying22,
    a22 := Tryz.isAgg22,
    z22 := Tryz.sizeOf22,
    v22 := Tryz.zeroValue22 }
def Tryz.layCompact_ren : Go.Shelf.Ren := ⟨fun | 43 => 13 | n => n, fun | 22 => 22 | 23 => 23 | 3 => 3 | 4 => 4 | 0 => 0 | n => n, fun | n => n⟩
theorem Tryz.layCompact : Go.Proofs.SlLaysE.n43 Tryz.prog Tryz.layCompact_ren := {
    mixed := by kernel_rfl,
    f43 := ⟨Tryz.f13.name, by decide, Tryz.func13.trans (congrArg some (by kernel_rfl))⟩,
    t0 := Tryz.underlying0,
    a0 := Tryz.isAgg0,
    z0 := Tryz.sizeOf0,
    v0 := Tryz.zeroValue0,
    t3 := Tryz.underlying3,
    a3 := Tryz.isAgg3,
    z3 := Tryz.sizeOf3,
    v3 := Tryz.zeroValue3,
    t4 := Tryz.underlying4,
    a4 := Tryz.isAgg4,
    z4 := Tryz.sizeOf4,
    v4 := Tryz.zeroValue4,
    t22 := Tryz.underlying22,
    a22 := Tryz.isAgg22,
    z22 := Tryz.sizeOf22,
    v22 := Tryz.zeroValue22,
    a23 := Tryz.isAgg23,
    z23 := Tryz.sizeOf23 }
end Go.Proofs

namespace Go.Proofs.Bp
open Go.RowKit Go.Sort Go.Lib Go.Proofs.Ux
theorem info23 : (Tryz.prog.info? 23).map (fun i => (i.zero, i.size, i.bytes)) = some (some (.int .u64 0), 1, 8) := by kernel_rfl
/-- a slice of instants that the call owns -/
def Own (w : World) (base : Nat) (v : Value) (zs : List Int) : Prop := w.ownsRow base 23 1 v zs.length (zs.map encU)
def Gave (base : Nat) (zs : List Int) (W : World) (e : Ending) (W' : World) : Prop := ∃ v', e = .returned v' ∧ Own W' base v' zs ∧ Below base W W'
theorem own_mono {w : World} {b b' : Nat} {v : Value} {zs : List Int} (h : Own w b v zs) (hb : b' ≤ b) : Own w b' v zs :=
  ⟨h.1, h.2.imp id (fun ⟨g, cap, cur, e, hg, r⟩ => ⟨g, cap, cur, e, Nat.le_trans hb hg, r⟩)⟩

theorem clone_any (base : Nat) (v : Value) (zs : List Int) (w : World) (h : Own w base v zs) (hl : zs.length ≤ 1000) : Calls Tryz.prog 10 #[v] w (Gave w.heap.size zs w) := by
  obtain ⟨i0, hi, hz0, hz1, hz2⟩ := info_parts info23
  rcases h.2 with ⟨rfl, h0⟩ | ⟨g, cap, cur, rfl, hb, hg, h1, h2, h3, h4⟩
  · have c := AnyE.slices_Clone_nil Tryz.layClone 0 0 w
    change Calls Tryz.prog 10 _ _ _ at c
    refine c.mono ?_
    rintro e w' ⟨rfl, rfl⟩
    obtain rfl : zs = [] := List.eq_nil_of_length_eq_zero h0
    exact ⟨_, rfl, World.ownsRow_nil _ _ _ _, Below.refl _ _⟩
  · have c := AnyE.slices_Clone Tryz.layClone i0 (.int .u64 0) 1 8 (by exact hi) hz0 hz1 hz2 rfl (by decide) Tryz.sizeOf23 g 0 zs.length cap (zs.map encU) w (by simp) (by unfold maxLen; omega) (by omega)
      (fun j u hu => by
        have := h.cells (g := g) rfl j u hu
        by_cases hj : j = 0
        · subst hj; simpa [Addr.add] using this
        · simpa [Addr.add, hj] using this)
      (fun u hu => by obtain ⟨x, _, rfl⟩ := List.mem_map.1 hu; rfl)
    change Calls Tryz.prog 10 _ _ _ at c
    refine c.mono ?_
    rintro e w' ⟨v', rfl, ho, _, hbw⟩
    exact ⟨v', rfl, ho, hbw⟩

theorem outB_inside (F T : Int) (zs : List Int) : (zs.filter fun x => !outB F T x) = inside F T zs := rfl
set_option maxHeartbeats 400000 in
theorem del_nil (fv : Value) (w : World) : Calls Tryz.prog 9 #[.slice none 0 0, fv] w fun e w' => e = .returned (.slice none 0 0) ∧ w' = w := by
  have c : Calls Tryz.prog 22 #[.slice none 0 0, fv] w fun e w' => e = .returned (.int .i64 (-1)) ∧ w' = w := AnyE.slices_IndexFunc_empty Tryz.layIdx none 0 fv w
  go_enter Tryz.func9, Tryz.ntmps9
  go_wp2_with (go_at_call 22; refine c.mono ?_; rintro e w' ⟨rfl, rfl⟩)
  go_ret
  exact ⟨rfl, rfl⟩
theorem del_any (F T : Int) (B base : Nat) (v : Value) (zs : List Int) (w : World) (h : Own w base v zs) (hB : B < base) (hbs : base ≤ w.heap.size)
    (c0 : w.cell? ⟨B, 0, none⟩ = some (.int .u64 F)) (c1 : w.cell? ⟨B, 1, none⟩ = some (.int .u64 T)) (hl : zs.length ≤ 1000) :
    Calls Tryz.prog 9 #[v, .func (.func 11) #[] #[.pointer (some ⟨B, 0, none⟩)]] w (Gave base (inside F T zs) w) := by
  rcases h.2 with ⟨rfl, h0⟩ | ⟨g, cap, cur, rfl, hb, hg, h1, h2, h3, h4⟩
  · refine (del_nil _ w).mono ?_
    rintro e w' ⟨rfl, rfl⟩
    obtain rfl : zs = [] := List.eq_nil_of_length_eq_zero h0
    exact ⟨_, rfl, World.ownsRow_nil _ _ _ _, Below.refl _ _⟩
  · have hH : Holds encU w g 0 zs.toArray := holds_block encU hg (by simpa using h4)
    have hgs : g < w.heap.size := (Array.getElem?_eq_some_iff.1 hg).1
    have hgive : ∀ (W : World) (x : Int), W.cell? ⟨B, 0, none⟩ = some (.int .u64 F) → W.cell? ⟨B, 1, none⟩ = some (.int .u64 T) →
        FnGives Tryz.prog 11 #[.pointer (some ⟨B, 0, none⟩)] #[encU x] (.bool (outB F T x)) W := fun W x a b => by
      show Calls Tryz.prog 11 #[.int .u64 x, .pointer (some ⟨B, 0, none⟩)] W _
      exact (closure F T x B W a b).mono fun e w' ⟨he, hw⟩ => ⟨he, 0, by rw [hw]; rfl⟩
    have eg : ∀ args w, (callFunc 11 args).run Tryz.prog w = .ok (.enter 11 args) w := enters_of Tryz.func11 (by kernel_rfl) rfl
    have c := AnyE.slices_DeleteFunc Tryz.layDel encU (fun _ => rfl) (outB F T) 11 #[.pointer (some ⟨B, 0, none⟩)] eg 0 Tryz.zeroValue23 g 0 cap zs.toArray w
      (fun W x hbw => hgive W x ((hbw.cell (p := ⟨B, 0, none⟩) (by show B < _; omega)).trans c0) ((hbw.cell (p := ⟨B, 1, none⟩) (by show B < _; omega)).trans c1))
      (fun n os dk x _ => by
        have hbp := below_put (w := w) (g := g) (n := n) (os := os) encU (B := base) dk hb hbs
        exact hgive _ x ((hbp.cell (p := ⟨B, 0, none⟩) hB).trans c0) ((hbp.cell (p := ⟨B, 1, none⟩) hB).trans c1))
      hH (by simp; omega) (by simpa using h1)
    change Calls Tryz.prog 9 _ _ _ at c
    rw [show (zs.toArray).size = zs.length by simp] at c
    refine c.mono ?_
    rintro e w' ⟨rfl, q, rfl⟩
    have hlen : (inside F T zs).length ≤ zs.length := List.length_filter_le _ _
    have ho := own_put (w := w) (g := g) (n := q) (cap := cap) (os := #[]) encU (base := base) ((inside F T zs ++ List.replicate (zs.length - (inside F T zs).length) 0).toArray) (inside F T zs).length (by simp) hb hg (by omega) h2 h3
    have hbp := below_put (w := w) (g := g) (n := q) (os := #[]) encU (B := base) ((inside F T zs ++ List.replicate (zs.length - (inside F T zs).length) 0).toArray) hb hbs
    rw [grow_empty] at ho hbp
    refine ⟨_, rfl, ?_, ?_⟩
    · have e : ((inside F T zs ++ List.replicate (zs.length - (inside F T zs).length) 0).toArray.toList.take (inside F T zs).length) = inside F T zs := by simp
      rw [e] at ho
      exact ho
    · exact hbp
theorem sort_any (base : Nat) (v : Value) (zs : List Int) (w : World) (h : Own w base v zs) (h0 : 0 < zs.length) (hbs : base ≤ w.heap.size) (hl : zs.length ≤ 1002) :
    Calls Tryz.prog 12 #[v] w fun e w' => e = .returned (.tuple #[]) ∧ Own w' base v (zs.mergeSort fun x y => decide (x ≤ y)) ∧ Below base w w' := by
  rcases h.2 with ⟨rfl, h0'⟩ | ⟨g, cap, cur, rfl, hb, hg, h1, h2, h3, h4⟩
  · omega
  · have hgs : g < w.heap.size := (Array.getElem?_eq_some_iff.1 hg).1
    have c := calls_of_every_depth fun D => Sx.slices_Sort_int_in D g 0 cap zs w (holds_block (Value.int .u64) hg (by simpa using h4)) hgs (by omega)
    refine c.mono ?_
    rintro e w' ⟨rfl, n, os, rfl⟩
    refine ⟨rfl, ?_, below_put _ _ hb hbs⟩
    have ho := own_put (w := w) (g := g) (n := n) (cap := cap) (os := os) (Value.int .u64) (base := base) ((zs.mergeSort fun x y => decide (x ≤ y)).toArray) zs.length (by simp) hb hg h1 h2 h3
    have e : ((zs.mergeSort fun x y => decide (x ≤ y)).toArray.toList.take zs.length) = zs.mergeSort fun x y => decide (x ≤ y) := by
      rw [List.take_of_length_le (by simp)]
    rw [e] at ho
    unfold Own
    rw [List.length_mergeSort]
    exact ho
theorem compact_any (base : Nat) (v : Value) (zs : List Int) (w : World) (h : Own w base v zs) (h0 : 0 < zs.length) (hbs : base ≤ w.heap.size) (hl : zs.length ≤ 1002) :
    Calls Tryz.prog 13 #[v] w (Gave base (compactUpTo zs.toArray zs.length) w) := by
  rcases h.2 with ⟨rfl, h0'⟩ | ⟨g, cap, cur, rfl, hb, hg, h1, h2, h3, h4⟩
  · omega
  · have hH : Holds encU w g 0 zs.toArray := holds_block encU hg (by simpa using h4)
    have c := AnyE.slices_Compact Tryz.layCompact encU (fun _ => rfl) (EqlAt.intD _ _ .u64) (NeqAt.intD _ _ .u64) 0 Tryz.zeroValue23 g 0 cap zs.toArray w hH (by simp; omega) (by simpa using h1)
    change Calls Tryz.prog 13 _ _ _ at c
    rw [show (zs.toArray).size = zs.length by simp] at c
    refine c.mono ?_
    rintro e w' ⟨rfl, q, rfl⟩
    generalize hr : compactUpTo zs.toArray zs.length = r
    have hlen : r.length ≤ zs.length := by
      rw [← hr]
      unfold compactUpTo
      have := List.length_filter_le (keeps zs.toArray) (List.range zs.length)
      simpa using this
    have ho := own_put (w := w) (g := g) (n := q) (cap := cap) (os := #[]) encU (base := base) ((r ++ List.replicate (zs.length - r.length) 0).toArray) r.length (by simp) hb hg (by omega) h2 h3
    have hbp := below_put (w := w) (g := g) (n := q) (os := #[]) encU (B := base) ((r ++ List.replicate (zs.length - r.length) 0).toArray) hb hbs
    rw [grow_empty] at ho hbp
    have e : ((r ++ List.replicate (zs.length - r.length) 0).toArray.toList.take r.length) = r := by simp
    rw [e] at ho
    exact ⟨_, rfl, ho, hbp⟩
end Go.Proofs.Bp

namespace Go.Proofs.Bp
open Go.RowKit
theorem own_below {w w' : World} {b B : Nat} {v : Value} {zs : List Int} (h : Own w b v zs) (hb : Below B w w') (hB : w.heap.size ≤ B) : Own w' b v zs := by
  refine ⟨h.1, h.2.imp id ?_⟩
  rintro ⟨g, cap, cur, e, hg, hh, r⟩
  have hgs : g < w.heap.size := (Array.getElem?_eq_some_iff.1 hh).1
  exact ⟨g, cap, cur, e, hg, (hb.block g (by omega)).trans hh, r⟩
theorem refL_comp {zs : List Int} {F T : Int} (h : mayB F T = true) : refL zs F T = pairs (comp F T zs) := by
  have hFT : F < T ∧ T ≤ 1099511627776 := by simpa [mayB] using h
  show refL zs F T = _
  simp only [refL, h]
  exact law F T zs hFT.1
theorem two_comp {zs : List Int} {F T : Int} : 1 ≤ (comp F T zs).length := by
  have := ((comp_spec F T zs).2 F).2 (.inr (.inl rfl))
  cases h : comp F T zs with
  | nil => rw [h] at this; simp at this
  | cons a l => simp
theorem own_form {w : World} {base : Nat} {v : Value} {zs : List Int} (h : Own w base v zs) (h0 : 1 ≤ zs.length) :
    ∃ g cap, v = .slice (some ⟨g, 0, none⟩) zs.length cap ∧ base ≤ g ∧ g < w.heap.size ∧ ∀ j, j < zs.length → w.cell? ⟨g, j, none⟩ = some (.int .u64 (zs[j]!)) := by
  rcases h.2 with ⟨rfl, h0'⟩ | ⟨g, cap, cur, rfl, hb, hg, h1, h2, h3, h4⟩
  · omega
  · refine ⟨g, cap, rfl, hb, (Array.getElem?_eq_some_iff.1 hg).1, fun j hj => ?_⟩
    have := h.cells (g := g) rfl j (Ux.encU zs[j]!) (by simp [List.getElem?_map, hj])
    by_cases hj0 : j = 0
    · subst hj0; simpa [Addr.add] using this
    · simpa [Addr.add, hj0] using this
set_option maxHeartbeats 4000000 in
set_option maxRecDepth 100000 in
theorem pieces (base : Nat) (v : Value) (zs : List Int) (F T : Int) (w : World) (hv : Own w base v zs) (hn : zs.length ≤ 60) (hF : 0 ≤ F) :
    Calls Tryz.prog 4 #[v, .agg #[.int .u64 F, .int .u64 T]] w (RefEnd zs F T w) := by
  obtain ⟨i0, hi, hz0, hz1, hz2⟩ := info_parts info25
  obtain ⟨j0, hj, hy0, hy1, hy2⟩ := info_parts info23
  by_cases hm : mayB F T = true
  · have hFT : F < T ∧ T ≤ 1099511627776 := by simpa [mayB] using hm
    have c8 : ∀ W : World, Calls Tryz.prog 8 #[.agg #[.int .u64 F, .int .u64 T]] W fun e w' => e = .returned (.bool true) ∧ Below W.heap.size W w' := fun W => by
      have := may8 F T W
      rwa [hm] at this
    have HC : Hid (∀ W : World, Calls Tryz.prog 8 #[.agg #[.int .u64 F, .int .u64 T]] W fun e w' => e = .returned (.bool true) ∧ Below W.heap.size W w') := c8
    have HV : Hid (Own w base v zs) := hv
    have HM : Hid (mayB F T = true) := hm
    clear hv hm c8
    go_enter Tryz.func4, Tryz.ntmps4
    go_wp2_with (go_at_call 8; refine (HC.out _).mono ?_; rintro e w1 ⟨rfl, hb1⟩; refine Hid.out ?_)
    refine Lib.hid ?_
    have B1 : Below w.heap.size w w1 := ((Below.refl _ _).alloc (Nat.le_refl _) _).trans (hb1.mono (by simp))
    have hc0 : w1.cell? ⟨w.heap.size, 0, none⟩ = some (.int .u64 F) := (hb1.cell (by simp)).trans (by simp)
    have hc1 : w1.cell? ⟨w.heap.size, 1, none⟩ = some (.int .u64 T) := (hb1.cell (by simp)).trans (by simp)
    have hs1 : w.heap.size < w1.heap.size := by have := hb1.size; simp at this; omega
    have HB1 : Hid (Below w.heap.size w w1) := B1
    have HV1 : Hid (Own w1 base v zs) := own_below HV.out B1 (Nat.le_refl _)
    clear B1 hb1
    go_wp2_with (go_at_call 10; refine (clone_any base v zs w1 HV1.out (by omega)).mono ?_; rintro e w2 ⟨v2, rfl, ho2, hb2⟩; refine Hid.out ?_)
    refine Lib.hid ?_
    have d0 : w2.cell? ⟨w.heap.size, 0, none⟩ = some (.int .u64 F) := (hb2.cell (p := ⟨w.heap.size, 0, none⟩) hs1).trans hc0
    have d1 : w2.cell? ⟨w.heap.size, 1, none⟩ = some (.int .u64 T) := (hb2.cell (p := ⟨w.heap.size, 1, none⟩) hs1).trans hc1
    have HB2 : Hid (Below w1.heap.size w1 w2) := hb2
    have HO2 : Hid (Own w2 w1.heap.size v2 zs) := ho2
    have D0 : Hid (w2.cell? ⟨w.heap.size, 0, none⟩ = some (.int .u64 F)) := d0
    have D1 : Hid (w2.cell? ⟨w.heap.size, 1, none⟩ = some (.int .u64 T)) := d1
    clear hb2 ho2 hc0 hc1 d0 d1
    go_wp2_with (go_at_call 9; refine (del_any F T w.heap.size w1.heap.size v2 zs w2 HO2.out hs1 HB2.out.size D0.out D1.out (by omega)).mono ?_; rintro e w3 ⟨v3, rfl, ho3, hb3⟩; refine Hid.out ?_)
    refine Lib.hid ?_
    have d0 : w3.cell? ⟨w.heap.size, 0, none⟩ = some (.int .u64 F) := (hb3.cell (p := ⟨w.heap.size, 0, none⟩) hs1).trans D0.out
    have d1 : w3.cell? ⟨w.heap.size, 1, none⟩ = some (.int .u64 T) := (hb3.cell (p := ⟨w.heap.size, 1, none⟩) hs1).trans D1.out
    have HB3 : Hid (Below w1.heap.size w1 w3) := HB2.out.trans hb3
    have HO3 : Hid (Own w3 w1.heap.size v3 (inside F T zs)) := ho3
    have hil : (inside F T zs).length ≤ 60 := Nat.le_trans (List.length_filter_le _ _) hn
    clear hb3 ho3
    go_wp2_with (at_builtin; go_loud (refine wpList_append_own _ rfl _ _ 22 rfl w1.heap.size 23 j0 (.int .u64 0) 1 8 Tryz.underlying22 hj hy0 hy1 hy2 rfl (by decide) _ _ _ rfl (World.ownsRow.alloc HO3.out _) ⟨w3.heap.size, 0, none⟩ 2 2 [.int .u64 F, .int .u64 T] rfl rfl (cell_two_new _ _ _ _) (fun x hx => by simp at hx; rcases hx with rfl | rfl <;> rfl) (by unfold maxLen; omega) (by omega) (by have := HB3.out.size; simp; omega) ?_); intro v4 w4 hown4 hgrow4 _; refine Hid.out ?_)
    refine Lib.hid ?_
    have ho4 : Own w4 w1.heap.size v4 (inside F T zs ++ [F, T]) := by
      have h4 := hown4
      unfold Own
      rw [List.map_append, List.length_append]
      exact h4
    have HO4 : Hid (Own w4 w1.heap.size v4 (inside F T zs ++ [F, T])) := ho4
    have HB4 : Hid (Below w1.heap.size w1 w4) := (HB3.out.alloc HB3.out.size _).grown hgrow4 (by have := HB3.out.size; simp; omega) (fun k hk => (World.ownsRow.lt HO3.out k hk).1)
    have hl4 : (inside F T zs ++ [F, T]).length ≤ 62 := by simp; omega
    clear hown4 hgrow4 ho4 d0 d1
    go_wp2_with (go_at_call 12; refine (sort_any w1.heap.size v4 _ w4 HO4.out (by simp) HB4.out.size (by omega)).mono ?_; rintro e w5 ⟨rfl, ho5, hb5⟩; refine Hid.out ?_)
    refine Lib.hid ?_
    have HO5 : Hid (Own w5 w1.heap.size v4 (cuts F T zs)) := ho5
    have HB5 : Hid (Below w1.heap.size w1 w5) := HB4.out.trans hb5
    have hl5 : (cuts F T zs).length ≤ 62 := by have := length_cuts F T zs; omega
    have hp5 : 0 < (cuts F T zs).length := by
      have : F ∈ cuts F T zs := (mem_cuts F T zs F).2 (.inr (.inl rfl))
      exact List.length_pos_of_mem this
    clear ho5 hb5
    go_wp2_with (go_at_call 13; refine (compact_any w1.heap.size v4 _ w5 HO5.out hp5 HB5.out.size (by omega)).mono ?_; rintro e w6 ⟨v6, rfl, ho6, hb6⟩; refine Hid.out ?_)
    refine Lib.hid ?_
    have ho6' : Own w6 w1.heap.size v6 (comp F T zs) := ho6
    have hl6 := length_comp F T zs
    have hp6 : 1 ≤ (comp F T zs).length := two_comp
    obtain ⟨g, cap, rfl, hgb, hgs, hcell⟩ := own_form ho6' hp6
    obtain ⟨L, hL⟩ : ∃ L, L = comp F T zs := ⟨_, rfl⟩
    rw [← hL] at hl6 hp6 hcell ⊢
    obtain ⟨m, hmL⟩ : ∃ m, m = L.length := ⟨_, rfl⟩
    rw [← hmL] at hl6 hp6 hcell ⊢
    have HLL : Hid (L = comp F T zs) := hL
    have HML : Hid (m = L.length) := hmL
    have HCL : Hid (∀ j, j < m → w6.cell? ⟨g, j, none⟩ = some (.int .u64 (L[j]!))) := hcell
    have HB6 : Hid (Below w1.heap.size w1 w6) := HB5.out.trans hb6
    have hz6 : w.heap.size < w6.heap.size := by have := HB6.out.size; omega
    clear ho6 hb6 ho6' hL hmL hcell
    go_wp2_with fail
    go_loopw [6, 29] (fun s6 s29 wr => ∃ k : Nat, s29 = .int .i64 k ∧ k + 1 ≤ m ∧ wr.ownsRow w6.heap.size 25 2 s6 k (flat ((pairs L).take k)) ∧ Below w6.heap.size w6 wr) (fun _ s29 _ => m - (intOf s29).toNat)
    case atStart => exact ⟨0, rfl, hp6, by simpa [flat] using World.ownsRow_nil _ _ _ _, Below.refl _ _⟩
    case round =>
      obtain ⟨k, rfl, hk, hown, hbw⟩ := hrel
      have HO : Hid (wr.ownsRow w6.heap.size 25 2 u6 k (flat ((pairs L).take k))) := hown
      have HBW : Hid (Below w6.heap.size w6 wr) := hbw
      clear hown hbw
      by_cases hlt : k + 1 < m
      · obtain ⟨x, hx⟩ : ∃ x, x = L[k]! := ⟨_, rfl⟩
        obtain ⟨y, hy⟩ : ∃ y, y = L[k + 1]! := ⟨_, rfl⟩
        have cx : wr.cell? ⟨g, k, none⟩ = some (.int .u64 x) := by rw [hx]; exact (HBW.out.cell (p := ⟨g, k, none⟩) hgs).trans (HCL.out k (by omega))
        have cy : wr.cell? ⟨g, k + 1, none⟩ = some (.int .u64 y) := by rw [hy]; exact (HBW.out.cell (p := ⟨g, k + 1, none⟩) hgs).trans (HCL.out (k + 1) hlt)
        have HT : Hid ((pairs L).take (k + 1) = (pairs L).take k ++ [(x, y)]) := by
          show _ = _
          rw [hx, hy]
          exact pairs_take_succ L k (by rw [← HML.out]; exact hlt)
        clear hx hy
        have hne : u6.ownBlock ≠ some g := fun e => by have := (HO.out.lt g e).1; omega
        have hgr : g < wr.heap.size := by have := HBW.out.size; omega
        have hk0 : (0 : Int) ≤ (k : Int) := Int.natCast_nonneg _
        have hk1 : (k : Int) < (m : Int) := by omega
        have hk2 : (k : Int) + 1 < (m : Int) := by omega
        have hkz : (k : Int) < (m : Int) - 1 := by omega
        have hbs : w6.heap.size ≤ wr.heap.size := HBW.out.size
        have q1 : k + 1 ≤ maxLen := by unfold maxLen; omega
        have q2 : (k + 1) * 16 ≤ 140737488355328 := by omega
        go_wp2_with fail
        have z0 : (0 : Int) ≤ (k : Int) + 1 := by omega
        have z1 : ((k : Int) + 1).toNat = k + 1 := by omega
        have z2 : IntKind.i64.wrap ((k : Int) + 1) = (k : Int) + 1 := IntWalk.i64_in _ (by omega)
        go_region_held3 (fun w' => w'.cell? ⟨g, k, none⟩ = some (.int .u64 x) ∧ w'.cell? ⟨g, k + 1, none⟩ = some (.int .u64 y))
          (first
            | go_keep
            | (go_split_ands
               refine ⟨?_, ?_⟩
               · (rw [hgrow.cell_far _ (by simp; exact Nat.lt_succ_of_lt hgr) (Ne.symm hne)]; assumption)
               · (rw [hgrow.cell_far _ (by simp; exact Nat.lt_succ_of_lt hgr) (Ne.symm hne)]; assumption)))
          ((refine step_append_lies _ (by rfl) _ _ _ (by rfl) w6.heap.size 25 i0 _ 2 16 Tryz.underlying26 hi hz0 hz1 hz2 rfl (Nat.succ_pos 1) u6 k _ (by rfl) ((HO.out.alloc _).drew)
              ⟨wr.heap.size, 0, none⟩ 1 1 [.int .u64 x, .int .u64 y] (by rfl) (by rfl) (World.news_of_block (cs := #[.int .u64 x, .int .u64 y]) (t := 25) (fr := (0, 0)) (heap_alloc_new wr _)) (by simp [Value.oneCell'])
              (Nat.succ_pos 0) q1 q2 (by simp; exact Nat.le_succ_of_le hbs) (wr.heap.size + 1) (by simp) ?_; intro gg cap1 wz hown1 hgrow hat hltz))
        clear z0 z1 z2
        go_wp2
        go_roundw
        case rel =>
          refine ⟨k + 1, by go_num, by omega, ?_, ?_⟩
          · rw [HT.out, flat_append, flat_one]
            exact hown1
          · exact ((HBW.out.alloc hbs _).drew).grown hgrow (by simp; omega) (fun j hj => (HO.out.lt j hj).1)
        case measure => simp [intOf]; omega
      · go_wp2
        go_ret
        have hkm : k + 1 = m := by omega
        have hpl := pairs_length L
        have hkl : k = (pairs L).length := by have := HML.out; omega
        have hacc : (pairs L).take k = refL zs F T := by
          rw [List.take_of_length_le (by omega), refL_comp HM.out, HLL.out]
        have h := HO.out
        have hkr : k = (refL zs F T).length := by rw [refL_comp HM.out, ← HLL.out]; exact hkl
        rw [hacc, hkr] at h
        refine ⟨u6, rfl, ?_, HB1.out.trans ((HB6.out.mono (by omega)).trans (HBW.out.mono (by omega)))⟩
        exact ⟨h.1, h.2.imp id (fun ⟨g, cap, cur, e, hb, r⟩ => ⟨g, cap, cur, e, by omega, r⟩)⟩
  · have hm' : mayB F T = false := by simpa using hm
    have c8 : ∀ W : World, Calls Tryz.prog 8 #[.agg #[.int .u64 F, .int .u64 T]] W fun e w' => e = .returned (.bool false) ∧ Below W.heap.size W w' := fun W => by
      have := may8 F T W
      rwa [hm'] at this
    have HC : Hid (∀ W : World, Calls Tryz.prog 8 #[.agg #[.int .u64 F, .int .u64 T]] W fun e w' => e = .returned (.bool false) ∧ Below W.heap.size W w') := c8
    have HM : Hid (mayB F T = false) := hm'
    clear hv hm hm' c8
    go_enter Tryz.func4, Tryz.ntmps4
    go_wp2_with (go_at_call 8; refine (HC.out _).mono ?_; rintro e w1 ⟨rfl, hb1⟩; refine Hid.out ?_)
    refine Lib.hid ?_
    have B1 : Below w.heap.size w w1 := ((Below.refl _ _).alloc (Nat.le_refl _) _).trans (hb1.mono (by simp))
    clear hb1
    go_wp2
    go_ret
    exact ref_out HM.out B1
end Go.Proofs.Bp
