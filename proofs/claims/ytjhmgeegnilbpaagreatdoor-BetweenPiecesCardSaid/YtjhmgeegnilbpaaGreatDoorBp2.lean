/- Proves, for the given program, what the tests of a period, the closure of Pieces, Like and the reference's Pieces compute, for every input whose period begins at 0 or later. -/
import Derived.Test.YtjhmgeegnilbpaaGreatDoorBp1
import Derived.Test.YtjhmgeegnilbpaaGreatDoorSx1
import Derived.Sort.Grow
import Derived.WalkKit
import Derived.WalkSpells
import Derived.RegionTactic
import Derived.Deep.QuietTactic
import Derived.BigQuiet
import Derived.Lib.Hide
import Derived.Laws.StructEq
import Derived.LoopTactic
import Derived.WalkSmall
import Derived.Laws.AppendOwn
set_option linter.all false
namespace Go.Proofs.Bp
open Go.Sort Go.RowKit Go.Proofs.Ux
section
variable {w : World} {g n cap : Nat} {os : Array Obj} {cur : Array Value} {e : TypeId} {fr : Nat × Nat} (enc : Int → Value)

theorem heap_put (d : Array Int) (hb : w.heap[g]? = some (.cells cur e fr)) : (grow (putRow enc (Sort.ahead w n) g 0 d) os).heap[g]? = some (.cells (putCells enc 0 d cur) e fr) := by
  have hg : g < w.heap.size := (Array.getElem?_eq_some_iff.1 hb).1
  rw [heap_grow_old _ _ (by rw [size_putRow]; exact hg)]
  simp [putRow, mapBlock, Sort.ahead, Array.getElem?_modify, hb, onCells]
theorem below_put {B : Nat} (d : Array Int) (hg : B ≤ g) (hB : B ≤ w.heap.size) : RowKit.Below B w (grow (putRow enc (Sort.ahead w n) g 0 d) os) := by
  refine ⟨rfl, rfl, rfl, by rw [size_grow, size_putRow]; exact Nat.le_add_right _ _, fun k hk => ?_⟩
  rw [heap_grow_old _ _ (by rw [size_putRow]; exact Nat.lt_of_lt_of_le hk hB)]
  have hne : g ≠ k := by omega
  simp [putRow, mapBlock, Sort.ahead, Array.getElem?_modify, hne]
theorem take_put (cur : Array Value) (d : Array Int) (k : Nat) (hk : k ≤ d.size) (h : k ≤ cur.size) : (putCells enc 0 d cur).toList.take k = (d.toList.take k).map enc := by
  apply List.ext_getElem?
  intro j
  by_cases hj : j < k
  · have h1 : j < cur.size := by omega
    have h2 : j < d.size := by omega
    rw [List.getElem?_take_of_lt hj, Array.getElem?_toList, List.getElem?_map, List.getElem?_take_of_lt hj]
    simp [putCells, h1, h2]
  · rw [List.getElem?_take_eq_none (by omega), List.getElem?_eq_none (by simp; omega)]
theorem own_put {base : Nat} (d : Array Int) (k : Nat) (hk : k ≤ d.size) (hbase : base ≤ g) (hb : w.heap[g]? = some (.cells cur e (0, 0))) (h1 : k ≤ cap) (h2 : cap ≤ maxLen) (h3 : cur.size = cap * 1) :
    (grow (putRow enc (Sort.ahead w n) g 0 d) os).ownsRow base e 1 (.slice (some ⟨g, 0, none⟩) k cap) k ((d.toList.take k).map enc) :=
  ⟨by simp; omega, .inr ⟨g, cap, _, rfl, hbase, heap_put enc d hb, h1, h2, by simp [putCells, h3], by rw [Nat.mul_one]; exact take_put enc cur d k hk (by omega)⟩⟩
theorem holds_block {ss : List Int} (hb : w.heap[g]? = some (.cells cur e (0, 0))) (ht : cur.toList.take ss.length = ss.map enc) : Holds enc w g 0 ss.toArray := by
  intro j hj
  have hj' : j < ss.length := by simpa using hj
  refine ⟨?_, by simp [World.frozen?, hb]⟩
  have h1 : (cur.toList.take ss.length)[j]? = (ss.map enc)[j]? := by rw [ht]
  rw [List.getElem?_take_of_lt hj'] at h1
  simp only [World.cell?, hb, Nat.zero_add]
  simp only [Option.isSome_none, Bool.false_eq_true, if_false]
  rw [← Array.getElem?_toList, h1]
  simp [hj']
end
/-- pieces as cells -/
def flat (l : List (Int × Int)) : List Value := l.flatMap fun p => [.int .u64 p.1, .int .u64 p.2]
theorem flat_append (a b : List (Int × Int)) : flat (a ++ b) = flat a ++ flat b := by simp [flat]
theorem flat_length : ∀ l : List (Int × Int), (flat l).length = l.length * 2
  | [] => rfl
  | p :: l => by
    have := flat_length l
    simp only [flat, List.flatMap_cons, List.length_append, List.length_cons, List.length_nil] at this ⊢
    omega
theorem flat_one (a b : Int) : flat [(a, b)] = [.int .u64 a, .int .u64 b] := rfl
theorem flat_get0 : ∀ (l : List (Int × Int)) (i : Nat) (h : i < l.length), (flat l)[i * 2]? = some (.int .u64 l[i].1) ∧ (flat l)[i * 2 + 1]? = some (.int .u64 l[i].2)
  | p :: l, 0, _ => by simp [flat]
  | p :: l, i + 1, h => by
    have := flat_get0 l i (by simpa using h)
    have e1 : (i + 1) * 2 = i * 2 + 2 := by omega
    simp only [flat, List.flatMap_cons, e1] at this ⊢
    simpa using this
end Go.Proofs.Bp

namespace Go.Proofs.Bp
open Go.RowKit
def forever : Int := 1099511627776
def mayB (F T : Int) : Bool := decide (F < T ∧ T ≤ 1099511627776)
theorem mayB_true {F T : Int} (h : F < T) (k : T ≤ 1099511627776) : mayB F T = true := by simp [mayB, h, k]
theorem mayB_false {F T : Int} (h : ¬ (F < T ∧ T ≤ 1099511627776)) : mayB F T = false := by simpa [mayB] using h

set_option maxHeartbeats 400000 in
theorem may8 (F T : Int) (w : World) : Calls Tryz.prog 8 #[.agg #[.int .u64 F, .int .u64 T]] w fun e w' => e = .returned (.bool (mayB F T)) ∧ Below w.heap.size w w' := by
  by_cases h : F < T
  · by_cases k : T ≤ 1099511627776
    · rw [mayB_true h k]
      go_enter Tryz.func8, Tryz.ntmps8
      go_wp2
      go_ret
      exact ⟨rfl, (Below.refl _ _).alloc (Nat.le_refl _) _⟩
    · rw [mayB_false (fun x => k x.2)]
      go_enter Tryz.func8, Tryz.ntmps8
      go_wp2
      go_ret
      exact ⟨rfl, (Below.refl _ _).alloc (Nat.le_refl _) _⟩
  · rw [mayB_false (fun x => h x.1)]
    go_enter Tryz.func8, Tryz.ntmps8
    go_wp2
    go_ret
    exact ⟨rfl, (Below.refl _ _).alloc (Nat.le_refl _) _⟩
set_option maxHeartbeats 400000 in
theorem may14 (F T : Int) (w : World) : Calls Tryz.prog 14 #[.agg #[.int .u64 F, .int .u64 T]] w fun e w' => e = .returned (.bool (mayB F T)) ∧ Below w.heap.size w w' := by
  by_cases h : F < T
  · by_cases k : T ≤ 1099511627776
    · rw [mayB_true h k]
      go_enter Tryz.func14, Tryz.ntmps14
      go_wp2
      go_ret
      exact ⟨rfl, (Below.refl _ _).alloc (Nat.le_refl _) _⟩
    · rw [mayB_false (fun x => k x.2)]
      go_enter Tryz.func14, Tryz.ntmps14
      go_wp2
      go_ret
      exact ⟨rfl, (Below.refl _ _).alloc (Nat.le_refl _) _⟩
  · rw [mayB_false (fun x => h x.1)]
    go_enter Tryz.func14, Tryz.ntmps14
    go_wp2
    go_ret
    exact ⟨rfl, (Below.refl _ _).alloc (Nat.le_refl _) _⟩

/-- the closure: is an instant out of the period -/
def outB (F T t : Int) : Bool := decide (t ≤ F) || decide (T ≤ t)
theorem outB_low {F T t : Int} (h : t ≤ F) : outB F T t = true := by simp [outB, h]
theorem outB_high {F T t : Int} (h : ¬ t ≤ F) (k : T ≤ t) : outB F T t = true := by simp [outB, k]
theorem outB_in {F T t : Int} (h : ¬ t ≤ F) (k : ¬ T ≤ t) : outB F T t = false := by simp [outB, h, k]
set_option maxHeartbeats 400000 in
theorem closure (F T t : Int) (B : Nat) (w : World) (h0 : w.cell? ⟨B, 0, none⟩ = some (.int .u64 F)) (h1 : w.cell? ⟨B, 1, none⟩ = some (.int .u64 T)) :
    Calls Tryz.prog 11 #[.int .u64 t, .pointer (some ⟨B, 0, none⟩)] w fun e w' => e = .returned (.bool (outB F T t)) ∧ w' = w := by
  by_cases h : t ≤ F
  · rw [outB_low h]
    go_enter Tryz.func11, Tryz.ntmps11
    go_wp2
    go_ret
    exact ⟨rfl, rfl⟩
  · by_cases k : T ≤ t
    · rw [outB_high h k]
      go_enter Tryz.func11, Tryz.ntmps11
      go_wp2
      go_ret
      exact ⟨rfl, rfl⟩
    · rw [outB_in h k]
      go_enter Tryz.func11, Tryz.ntmps11
      go_wp2
      go_ret
      exact ⟨rfl, rfl⟩
end Go.Proofs.Bp

namespace Go.Proofs.Bp
open Go.RowKit
theorem u25 : Tryz.prog.underlying 25 = some (.struct (Tryz.prog.fieldsOf 25)) := by kernel_rfl
theorem held25 : Tryz.prog.stoodInHeld 25 = false := by kernel_rfl
theorem guard25 : Tryz.prog.eqGuardType Tryz.prog.depth 25 = false := by kernel_rfl
theorem neq25 (a b : Int) (w : World) : (binOp .neq 25 (.agg #[.int .u64 a, .int .u64 b]) (.agg #[.int .u64 a, .int .u64 b])).run Tryz.prog w = .ok (.bool false) w := by
  have u3 := Tryz.underlying23
  have a3 := Tryz.isAgg23
  have z3 := Tryz.sizeOf23
  rw [run_neq_struct, show (10000 : Nat) = 9999 + 1 from rfl, run_equalIn_agg w 9999 25 _ _ u25 held25]
  simp only [Program.fieldsOf, Tryz.underlying25]
  go_simp
theorem eqg25 (x y : Operand) (a b : Int) (w : World) : (eqGuard .neq 25 x y (.agg #[.int .u64 a, .int .u64 b]) (.agg #[.int .u64 a, .int .u64 b])).run Tryz.prog w = .ok () w :=
  run_eqGuard_agg w .neq 25 x y _ _ guard25
/-- what a slice of pieces looks like in memory -/
def Pieces2 (w : World) (v : Value) (l : List (Int × Int)) : Prop :=
  ∃ (o : Option Addr) (c : Nat), v = .slice o l.length c ∧ (l.length = 0 ∨ ∃ g, o = some ⟨g, 0, none⟩ ∧ ∀ j u, (flat l)[j]? = some u → w.cell? ⟨g, j, none⟩ = some u)
theorem pieces_of {w : World} {base : Nat} {v : Value} {l : List (Int × Int)} (h : w.ownsRow base 25 2 v l.length (flat l)) : Pieces2 w v l := by
  rcases h.2 with ⟨rfl, h0⟩ | ⟨g, cap, cur, rfl, hb, hg, h1, h2, h3, h4⟩
  · exact ⟨none, 0, by rw [h0], .inl h0⟩
  · refine ⟨_, _, rfl, .inr ⟨g, rfl, fun j u hu => ?_⟩⟩
    have := h.cells (g := g) rfl j u hu
    by_cases hj : j = 0
    · subst hj; simpa [Addr.add] using this
    · simpa [Addr.add, hj] using this
set_option maxHeartbeats 1000000 in
set_option maxRecDepth 100000 in
theorem like (l : List (Int × Int)) (va vb : Value) (w : World) (ha : Pieces2 w va l) (hb : Pieces2 w vb l) (hl : l.length ≤ 4611686018427387904) :
    Calls Tryz.prog 5 #[va, vb] w fun e w' => e = .returned (.bool true) ∧ ∃ n, w' = w.drewN n := by
  obtain ⟨oa, ca, rfl, ha⟩ := ha
  obtain ⟨ob, cb, rfl, hb⟩ := hb
  by_cases h0 : l.length = 0
  · rw [h0]
    go_enter Tryz.func5, Tryz.ntmps5
    go_wp2
    go_loop [5] (fun i => i = .int .i64 0) (fun _ => 0)
    case atStart => rfl
    case round =>
      obtain rfl := hrel
      go_wp2
      go_ret
      exact ⟨rfl, 0, rfl⟩
  · obtain ⟨ga, rfl, ha1⟩ := ha.resolve_left h0
    obtain ⟨gb, rfl, hb1⟩ := hb.resolve_left h0
    obtain ⟨n, hn⟩ : ∃ n, n = l.length := ⟨_, rfl⟩
    rw [← hn] at hl h0 ⊢
    have HA : Hid (∀ j u, (flat l)[j]? = some u → w.cell? ⟨ga, j, none⟩ = some u) := ha1
    have HB : Hid (∀ j u, (flat l)[j]? = some u → w.cell? ⟨gb, j, none⟩ = some u) := hb1
    have HN : Hid (n = l.length) := hn
    clear ha hb ha1 hb1 hn
    go_enter Tryz.func5, Tryz.ntmps5
    go_wp2
    go_loopw [5] (fun i wr => ∃ k m : Nat, k ≤ n ∧ i = .int .i64 k ∧ wr = w.drewN m) (fun i _ => n - (intOf i).toNat)
    case atStart => exact ⟨0, 0, Nat.zero_le _, rfl, rfl⟩
    case round =>
      obtain ⟨k, m, hk, rfl, rfl⟩ := hrel
      by_cases hlt : k < n
      · have hg := flat_get0 l k (by rw [← HN.out]; exact hlt)
        obtain ⟨x, hx⟩ : ∃ x, x = (l[k]'(by rw [← HN.out]; exact hlt)).1 := ⟨_, rfl⟩
        obtain ⟨y, hy⟩ : ∃ y, y = (l[k]'(by rw [← HN.out]; exact hlt)).2 := ⟨_, rfl⟩
        rw [← hx, ← hy] at hg
        clear hx hy
        have c1 : w.cell? ⟨ga, k * 2, none⟩ = some (.int .u64 x) := HA.out _ _ hg.1
        have c2 : w.cell? ⟨ga, k * 2 + 1, none⟩ = some (.int .u64 y) := HA.out _ _ hg.2
        have c3 : w.cell? ⟨gb, k * 2, none⟩ = some (.int .u64 x) := HB.out _ _ hg.1
        have c4 : w.cell? ⟨gb, k * 2 + 1, none⟩ = some (.int .u64 y) := HB.out _ _ hg.2
        clear hg
        have hneq := neq25 x y
        have hgd := fun o1 o2 w => eqg25 o1 o2 x y w
        go_wp2_with fail
        go_quiet (fail)
        go_wp2
        all_goals
          go_roundw
          case rel => exact ⟨k + 1, m + nq, by omega, by go_num, by simp [World.drewN, Nat.add_assoc]⟩
          case measure => simp [intOf]; omega
      · go_wp2
        go_ret
        exact ⟨rfl, m, rfl⟩
end Go.Proofs.Bp

namespace Go.Proofs.Bp
open Go.RowKit
theorem info25 : (Tryz.prog.info? 25).map (fun i => (i.zero, i.size, i.bytes)) = some (some (.agg #[.int .u64 0, .int .u64 0]), 2, 16) := by kernel_rfl
/-- the instants that came in -/
def Ints (w : World) (o : Option Addr) (n : Nat) (zs : List Int) : Prop :=
  zs.length = n ∧ (n = 0 ∨ ∃ b off, o = some ⟨b, off, none⟩ ∧ b < w.heap.size ∧ ∀ j, j < n → w.cell? ⟨b, off + j, none⟩ = some (.int .u64 (zs[j]!)))
theorem Ints.below {B : Nat} {w w' : World} {o : Option Addr} {n : Nat} {zs : List Int} (h : Ints w o n zs) (hb : Below B w w') (hB : w.heap.size ≤ B) : Ints w' o n zs := by
  refine ⟨h.1, h.2.imp id ?_⟩
  rintro ⟨b, off, e, hl, hc⟩
  exact ⟨b, off, e, Nat.lt_of_lt_of_le hl hb.size, fun j hj => (hb.cell (p := ⟨b, off + j, none⟩) (by show b < B; omega)).trans (hc j hj)⟩
def refL (zs : List Int) (F T : Int) : List (Int × Int) := if mayB F T then refF zs T F else []
def RefEnd (zs : List Int) (F T : Int) (w : World) (e : Ending) (w' : World) : Prop :=
  ∃ v, e = .returned v ∧ w'.ownsRow w.heap.size 25 2 v (refL zs F T).length (flat (refL zs F T)) ∧ Below w.heap.size w w'
theorem ref_out {zs : List Int} {F T : Int} {w : World} (h : mayB F T = false) {w' : World} (hb : Below w.heap.size w w') : RefEnd zs F T w (.returned (.slice none 0 0)) w' := by
  refine ⟨_, rfl, ?_, hb⟩
  simp only [refL, h]
  exact World.ownsRow_nil _ _ _ _
theorem next_nil (a T : Int) : next [] a T = T := rfl
set_option maxHeartbeats 2000000 in
set_option maxRecDepth 100000 in
theorem refPieces (o : Option Addr) (n c : Nat) (zs : List Int) (F T : Int) (w : World) (hz : Ints w o n zs) (hn : n ≤ 9223372036854775807) (hF : 0 ≤ F) :
    Calls Tryz.prog 6 #[.slice o n c, .agg #[.int .u64 F, .int .u64 T]] w (RefEnd zs F T w) := by
  obtain ⟨i0, hi, hz0, hz1, hz2⟩ := info_parts info25
  by_cases hm : mayB F T = true
  · have hFT : F < T ∧ T ≤ 1099511627776 := by simpa [mayB] using hm
    have c14 : ∀ W : World, Calls Tryz.prog 14 #[.agg #[.int .u64 F, .int .u64 T]] W fun e w' => e = .returned (.bool true) ∧ Below W.heap.size W w' := fun W => by
      have := may14 F T W
      rwa [hm] at this
    have HC : Hid (∀ W : World, Calls Tryz.prog 14 #[.agg #[.int .u64 F, .int .u64 T]] W fun e w' => e = .returned (.bool true) ∧ Below W.heap.size W w') := c14
    have HZ : Hid (Ints w o n zs) := hz
    have HL : Hid (zs.length = n) := hz.1
    have HR : Hid (refL zs F T = refF zs T F) := by show refL zs F T = _; simp [refL, hm]
    have HM : Hid (mayB F T = true) := hm
    clear hz hm c14
    go_enter Tryz.func6, Tryz.ntmps6
    go_wp2_with (go_at_call 14; refine (HC.out _).mono ?_; rintro e w1 ⟨rfl, hb1⟩; refine Hid.out ?_)
    refine Lib.hid ?_
    have B1 : Below w.heap.size w w1 := ((Below.refl _ _).alloc (Nat.le_refl _) _).trans (hb1.mono (by simp))
    have hc0 : w1.cell? ⟨w.heap.size, 0, none⟩ = some (.int .u64 F) := (hb1.cell (by simp)).trans (by simp)
    have hc1 : w1.cell? ⟨w.heap.size, 1, none⟩ = some (.int .u64 T) := (hb1.cell (by simp)).trans (by simp)
    have hs1 : w.heap.size < w1.heap.size := by have := hb1.size; simp at this; omega
    have HB : Hid (Below w.heap.size w w1) := B1
    have HZ1 : Hid (Ints w1 o n zs) := HZ.out.below B1 (Nat.le_refl _)
    clear B1 hb1
    go_wp2_with fail
    go_loopw [5, 6] (fun s5 s6 wr => ∃ (a : Int) (acc : List (Int × Int)), s6 = .int .u64 a ∧ F ≤ a ∧ a ≤ T ∧ wr.ownsRow w1.heap.size 25 2 s5 acc.length (flat acc) ∧ acc ++ refF zs T a = refF zs T F ∧ (acc.length : Int) ≤ a - F ∧ Below w1.heap.size w1 wr)
      (fun _ s6 _ => (T - intOf s6).toNat)
    case atStart => exact ⟨F, [], rfl, Int.le_refl _, by omega, World.ownsRow_nil _ _ _ _, rfl, by simp, Below.refl _ _⟩
    case round =>
      obtain ⟨a, acc, rfl, hFa, haT, hown, hacc, hlen, hbw⟩ := hrel
      have HA : Hid (acc ++ refF zs T a = refF zs T F) := hacc
      have HO : Hid (wr.ownsRow w1.heap.size 25 2 u5 acc.length (flat acc)) := hown
      have hcr : wr.cell? ⟨w.heap.size, 1, none⟩ = some (.int .u64 T) := (hbw.cell (p := ⟨w.heap.size, 1, none⟩) hs1).trans hc1
      have HBW : Hid (Below w1.heap.size w1 wr) := hbw
      have HZr : Hid (Ints wr o n zs) := HZ1.out.below hbw (Nat.le_refl _)
      clear hacc hown hbw hc0 hc1
      by_cases hlt : a < T
      · go_wp2_with fail
        go_loop [7, 8] (fun s7 s8 => ∃ (i : Nat) (t : Int), i ≤ n ∧ s8 = .int .i64 i ∧ s7 = .int .u64 t ∧ t = next (zs.take i) a T) (fun _ s8 => n - (intOf s8).toNat)
        case atStart => exact ⟨0, T, Nat.zero_le _, rfl, rfl, by simp [next]⟩
        case round =>
          obtain ⟨i, t, hin, rfl, rfl, ht⟩ := hrel
          have HT : Hid (t = next (zs.take i) a T) := ht
          clear ht
          by_cases hi1 : i < n
          · obtain ⟨b, off, rfl, hbl, hcell⟩ := HZr.out.2.resolve_left (by omega)
            obtain ⟨x, hx⟩ : ∃ x, x = zs[i]! := ⟨_, rfl⟩
            have hcx : wr.cell? ⟨b, off + i, none⟩ = some (.int .u64 x) := by rw [hx]; exact hcell i hi1
            have HX : Hid (x = zs[i]!) := hx
            clear hx hcell
            have hstep := next_take zs a T i (by rw [HL.out]; exact hi1)
            have HS : Hid (next (zs.take (i + 1)) a T = if a < x ∧ x < t then x else t) := by rw [HX.out, HT.out]; exact hstep
            clear hstep
            by_cases h1 : a < x
            · by_cases h2 : x < t
              · go_wp2
                go_round
                case rel => exact ⟨i + 1, x, by omega, by go_num, rfl, by rw [HS.out, if_pos ⟨h1, h2⟩]⟩
                case measure => simp [intOf]; omega
              · go_wp2
                go_round
                case rel => exact ⟨i + 1, t, by omega, by go_num, rfl, by rw [HS.out, if_neg (fun h => h2 h.2)]⟩
                case measure => simp [intOf]; omega
            · go_wp2
              go_round
              case rel => exact ⟨i + 1, t, by omega, by go_num, rfl, by rw [HS.out, if_neg (fun h => h1 h.1)]⟩
              case measure => simp [intOf]; omega
          · have hie : i = n := by omega
            have HN : Hid (t = next zs a T) := by
              have := HT.out
              rwa [hie, List.take_of_length_le (by rw [HL.out]; exact Nat.le_refl _)] at this
            have hsp := next_spec a zs T hlt
            rw [← HN.out] at hsp
            have h1 : a < t := hsp.1
            have h2 : t ≤ T := hsp.2.1
            clear hsp
            go_wp2_with (at_builtin; go_loud (refine wpList_append_own _ rfl _ _ 26 rfl w1.heap.size 25 i0 (.agg #[.int .u64 0, .int .u64 0]) 2 16 Tryz.underlying26 hi hz0 hz1 hz2 rfl (by decide) _ _ _ rfl (HO.out.alloc _) ⟨wr.heap.size, 0, none⟩ 1 1 [.int .u64 a, .int .u64 t] rfl rfl (cell_two_new _ _ _ _) (fun x hx => by simp at hx; rcases hx with rfl | rfl <;> rfl) (by unfold maxLen; omega) (by omega) (by have := HBW.out.size; simp; omega) ?_); intro v' w3 hown' hgrow _; have HO' : Hid (w3.ownsRow w1.heap.size 25 2 v' (acc.length + 1) (flat acc ++ [.int .u64 a, .int .u64 t])) := hown'; have HG' : Hid ((wr.alloc (.cells #[.int .u64 a, .int .u64 t] 25)).grownBy w3 u5.ownBlock) := hgrow; clear hown' hgrow)
            go_roundw
            case rel =>
              refine ⟨t, acc ++ [(a, t)], rfl, by omega, h2, ?_, ?_, by simp; omega, ?_⟩
              · have := HO'.out
                rw [flat_append, flat_one]
                simpa using this
              · rw [← HA.out, refF_step zs T a hlt, ← HN.out]
                simp
              · exact (HBW.out.alloc HBW.out.size _).grown HG'.out (by have := HBW.out.size; simp; omega) (fun k hk => (HO.out.lt k hk).1)
            case measure => simp [intOf]; omega
      · go_wp2_with fail
        have hae : a = T := by omega
        go_ret
        have hacc2 : acc = refL zs F T := by
          have := HA.out
          rw [refF_end zs T a (by omega), List.append_nil] at this
          rw [HR.out, this]
        subst hacc2
        refine ⟨u5, rfl, ?_, HB.out.trans (HBW.out.mono HB.out.size)⟩
        have h := HO.out
        exact ⟨h.1, h.2.imp id (fun ⟨g, cap, cur, e, hb, r⟩ => ⟨g, cap, cur, e, Nat.le_trans HB.out.size hb, r⟩)⟩
  · have hm' : mayB F T = false := by simpa using hm
    have c14 : ∀ W : World, Calls Tryz.prog 14 #[.agg #[.int .u64 F, .int .u64 T]] W fun e w' => e = .returned (.bool false) ∧ Below W.heap.size W w' := fun W => by
      have := may14 F T W
      rwa [hm'] at this
    have HC : Hid (∀ W : World, Calls Tryz.prog 14 #[.agg #[.int .u64 F, .int .u64 T]] W fun e w' => e = .returned (.bool false) ∧ Below W.heap.size W w') := c14
    have HM : Hid (mayB F T = false) := hm'
    clear hz hm hm' c14
    go_enter Tryz.func6, Tryz.ntmps6
    go_wp2_with (go_at_call 14; refine (HC.out _).mono ?_; rintro e w1 ⟨rfl, hb1⟩; refine Hid.out ?_)
    refine Lib.hid ?_
    have B1 : Below w.heap.size w w1 := ((Below.refl _ _).alloc (Nat.le_refl _) _).trans (hb1.mono (by simp))
    clear hb1
    go_wp2
    go_ret
    exact ref_out HM.out B1
end Go.Proofs.Bp
