/- Proves, for the given program, what slices.Sorted over the iterator of maps.Keys comes to, given what slices.Sort makes of each order of the keys. -/
import Derived.Test.YtjhmgeegnilbpaaGreatDoorMk1
set_option linter.all false
namespace Ab.Mk
open Go Go.Proofs Go.RowKit Go.Maps Go.Sort Go.Shelf

/-- slices.Sort makes of these numbers those -/
def SortOk (ss out : List Int) : Prop :=
  ∀ (gb cap : Nat) (cur : Array Value) (W : World), W.heap[gb]? = some (.cells cur 23 (0, 0)) → ss.length ≤ cap → cur.size = cap → cur.toList.take ss.length = ss.map encU →
    CallsIn Fence.wide 4 Tryz.prog 12 #[.slice (some ⟨gb, 0, none⟩) ss.length cap] W fun e w' => e = .returned (.tuple #[]) ∧ (∃ cur', w'.heap[gb]? = some (.cells cur' 23 (0, 0)) ∧ cur'.size = cap ∧ cur'.toList.take ss.length = out.map encU) ∧
      (∀ k, k < W.heap.size → k ≠ gb → w'.heap[k]? = W.heap[k]?) ∧ W.heap.size ≤ w'.heap.size ∧ w'.os = W.os ∧ w'.output = W.output

set_option maxRecDepth 100000 in
set_option maxHeartbeats 2000000 in
theorem sorted_calls {H : Type} {K out : List Int} (hK : K ≠ []) (hsort : ∀ ss, ss.Perm K → SortOk ss out) (Bm b nn : Nat) (D0 : DataW H) (w : World) (hBm : Bm < w.heap.size)
    (hm : w.cell? ⟨Bm, 0, none⟩ = some (.map (some b))) (hown : w.ownsMap Tryz.prog 23 (plainElem Tryz.prog 4) b nn D0) (hperm : (intKeys D0).Perm K) (hmax : Maps.size D0 ≤ maxLen) (hbytes : Maps.size D0 * 8 ≤ 140737488355328) :
    CallsIn Fence.wide 5 Tryz.prog 100 #[.func (.func 159) #[] #[.pointer (some ⟨Bm, 0, none⟩)]] w fun e w' => ∃ gb cap cur', e = .returned (.slice (some ⟨gb, 0, none⟩) K.length cap) ∧ w.heap.size ≤ gb ∧
      w'.heap[gb]? = some (.cells cur' 23 (0, 0)) ∧ K.length ≤ cap ∧ cur'.size = cap ∧ cur'.toList.take K.length = out.map encU ∧
      (∀ k, k < w.heap.size → w'.heap[k]? = w.heap[k]?) ∧ w.heap.size ≤ w'.heap.size ∧ w'.os = w.os ∧ w'.output = w.output := by
  have hro : Fence.wide.round = none := rfl
  have hseq := keys_gives Fence.wide 2 trivial hro (by omega) Bm b nn D0 w hBm hm hown
  refine callsIn_of_wp Tryz.func100 rfl trivial ?_ hro
  simp only [Tryz.ntmps100, List.size_toArray, List.length_cons, List.length_nil, Nat.reduceAdd, Nat.reduceSub, Array.replicate_succ, Array.replicate_zero, List.push_toArray, List.append_toArray, List.nil_append, List.cons_append]
  have hf172 : Fence.wide.fn 158 := trivial
  have hf32 : Fence.wide.fn 12 := trivial
  gi_wp2_with (gi_at_call 158; refine (collect_in Fence.wide 4 trivial trivial hro (by omega) 159 #[.pointer (some ⟨Bm, 0, none⟩)] trivial (enters_of Tryz.func159 (by kernel_rfl) rfl) _ _ hmax hbytes _ hseq).mono ?_; rintro e W ⟨v, ss, rfl, hS, hrow, hnil, hb⟩)
  have hp : ss.Perm K := hS.trans hperm
  rcases hrow.2 with ⟨rfl, hz⟩ | ⟨gb, cap, cur, rfl, hbase, hgb, r1, r2, r3, r4⟩
  · exact absurd (List.Perm.eq_nil (by rw [List.eq_nil_of_length_eq_zero hz] at hp; exact hp.symm)) hK
  · gi_wp2_with (gi_at_call 12; refine (hsort ss hp gb cap cur W hgb r1 (by omega) (by simpa using r4)).mono ?_; rintro e w' ⟨rfl, ⟨cur', c1, c2, c3⟩, c4, c5, c6, c7⟩)
    go_ret
    have hl : ss.length = K.length := hp.length_eq
    exact ⟨gb, cap, cur', by rw [← hl]; rfl, hbase, c1, by omega, c2, by rw [← hl]; exact c3, fun k hk => (c4 k (Nat.lt_of_lt_of_le hk hb.size) (by omega)).trans (hb.block k hk), Nat.le_trans hb.size c5, c6.trans hb.os, c7.trans hb.output⟩
end Ab.Mk
