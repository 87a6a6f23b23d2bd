/- Proves, for the given program, that the call of slices.Sorted at a map of given keys may be told in a run of the abstract machine, given the sorts. -/
import Derived.Test.YtjhmgeegnilbpaaGreatDoorMk3
import Derived.Test.YtjhmgeegnilbpaaGreatDoorAb6
set_option linter.all false
namespace Ab.Mk
open Go Go.Proofs Go.Maps
open Go.WideElems (Fit rd rg)

def keysAre : List (AVal × AVal) → List Int → Bool
  | [], [] => true
  | (.int .u64 n, .bool true) :: l, k :: ks => eqI n k && keysAre l ks
  | _, _ => false
/-- the numbers of a map's keys, sorted -/
noncomputable def goSorted (K out : List Int) (args : List AVal) (h : AHeap) : Option (AVal × AHeap) :=
  match args with
  | [.func (.func 159) [] [.ptr (some a)]] =>
    match h.t.get a.block with
    | some (.cells c (_ + 1) _ ep _) =>
      bif Nat.beq a.epoch ep && Nat.beq a.off 0 then
        match c.get 0 with
        | some (.map (some r)) => match h.t.get r with
          | some (.map es) => bif keysAre es K then some (.slice (some ⟨h.next, 0, 0⟩) K.length K.length 1, h.newRow (kv out) 23) else none
          | _ => none
        | _ => none
      else none
    | _ => none
  | _ => none

theorem keyOf_int' {P : Program} {k : TypeId} {q : IntKind} (hk : P.underlying k = some (.int q)) (v : Value) : keyOf P k v = Go.mapKey P k v := by simp [keyOf, hk]
theorem keysAre_spec {ι : Emb} : ∀ {es : List (AVal × AVal)} {K : List Int} {l : List MapEntry}, keysAre es K = true → EsR ι es l → l.map (·.key) = K.map encU ∧ ∀ x ∈ l, x.val = .bool true
  | [], [], l, _, h => by have := h.nil_inv; subst this; exact ⟨rfl, fun x hx => by cases hx⟩
  | [], _ :: _, _, h, _ => by cases h
  | (k, v) :: es, K, l, h, hr => by
    unfold keysAre at h
    split at h
    · rename_i heq; exact absurd heq (by simp)
    · rename_i n es' k' ks e1
      cases e1
      simp only [Bool.and_eq_true, eqI_iff] at h
      obtain ⟨rfl, h2⟩ := h
      obtain ⟨e, l', rfl, h3, h4, h5⟩ := hr.cons_inv
      obtain ⟨i1, i2⟩ := keysAre_spec h2 h5
      have e3 : e.key = encU n := by simpa only [VR] using h3
      have e4 : e.val = .bool true := by simpa only [VR] using h4
      refine ⟨by simp [e3, i1], fun x hx => ?_⟩
      rcases List.mem_cons.1 hx with rfl | hx
      · exact e4
      · exact i2 x hx
    · cases h

/-- the map reads as the datum that the laws want -/
theorem owns {w : World} {b clock : Nat} {l : Array MapEntry} {K : List Int} (hb : w.heap[b]? = some (.map l clock)) (hbn : Births l.toList clock) (hk : l.toList.map (·.key) = K.map encU) (hv : ∀ x ∈ l.toList, x.val = .bool true)
    (hnd : K.Nodup) (hwf : ∀ k ∈ K, (Lit.int .u64 k).wf = true) (hlen : K.length ≤ 1000) :
    ∃ D0 : DataW Unit, w.ownsMap Tryz.prog 23 (plainElem Tryz.prog 4) b l.size D0 ∧ (intKeys D0).Perm K ∧ size D0 = K.length := by
  have hsz : l.size = K.length := by
    have := congrArg List.length hk
    simpa using this
  have hread : ∀ x ∈ l.toList, ∃ k, x.key = encU k ∧ rd (H := Unit) Tryz.prog 23 (plainElem Tryz.prog 4) x = some (.int .u64 k, .lit (.bool true)) := by
    intro x hx
    have h1 : x.key ∈ K.map encU := by rw [← hk]; exact List.mem_map.2 ⟨x, hx, rfl⟩
    obtain ⟨k, hkK, hke⟩ := List.mem_map.1 h1
    refine ⟨k, hke.symm, ?_⟩
    have h2 : keyOf Tryz.prog 23 x.key = some (.int .u64 k) := by
      rw [← hke]
      rw [keyOf_int' Tryz.underlying23]
      simp [Go.mapKey, Tryz.underlying23, encU, hwf k hkK]
    simp only [rd, h2, Option.bind_some, hv x hx, plainElem_bool Tryz.underlying4, Option.map_some]
  refine ⟨_, ⟨l, clock, hb, ⟨?_, ⟨hbn.2, ?_, ?_⟩, fun x hx => let ⟨k, _, h⟩ := hread x hx; ⟨_, h⟩⟩, Nat.le_refl _, rfl⟩, ?_, ?_⟩
  · rw [hsz]; exact Nat.le_trans hlen (by decide)
  · exact List.pairwise_map.2 (hbn.1.imp fun h => Nat.ne_of_lt h)
  · rw [hk]
    exact List.pairwise_map.2 (hnd.imp fun h e => h (encU_inj e))
  · show (((l.toList.map (rg Tryz.prog 23 (plainElem Tryz.prog 4))).foldr DataW.insert []).map fun p => Go.intOf p.1).Perm K
    refine ((Go.WideShapes.sorted_perm _).map _).trans ?_
    have : (l.toList.map (rg (H := Unit) Tryz.prog 23 (plainElem Tryz.prog 4))).map (fun p => Go.intOf p.1) = K := by
      rw [List.map_map]
      have h1 : ∀ x ∈ l.toList, encU (((fun p : Lit × DataW Unit => Go.intOf p.1) ∘ rg Tryz.prog 23 (plainElem Tryz.prog 4)) x) = x.key := by
        intro x hx
        obtain ⟨k, hk1, hk2⟩ := hread x hx
        simp only [Function.comp, rg, hk2, Option.getD_some, Go.intOf]
        exact hk1.symm
      have h2 : (l.toList.map ((fun p : Lit × DataW Unit => Go.intOf p.1) ∘ rg Tryz.prog 23 (plainElem Tryz.prog 4))).map encU = K.map encU := by
        rw [List.map_map, ← hk]
        exact List.map_congr_left h1
      exact (List.map_inj_right (fun a b e => encU_inj e)).1 h2
    rw [this]
  · show ((l.toList.map (rg Tryz.prog 23 (plainElem Tryz.prog 4))).foldr DataW.insert []).length = _
    rw [(Go.WideShapes.sorted_perm _).length_eq]
    simpa using hsz

set_option maxRecDepth 100000 in
theorem goSorted_S (hno : noCount Tryz.prog = true) {K out : List Int} (hK : K ≠ []) (hnd : K.Nodup) (hwf : ∀ k ∈ K, (Lit.int .u64 k).wf = true) (hlen : K.length ≤ 1000) (hol : out.length = K.length) (hsort : ∀ ss, ss.Perm K → SortOk ss out)
    {args : List AVal} {h : AHeap} {v : AVal} {h' : AHeap} (hg : goSorted K out args h = some (v, h')) : CfS Tryz.prog 100 args h v h' := by
  unfold goSorted at hg
  split at hg
  case h_2 => cases hg
  rename_i a
  split at hg
  case h_2 => cases hg
  rename_i c sz e ep fz hblk
  cases hc : (Nat.beq a.epoch ep && Nat.beq a.off 0) with
  | false => rw [hc] at hg; cases hg
  | true =>
    rw [hc] at hg
    simp only [cond_true] at hg
    simp only [Bool.and_eq_true, beq_iff] at hc
    split at hg
    case h_2 => cases hg
    rename_i r hcell
    split at hg
    case h_2 => cases hg
    rename_i es hmap
    cases hk : keysAre es K with
    | false => rw [hk] at hg; cases hg
    | true =>
      rw [hk] at hg
      simp only [cond_true, Option.some.injEq, Prod.mk.injEq] at hg
      obtain ⟨rfl, rfl⟩ := hg
      have hcs : CallS Tryz.prog 100 [.func (.func 159) [] [.ptr (some a)]] h (.slice (some ⟨h.next, 0, 0⟩) K.length K.length 1) (h.newRow (kv out) 23) := by
        intro ι w cargs s ha
        -- the arguments
        obtain ⟨u, vs, e1, h1, h2⟩ := VRs.cons_inv ha
        have h2 := VRs.nil_inv h2; subst h2
        simp only [VR, FnR] at h1
        obtain ⟨fn', f', c', rfl, rfl, hf, hcap⟩ := h1
        have hf := VRs.nil_inv hf
        obtain ⟨pv, rest, e2, hpv, hrest⟩ := VRs.cons_inv hcap
        have hrest := VRs.nil_inv hrest; subst hrest
        simp only [VR] at hpv
        obtain ⟨p, hp, rfl⟩ := hpv
        have hf' : f' = #[] := Array.ext' hf
        have hc' : c' = #[.pointer (some ⟨p.cb, 0, none⟩)] := Array.ext' (by rw [e2, hc.2])
        subst hf'; subst hc'
        have hcargs : cargs = #[.func (.func 159) #[] #[.pointer (some ⟨p.cb, 0, none⟩)]] := Array.ext' e1
        subst hcargs
        -- the box and the map
        obtain ⟨p', hp', arr, z, b1, b2, b3, b4, b5⟩ := s.blk _ _ hblk
        rw [show (ABlk.cells c (sz + 1) e ep fz).ep = ep from rfl, ← hc.1, hp] at hp'
        cases hp'
        obtain ⟨u, hu1, hu2⟩ := b4 0 _ (Nat.succ_pos _) hcell
        simp only [VR] at hu2
        obtain ⟨q, hq, rfl⟩ := hu2
        obtain ⟨q', hq', l, clock, m1, m2, m3⟩ := s.blk _ _ hmap
        rw [show (ABlk.map es).ep = 0 from rfl, hq] at hq'
        cases hq'
        obtain ⟨k1, k2⟩ := keysAre_spec hk m2
        obtain ⟨D0, hown, hperm, hsize⟩ := owns m1 m3 k1 k2 hnd hwf hlen
        have hcellw : w.cell? ⟨p.cb, 0, none⟩ = some (.map (some q.cb)) := by simp [World.cell?, b1, hu1]
        have hmaxLen : (1000 : Nat) ≤ maxLen := by decide
        have hcalls := sorted_calls (H := Unit) hK hsort p.cb q.cb _ D0 w (Array.getElem?_eq_some_iff.1 b1).1 hcellw hown hperm (by omega) (by omega)
        refine callsIn_wide.2 (Calls.mono (callsIn_wide.1 hcalls) ?_)
        rintro e' w' ⟨gb, cap, cur', rfl, g1, g2, g3, g4, g5, g6, g7, g8, g9⟩
        have hup : (ι.upd h.next 0 ⟨gb, cap⟩) h.next 0 = some ⟨gb, cap⟩ := Emb.upd_self _ _ _ _
        obtain ⟨s1, f1⟩ := s.add (x := .cells (T.setL (kv out) 0 .leaf) (kv out).length 23 0 0) (gb := gb) cap rfl g1 g7 g6 g8 g9 (by
          refine ⟨cur', (0, 0), g2, g4, by simp [kv]; omega, fun i v hi hv => ?_, rfl⟩
          rw [get_setL, if_pos ⟨Nat.zero_le _, by omega⟩] at hv
          have hi' : i < K.length := by simp [kv] at hi; omega
          have h1 : (cur'.toList.take K.length)[i]? = (out.map encU)[i]? := by rw [g5]
          rw [List.getElem?_take_of_lt hi'] at h1
          simp only [kv, Nat.sub_zero, List.getElem?_map] at hv h1
          cases hsi : out[i]? with
          | none => rw [hsi] at hv; cases hv
          | some k =>
            rw [hsi] at hv h1
            cases hv
            refine ⟨encU k, ?_, by simp only [VR]⟩
            rw [← Array.getElem?_toList, h1]; rfl)
        refine ⟨_, _, rfl, ?_, s1, f1⟩
        simp only [VR]
        exact ⟨⟨gb, cap⟩, 0, cap, hup, rfl, g3, .inl rfl, (fun e => absurd e (by decide)), fun _ => ⟨g3, (by show 0 + cap * 1 ≤ cap; omega)⟩⟩
      have hinfo : ∃ c, fnInfo Tryz.prog 100 = some (c, Tryz.f100.ntmps, Tryz.f100.results.toList) := by
        unfold fnInfo
        rw [Tryz.func100]
        exact ⟨_, rfl⟩
      obtain ⟨_, hinfo⟩ := hinfo
      exact hcs.cf (entS_of hno hinfo).1
end Ab.Mk
