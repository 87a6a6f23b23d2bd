/- Proves that orders of a list are its permutations, and that a run of the abstract machine to the sorted numbers proves what slices.Sort makes of them. -/
import Derived.Test.YtjhmgeegnilbpaaGreatDoorMk2
import Derived.Test.YtjhmgeegnilbpaaGreatDoorAb6
set_option linter.all false
namespace Ab.Mk
open Go Go.Proofs

/-! every order of a list -/
def ins (x : Int) : List Int → List (List Int)
  | [] => [[x]]
  | y :: l => (x :: y :: l) :: (ins x l).map (y :: ·)
def perms : List Int → List (List Int)
  | [] => [[]]
  | x :: l => (perms l).flatMap (ins x)
theorem mem_ins (x : Int) : ∀ (a b : List Int), a ++ x :: b ∈ ins x (a ++ b)
  | [], [] => by simp [ins]
  | [], y :: b => by simp [ins]
  | y :: a, b => by
    simp only [List.cons_append, ins]
    exact List.mem_cons_of_mem _ (List.mem_map.2 ⟨_, mem_ins x a b, rfl⟩)
theorem mem_perms : ∀ (l ss : List Int), ss.Perm l → ss ∈ perms l
  | [], ss, h => by rw [List.Perm.eq_nil h]; simp [perms]
  | x :: l, ss, h => by
    have hx : x ∈ ss := h.symm.subset List.mem_cons_self
    obtain ⟨a, b, rfl⟩ := List.append_of_mem hx
    have h2 : (a ++ b).Perm l := List.Perm.cons_inv (List.perm_middle.symm.trans h)
    exact List.mem_flatMap.2 ⟨a ++ b, mem_perms l _ h2, mem_ins x a b⟩

/-! one order, run -/
def kv (l : List Int) : List AVal := l.map fun k => .int .u64 k
noncomputable def sortH (n : Nat) (ss : List Int) : AHeap := ⟨9, T.set .leaf 8 (.cells (T.setL (kv ss) 0 .leaf) n 23 0 0)⟩
noncomputable def sortOut (n : Nat) (out : List Int) : Out → Bool
  | .done (.tuple []) h1 => match h1.t.get 8 with
    | some (.cells c sz e ep fz) => Nat.beq sz n && Nat.beq e 23 && Nat.beq ep 0 && Nat.beq fz 0 && (match c.getL n 0 with
      | some l => sameL l (kv out)
      | none => false)
    | _ => false
  | _ => false
noncomputable def sortRun (orc : FuncId → List AVal → AHeap → Option (AVal × AHeap)) (N n : Nat) (out ss : List Int) : Bool :=
  Nat.beq ss.length n && Nat.beq out.length n && sortOut n out (ev Tryz.prog orc N (.call 12 [.slice (some ⟨8, 0, 0⟩) n n 1]) (sortH n ss))

theorem run_task {P : Program} {orc : FuncId → List AVal → AHeap → Option (AVal × AHeap)} (horc : OrcS P orc) (hmix : P.follows .mixedOrders = true) (hno : noCount P = true) {N : Nat} {t : Task} {h : AHeap} {o : Out} (ho : ev P orc N t h = o) (hne : o ≠ .fail) : TaskS P t h o :=
  sound horc hmix hno N t h o ho hne
theorem kv_VRs (ι : Emb) (l : List Int) : VRs ι (kv l) (l.map encU) := VRs.map _ _ (fun k => by simp only [VR]) l
set_option maxRecDepth 100000 in
theorem sort_ok {orc : FuncId → List AVal → AHeap → Option (AVal × AHeap)} (horc : OrcS Tryz.prog orc) (hmix : Tryz.prog.follows .mixedOrders = true) (hno : noCount Tryz.prog = true) (hng : Tryz.prog.globals.size = 8)
    {N n : Nat} {out ss : List Int} (hr : sortRun orc N n out ss = true) : SortOk ss out := by
  intro gb cap cur W hgb hle hcap htake
  simp only [sortRun, Bool.and_eq_true, beq_iff] at hr
  obtain ⟨⟨hl, hlo⟩, hr⟩ := hr
  subst hl
  generalize hH : sortH ss.length ss = hh at hr
  generalize ho : ev Tryz.prog orc N (.call 12 [.slice (some ⟨8, 0, 0⟩) ss.length ss.length 1]) hh = o at hr
  have hs : o ≠ .fail → TaskS Tryz.prog (.call 12 [.slice (some ⟨8, 0, 0⟩) ss.length ss.length 1]) hh o := run_task horc hmix hno ho
  clear ho
  unfold sortOut at hr
  split at hr
  · rename_i h1
    obtain ⟨v, h', e, hc, _⟩ := hs (by simp)
    cases e
    subst hH
    cases hg : h1.t.get 8 with
    | none => rw [hg] at hr; cases hr
    | some blk =>
      rw [hg] at hr
      cases blk with
      | cells c sz e ep fz =>
        simp only [Bool.and_eq_true, beq_iff] at hr
        obtain ⟨⟨⟨⟨r1, r2⟩, r3⟩, r4⟩, r5⟩ := hr
        subst r1; subst r2; subst r3; subst r4
        cases hgl : c.getL ss.length 0 with
        | none => rw [hgl] at r5; cases r5
        | some l =>
          rw [hgl] at r5
          have r6 : l = kv out := sameL_eq r5
          subst r6
          obtain ⟨gl1, gl2⟩ := getL_spec c ss.length 0 _ hgl
          let ι : Emb := fun b e => if b < 8 ∧ e = 0 then some ⟨b, 0⟩ else if b = 8 ∧ e = 0 then some ⟨gb, cap⟩ else none
          have ι8 : ι 8 0 = some ⟨gb, cap⟩ := by simp [ι]
          have hget : ∀ b x, (sortH ss.length ss).t.get b = some x → b = 8 ∧ x = .cells (T.setL (kv ss) 0 .leaf) ss.length 23 0 0 := by
            intro b x hx
            simp only [sortH, get_set] at hx
            by_cases hb : 8 = b
            · rw [if_pos hb] at hx; cases hx; exact ⟨hb.symm, rfl⟩
            · rw [if_neg hb] at hx; simp at hx
          have hst : St Tryz.prog ι (sortH ss.length ss) W := by
            refine ⟨?_, ?_, ?_, ?_, ?_⟩
            · intro b x hx
              obtain ⟨rfl, rfl⟩ := hget b x hx
              refine ⟨⟨gb, cap⟩, ι8, cur, (0, 0), hgb, hcap, hle, fun i v hi hv => ?_, rfl⟩
              rw [get_setL, if_pos ⟨Nat.zero_le _, by simp [kv]; omega⟩] at hv
              have h1 : (cur.toList.take ss.length)[i]? = (ss.map encU)[i]? := by rw [htake]
              rw [List.getElem?_take_of_lt hi] at h1
              simp only [kv, Nat.sub_zero, List.getElem?_map] at hv h1
              cases hsi : ss[i]? with
              | none => rw [hsi] at hv; cases hv
              | some k =>
                rw [hsi] at hv h1
                cases hv
                refine ⟨encU k, ?_, by simp only [VR]⟩
                rw [← Array.getElem?_toList, h1]; rfl
            · intro b b' x x' p p' hx hx' _ _ _
              rw [(hget b x hx).1, (hget b' x' hx').1]
            · intro b x e p hx hp
              obtain ⟨rfl, rfl⟩ := hget b x hx
              by_cases he : e = 0
              · rw [he]; exact Nat.zero_le _
              · simp [ι, he] at hp
            · intro b e p hp
              show b < 9
              by_cases h1 : b < 8 ∧ e = 0
              · omega
              · by_cases h2 : b = 8 ∧ e = 0
                · omega
                · simp only [ι, if_neg h1, if_neg h2] at hp; cases hp
            · intro g hg
              rw [hng] at hg
              exact ⟨⟨g, 0⟩, by simp [ι, hg], rfl⟩
          have harg : VRs ι [.slice (some ⟨8, 0, 0⟩) ss.length ss.length 1] (#[Value.slice (some ⟨gb, 0, none⟩) ss.length cap]).toList := by
            refine VRs.one ?_
            simp only [VR]
            exact ⟨⟨gb, cap⟩, 0, cap, ι8, rfl, hle, .inl rfl, (fun e => absurd e (by decide)), fun _ => ⟨hle, (by show 0 + cap * 1 ≤ cap; omega)⟩⟩
          have hcall := callsIn_wide.1 (hc ι W _ hst harg)
          refine callsIn_wide.2 (Calls.mono hcall ?_)
          rintro e w' ⟨u, ι', rfl, hv, s', f⟩
          have hu : u = .tuple #[] := by
            simp only [VR] at hv
            obtain ⟨cs, rfl, hcs⟩ := hv
            have := VRs.nil_inv hcs
            rw [show cs = #[] from Array.ext' this]
          refine ⟨by rw [hu], ?_, fun k hk hne => f.keep k hk ?_, f.size, f.os, f.output⟩
          · obtain ⟨p', hp', arr, z, b1, b2, b3, b4, b5⟩ := s'.blk _ _ hg
            have hpe := f.le _ _ _ ι8
            rw [show (ABlk.cells c ss.length 23 0 0).ep = 0 from rfl, hpe] at hp'
            cases hp'
            have hz : z = (0, 0) := b5
            subst hz
            refine ⟨arr, b1, b2, ?_⟩
            apply List.ext_getElem?
            intro i
            by_cases hi : i < ss.length
            · rw [List.getElem?_take_of_lt hi]
              have h3 := gl2 i hi
              simp only [kv, List.getElem?_map] at h3
              have hio : i < out.length := by omega
              rw [List.getElem?_eq_getElem hio] at h3
              obtain ⟨u', hu1, hu2⟩ := b4 (0 + i) _ (by omega) h3
              have : u' = encU out[i] := by simpa only [VR] using hu2
              subst this
              rw [Array.getElem?_toList]
              simp only [Nat.zero_add] at hu1
              rw [hu1, List.getElem?_map, List.getElem?_eq_getElem hio]; rfl
            · rw [List.getElem?_take_eq_none (by omega), List.getElem?_eq_none (by simp; omega)]
          · rintro ⟨b, x, p, hx, hp, he⟩
            obtain ⟨rfl, rfl⟩ := hget b x hx
            rw [show (ABlk.cells (T.setL (kv ss) 0 .leaf) ss.length 23 0 0).ep = 0 from rfl, ι8] at hp
            cases hp
            exact hne he.symm
      | _ => simp at hr
  · cases hr
end Ab.Mk
