/- Proves that each abstract operation answers as the model's operation does, for any program. -/
import Derived.Test.YtjhmgeegnilbpaaGreatDoorAb2
import Derived.Laws.AppendOwn
set_option linter.all false
namespace Ab
open Go
variable {P : Program} {ι : Emb} {h h' : AHeap} {w : World}

theorem EsR.get : ∀ {es : List (AVal × AVal)} {l : List MapEntry}, EsR ι es l → ∀ (i : Nat) (x : AVal × AVal), es[i]? = some x → ∃ e, l[i]? = some e ∧ VR ι x.1 e.key ∧ VR ι x.2 e.val
  | [], _, _, i, x, hx => by simp at hx
  | y :: es, l, hr, i, x, hx => by
    obtain ⟨e, l', e1, h1, h2, h3⟩ := hr.cons_inv
    subst e1
    cases i with
    | zero => simp at hx; subst hx; exact ⟨e, rfl, h1, h2⟩
    | succ i => simp at hx; obtain ⟨e', a, b⟩ := h3.get i x hx; exact ⟨e', by simpa using a, b⟩
theorem EsR.length : ∀ {es : List (AVal × AVal)} {l : List MapEntry}, EsR ι es l → es.length = l.length
  | [], _, hr => by have := hr.nil_inv; subst this; rfl
  | y :: es, l, hr => by obtain ⟨e, l', e1, h1, h2, h3⟩ := hr.cons_inv; subst e1; simp [h3.length]
theorem EsR.mk_cons {k v : AVal} {es : List (AVal × AVal)} {e : MapEntry} {l : List MapEntry} (h1 : VR ι k e.key) (h2 : VR ι v e.val) (h3 : EsR ι es l) : EsR ι ((k, v) :: es) (e :: l) := by
  simp only [EsR]; exact ⟨e, l, rfl, h1, h2, h3⟩
theorem EsR.nil : EsR ι [] [] := by simp [EsR]
theorem EsR.set : ∀ {es : List (AVal × AVal)} {l : List MapEntry}, EsR ι es l → ∀ (i : Nat) (k v : AVal) (f : MapEntry → MapEntry), (∀ e, l[i]? = some e → VR ι k (f e).key ∧ VR ι v (f e).val) → EsR ι (es.set i (k, v)) (l.modify i f)
  | [], _, hr, i, k, v, f, _ => by have := hr.nil_inv; subst this; simp [EsR]
  | y :: es, l, hr, i, k, v, f, hf => by
    obtain ⟨e, l', e1, h1, h2, h3⟩ := hr.cons_inv
    subst e1
    cases i with
    | zero =>
      obtain ⟨a, b⟩ := hf e rfl
      simp only [List.set_cons_zero, List.modify_zero_cons]
      exact EsR.mk_cons a b h3
    | succ i =>
      simp only [List.set_cons_succ, List.modify_succ_cons]
      obtain ⟨y1, y2⟩ := y
      exact EsR.mk_cons h1 h2 (h3.set i k v f fun e' he' => hf e' (by simpa using he'))
theorem EsR.snoc : ∀ {es : List (AVal × AVal)} {l : List MapEntry}, EsR ι es l → ∀ {k v : AVal} {e : MapEntry}, VR ι k e.key → VR ι v e.val → EsR ι (es ++ [(k, v)]) (l ++ [e])
  | [], _, hr, k, v, e, a, b => by have := hr.nil_inv; subst this; exact EsR.mk_cons a b EsR.nil
  | (y1, y2) :: es, l, hr, k, v, e, a, b => by
    obtain ⟨e', l', e1, h1, h2, h3⟩ := hr.cons_inv
    subst e1
    exact EsR.mk_cons h1 h2 (h3.snoc a b)
theorem EsR.erase : ∀ {es : List (AVal × AVal)} {l : List MapEntry}, EsR ι es l → ∀ (i : Nat), EsR ι (es.eraseIdx i) (l.eraseIdx i)
  | [], _, hr, i => by have := hr.nil_inv; subst this; simp [EsR]
  | (y1, y2) :: es, l, hr, i => by
    obtain ⟨e', l', e1, h1, h2, h3⟩ := hr.cons_inv
    subst e1
    cases i with
    | zero => simpa using h3
    | succ i => simp only [List.eraseIdx_cons_succ]; exact EsR.mk_cons h1 h2 (h3.erase i)

theorem mapKey_inv {t k e : TypeId} (hk : mapKey P t = some (k, e)) : P.underlying t = some (.map k e) := by
  unfold mapKey at hk
  split at hk
  · cases hk; assumption
  · cases hk

/-! plain values that are the same are the same bits -/
theorem same1_S {x y : AVal} {cx cy : Value} (hs : same1 x y = true) (hx : VR ι x cx) (hy : VR ι y cy) (n : Nat) : Instr.sameBits n cx cy = true := by
  unfold same1 at hs
  split at hs
  · have := hx.bool_inv; have := hy.bool_inv; subst_vars; simp [Instr.sameBits]; simpa using hs
  · have := hx.int_inv; have := hy.int_inv; subst_vars
    simp only [Bool.and_eq_true] at hs
    have := eqK_eq hs.1; subst this
    rw [eqI_eq] at hs
    have := hs.2
    simp at this; subst this
    simp [Instr.sameBits]
  · obtain ⟨a, e1, e2⟩ := hx.str_inv
    obtain ⟨b, e3, e4⟩ := hy.str_inv
    subst e1; subst e3
    rw [eqB_eq, ← e2, ← e4] at hs
    have : a.data = b.data := Array.ext' (by simpa using hs)
    have hab : a = b := by cases a; cases b; simp at this; simp [this]
    subst hab
    simp only [Instr.sameBits]
    show (a.data == a.data) = true
    simp
  · cases hs
theorem same1L_S : ∀ {x y : List AVal} {cx cy : List Value}, same1L x y = true → VRs ι x cx → VRs ι y cy → ∀ n, cx.length = cy.length ∧ ((cx.zip cy).all fun (a, b) => Instr.sameBits n a b) = true
  | [], y, cx, cy, hs, hx, hy, n => by
    cases y with
    | nil => rw [hx.nil_inv, hy.nil_inv]; exact ⟨rfl, rfl⟩
    | cons => simp [same1L] at hs
  | a :: x, y, cx, cy, hs, hx, hy, n => by
    cases y with
    | nil => simp [same1L] at hs
    | cons b y =>
      simp only [same1L, Bool.and_eq_true] at hs
      obtain ⟨u, us, e1, h1, h2⟩ := hx.cons_inv
      obtain ⟨v, vs, e2, h3, h4⟩ := hy.cons_inv
      subst e1; subst e2
      obtain ⟨i1, i2⟩ := same1L_S hs.2 h2 h4 n
      refine ⟨by simp [i1], ?_⟩
      rw [List.zip_cons_cons, List.all_cons, i2, Bool.and_true]
      exact same1_S hs.1 h1 h3 n
theorem sameK_S {x y : AVal} {cx cy : Value} (hs : sameK x y = true) (hx : VR ι x cx) (hy : VR ι y cy) (n : Nat) : Instr.sameBits (n+1) cx cy = true := by
  unfold sameK at hs
  split at hs
  · obtain ⟨a, e1, h1⟩ := hx.agg_inv
    obtain ⟨b, e2, h2⟩ := hy.agg_inv
    subst e1; subst e2
    obtain ⟨i1, i2⟩ := same1L_S hs h1 h2 n
    simp only [Instr.sameBits, Bool.and_eq_true, beq_iff_eq]
    exact ⟨by simpa using i1, i2⟩
  · exact same1_S hs hx hy _

theorem opLookup_S (s : St P ι h w) {t : TypeId} {x ix v : AVal} {ok : Bool} {cx cix : Value} (hx : VR ι x cx) (hix : VR ι ix cix) (ho : opLookup P h t x ix ok = .val v h') :
    ValV P ι h w v h' (Instr.lookup t cx cix ok) := by
  unfold opLookup at ho
  split at ho
  · cases ho
  · rename_i kt et hmk
    have hu := mapKey_inv hmk
    cases hk : keyTy P kt ix with
    | false => simp [hk] at ho
    | true =>
      simp only [hk, cond_true] at ho
      split at ho
      · cases ho
      · rename_i es hes
        -- the entries
        have hent : ∃ l : Array MapEntry, ((cx = .map none ∧ l = #[]) ∨ ∃ cb clock, cx = .map (some cb) ∧ w.heap[cb]? = some (.map l clock)) ∧ EsR ι es l.toList := by
          split at hes
          · cases hes
            simp only [VR] at hx; subst hx
            exact ⟨#[], .inl ⟨rfl, rfl⟩, EsR.nil⟩
          · rename_i r
            simp only [VR] at hx
            obtain ⟨p, hp, e⟩ := hx
            subst e
            split at hes
            · rename_i es' hg
              cases hes
              obtain ⟨q, hq, l, clock, h1, h2, hbn⟩ := s.blk _ _ hg
              simp only [ABlk.ep] at hq
              rw [hp] at hq; cases hq
              exact ⟨l, .inr ⟨_, _, rfl, h1⟩, h2⟩
            · cases hes
          · cases hes
        obtain ⟨l, hl1, hl2⟩ := hent
        have hck := checkKey_S (P := P) (w := w) (l.isEmpty) 9998 hk hix
        split at ho
        · rename_i i hf
          obtain ⟨fr, hf1, hf2⟩ := findKey_S s hk hix hl2 hf
          obtain ⟨_, e, he, hfr⟩ := hf2
          subst hfr
          split at ho
          · rename_i xe hxe
            obtain ⟨e', he', hv1, hv2⟩ := hl2.get i xe hxe
            simp only [Nat.sub_zero] at he
            rw [he] at he'; cases he'
            cases ho
            cases ok with
            | true =>
              refine .calm s (u := .tuple #[e.val, .bool true]) ?_ ?_
              · rcases hl1 with ⟨ec, el⟩ | ⟨cb, clock, ec, el⟩ <;> subst ec <;> (try subst el) <;> (try simp at hck hf1) <;> simp [*, Instr.lookup, Sem.run_bind, run_und w hu, Result.andThen, getObj, Sem.run, hck, hf1]
              · simp only [cond_true, VR]; exact ⟨_, rfl, VRs.cons hv2 (VRs.one (by simp [VR]))⟩
            | false =>
              refine .calm s (u := e.val) ?_ hv2
              rcases hl1 with ⟨ec, el⟩ | ⟨cb, clock, ec, el⟩ <;> subst ec <;> (try subst el) <;> (try simp at hck hf1) <;> simp [*, Instr.lookup, Sem.run_bind, run_und w hu, Result.andThen, getObj, Sem.run, hck, hf1]
          · cases ho
        · rename_i hf
          obtain ⟨fr, hf1, hf2⟩ := findKey_S s hk hix hl2 hf
          have hf2 : fr = none := hf2
          subst hf2
          split at ho
          · rename_i z hz
            obtain ⟨u, hu1, hu2, _⟩ := run_zero (P := P) w hz
            have hvz := ofValue_VR (ι := ι) hu2
            cases ho
            cases ok with
            | true =>
              refine .calm s (u := .tuple #[u, .bool false]) ?_ ?_
              · rcases hl1 with ⟨ec, el⟩ | ⟨cb, clock, ec, el⟩ <;> subst ec <;> (try subst el) <;> (try simp at hck hf1) <;> simp [*, Instr.lookup, Sem.run_bind, run_und w hu, Result.andThen, getObj, Sem.run, hck, hf1, hu1]
              · simp only [cond_true, VR]; exact ⟨_, rfl, VRs.cons hvz (VRs.one (by simp [VR]))⟩
            | false =>
              refine .calm s (u := u) ?_ hvz
              rcases hl1 with ⟨ec, el⟩ | ⟨cb, clock, ec, el⟩ <;> subst ec <;> (try subst el) <;> (try simp at hck hf1) <;> simp [*, Instr.lookup, Sem.run_bind, run_und w hu, Result.andThen, getObj, Sem.run, hck, hf1, hu1]
          · cases ho
        · cases ho

theorem run_setMap {cb : Nat} {l : Array MapEntry} {clock : Nat} {o : Obj} (hb : w.heap[cb]? = some (.map l clock)) : (setObj cb o).run P w = .ok () (World.putB w cb o) := by
  simp [setObj, Sem.run, hb, World.putB]
theorem run_getMap {cb : Nat} {l : Array MapEntry} {clock : Nat} (hb : w.heap[cb]? = some (.map l clock)) : (getObj cb).run P w = .ok (.map l clock) w := by
  simp [getObj, Sem.run, hb]

theorem Births.snoc {l : List MapEntry} {n : Nat} (h : Births l n) (k v : Value) : Births (l ++ [{ key := k, val := v, born := n }]) (n + 1) := by
  refine ⟨List.pairwise_append.2 ⟨h.1, by simp, fun a ha b hb => ?_⟩, fun e he => ?_⟩
  · rw [List.mem_singleton] at hb; subst hb; exact h.2 a ha
  · rcases List.mem_append.1 he with he | he
    · exact Nat.lt_succ_of_lt (h.2 e he)
    · rw [List.mem_singleton] at he; subst he; exact Nat.lt_succ_self n
theorem Births.sub {l l' : List MapEntry} {n : Nat} (h : Births l n) (hs : l'.Sublist l) : Births l' n := ⟨h.1.sublist hs, fun e he => h.2 e (hs.subset he)⟩
theorem Births.erase {l : List MapEntry} {n : Nat} (h : Births l n) (i : Nat) : Births (l.eraseIdx i) n := h.sub (List.eraseIdx_sublist l i)
theorem Births.of_map {l l' : List MapEntry} {n : Nat} (h : Births l n) (he : l'.map (·.born) = l.map (·.born)) : Births l' n := by
  refine ⟨?_, fun e hm => ?_⟩
  · have h1 : (l.map (·.born)).Pairwise (· < ·) := List.pairwise_map.2 h.1
    rw [← he] at h1
    exact List.pairwise_map.1 h1
  · have : e.born ∈ l'.map (·.born) := List.mem_map.2 ⟨e, hm, rfl⟩
    rw [he] at this
    obtain ⟨e', hm', hb⟩ := List.mem_map.1 this
    rw [← hb]; exact h.2 e' hm'
theorem Births.modify {l : List MapEntry} {n : Nat} (h : Births l n) (i : Nat) {k v : Value} : Births (l.modify i fun e => { e with key := k, val := v }) n := by
  refine h.of_map ?_
  apply List.ext_getElem?
  intro j
  simp only [List.getElem?_map, List.getElem?_modify]
  cases l[j]? with
  | none => rfl
  | some e => by_cases e' : i = j <;> simp [e']
theorem putMap_S (s : St P ι h w) {r : Nat} {es es' : List (AVal × AVal)} {p : Place} {l' : Array MapEntry} {clock' : Nat} (hg : h.t.get r = some (.map es)) (hp : ι r 0 = some p) (hr : EsR ι es' l'.toList) (hbn : Births l'.toList clock') :
    St P ι { next := h.next, t := h.t.set r (.map es') } (World.putB w p.cb (.map l' clock')) ∧ Fr h ι w { next := h.next, t := h.t.set r (.map es') } ι (World.putB w p.cb (.map l' clock')) := by
  obtain ⟨q, hq, hbr⟩ := s.blk _ _ hg
  simp only [ABlk.ep] at hq
  have hpq := hp
  rw [hq] at hpq; cases hpq
  exact s.put (x' := .map es') (o := .map l' clock') hg hq rfl rfl rfl rfl ⟨l', clock', putB_self hbr.lt, hr, hbn⟩

theorem opMapUpdate_S (s : St P ι h w) {t : TypeId} {m k v r : AVal} {cm ck cv : Value} (hm : VR ι m cm) (hk : VR ι k ck) (hv : VR ι v cv) (ho : opMapUpdate P h t m k v = .val r h') :
    r = undefA ∧ ValU P ι h w h' (Instr.mapUpdate t cm ck cv) := by
  unfold opMapUpdate at ho
  split at ho
  · rename_i kt et mr hmk
    have hu := mapKey_inv hmk
    simp only [VR] at hm
    obtain ⟨p, hp, e⟩ := hm
    subst e
    split at ho
    · rename_i es hg
      obtain ⟨q, hq, l, clock, h1, h2, hbn⟩ := s.blk _ _ hg
      simp only [ABlk.ep] at hq
      rw [hp] at hq; cases hq
      cases hkt : keyTy P kt k with
      | false => simp [hkt] at ho
      | true =>
        simp only [hkt, cond_true] at ho
        have hck := checkKey_S (P := P) (w := w) false 9998 hkt hk
        split at ho
        · rename_i i hf
          obtain ⟨fr, hf1, hf2⟩ := findKey_S s hkt hk h2 hf
          obtain ⟨_, e, he, hfr⟩ := hf2
          subst hfr
          simp only [Nat.sub_zero] at he
          split at ho
          · rename_i xe hxe
            obtain ⟨e', he', hv1, hv2⟩ := h2.get i xe hxe
            rw [he] at he'; cases he'
            cases hsk : sameK xe.1 k with
            | false => simp [hsk] at ho
            | true =>
              simp only [hsk, cond_true, Res.val.injEq] at ho
              obtain ⟨e1, e2⟩ := ho
              subst e1; subst e2
              refine ⟨rfl, ?_⟩
              have hbits : Instr.sameBits 10000 e.key ck = true := sameK_S hsk hv1 hk 9999
              have hei : l[i]? = some e := by simpa using he
              have hmod : EsR ι (es.set i (k, v)) (l.modify i fun e => { e with key := ck, val := cv }).toList := by
                rw [Array.toList_modify]
                exact h2.set i k v _ fun e' _ => ⟨hk, hv⟩
              obtain ⟨g1, g2⟩ := putMap_S (clock' := clock) s hg hp hmod (by rw [Array.toList_modify]; exact hbn.modify i)
              refine ⟨_, ι, ?_, g1, g2⟩
              simp only [Instr.mapUpdate, Sem.run_bind, run_und w hu, Result.andThen, run_getMap (P := P) h1, hck, hf1, hei, Option.map_some, Option.getD_some, Instr.keyThatStays, hbits, if_true, Sem.run_pure]
              exact run_setMap h1
          · cases ho
        · rename_i hf
          obtain ⟨fr, hf1, hf2⟩ := findKey_S s hkt hk h2 hf
          have hf2 : fr = none := hf2
          subst hf2
          cases ho
          refine ⟨rfl, ?_⟩
          have hmod : EsR ι (es ++ [(k, v)]) (l.push { key := ck, val := cv, born := clock }).toList := by
            rw [Array.toList_push]
            exact h2.snoc hk hv
          obtain ⟨g1, g2⟩ := putMap_S (clock' := clock + 1) s hg hp hmod (by rw [Array.toList_push]; exact hbn.snoc ck cv)
          refine ⟨_, ι, ?_, g1, g2⟩
          simp only [Instr.mapUpdate, Sem.run_bind, run_und w hu, Result.andThen, run_getMap (P := P) h1, hck, hf1]
          exact run_setMap h1
        · cases ho
    · cases ho
  · cases ho

theorem biDelete_S (s : St P ι h w) {t ty : TypeId} {ts : Array TypeId} {m k v : AVal} {cm ck : Value} (ht : ts.getD 0 0 = t) (hts : 0 < ts.size) (hm : VR ι m cm) (hk : VR ι k ck) (ho : biDelete P h t m k = .val v h') :
    ValV P ι h w v h' (Builtin.delete_ ts ty #[cm, ck]) := by
  have hts' : ts[0]? = some t := by rw [← ht]; simp [hts]
  unfold biDelete at ho
  split at ho
  · rename_i kt et mr hmk
    have hu := mapKey_inv hmk
    simp only [VR] at hm
    obtain ⟨p, hp, e⟩ := hm
    subst e
    split at ho
    · rename_i es hg
      obtain ⟨q, hq, l, clock, h1, h2, hbn⟩ := s.blk _ _ hg
      simp only [ABlk.ep] at hq
      rw [hp] at hq; cases hq
      cases hkt : keyTy P kt k with
      | false => simp [hkt] at ho
      | true =>
        simp only [hkt, cond_true] at ho
        have hck := checkKey_S (P := P) (w := w) l.isEmpty 9998 hkt hk
        split at ho
        · rename_i i hf
          obtain ⟨fr, hf1, hf2⟩ := findKey_S s hkt hk h2 hf
          obtain ⟨_, e, he, hfr⟩ := hf2
          subst hfr
          cases ho
          have hmod : EsR ι (es.eraseIdx i) (l.eraseIdxIfInBounds i).toList := by
            rw [Array.toList_eraseIdxIfInBounds]
            exact h2.erase i
          obtain ⟨g1, g2⟩ := putMap_S (clock' := clock) s hg hp hmod (by rw [Array.toList_eraseIdxIfInBounds]; exact hbn.erase i)
          refine ⟨_, .tuple #[], ι, ?_, by simp only [VR]; exact ⟨_, rfl, VRs.nil⟩, g1, g2⟩
          simp only [Builtin.delete_, hts', List.getElem?_toArray, Sem.run_bind, run_und w hu, Result.andThen, run_getMap (P := P) h1, hck, hf1]
          simp [run_und w hu, run_getMap (P := P) h1, hck, hf1, run_setMap (P := P) h1]
        · rename_i hf
          obtain ⟨fr, hf1, hf2⟩ := findKey_S s hkt hk h2 hf
          have hf2 : fr = none := hf2
          subst hf2
          cases ho
          obtain ⟨g1, g2⟩ := putMap_S (clock' := clock) s hg hp h2 hbn
          refine ⟨_, .tuple #[], ι, ?_, by simp only [VR]; exact ⟨_, rfl, VRs.nil⟩, g1, g2⟩
          simp only [Builtin.delete_, hts', List.getElem?_toArray, Sem.run_bind, run_und w hu, Result.andThen, run_getMap (P := P) h1, hck, hf1]
          simp [run_und w hu, run_getMap (P := P) h1, hck, hf1, run_setMap (P := P) h1]
        · cases ho
    · cases ho
  · cases ho
end Ab

namespace Ab
open Go
variable {P : Program} {ι : Emb} {h h' : AHeap} {w : World}

theorem repL_S {z : List AVal} {cz : List Value} (hz : VRs ι z cz) : ∀ (n : Nat), VRs ι (repL n z) (List.replicate n cz).flatten
  | 0 => by simpa [repL] using VRs.nil
  | n + 1 => by rw [repL, List.replicate_succ, List.flatten_cons]; exact hz.append (repL_S hz n)
theorem repl_get {cz : List Value} (hpos : 0 < cz.length) : ∀ (n i : Nat), i < n * cz.length → (List.replicate n cz).flatten[i]? = cz[i % cz.length]?
  | 0, i, hi => by omega
  | n + 1, i, hi => by
    rw [List.replicate_succ, List.flatten_cons]
    by_cases h : i < cz.length
    · rw [List.getElem?_append_left h, Nat.mod_eq_of_lt h]
    · have hi' : i - cz.length < n * cz.length := by rw [Nat.add_mul, Nat.one_mul] at hi; omega
      have hm : i % cz.length = (i - cz.length) % cz.length := Nat.mod_eq_sub_mod (by omega)
      rw [List.getElem?_append_right (by omega), repl_get hpos n _ hi', hm]
/-- 'zeros, one behind the other', as the machine lays them -/
theorem zeros_list (cz : Array Value) (n : Nat) : ((Array.range (n * cz.size)).map fun i => cz[i % cz.size]!).toList = (List.replicate n cz.toList).flatten := by
  apply List.ext_getElem?
  intro i
  by_cases hp : 0 < cz.size
  · by_cases hi : i < n * cz.size
    · rw [repl_get (by simpa using hp) n i (by simpa using hi)]
      have hm : i % cz.size < cz.size := Nat.mod_lt _ hp
      simp [hi, hm]
    · rw [List.getElem?_eq_none (by simp; omega), List.getElem?_eq_none (by simp; omega)]
  · have h0 : cz.size = 0 := by omega
    have : cz = #[] := Array.size_eq_zero_iff.1 h0
    subst this
    simp
theorem repL_length {z : List AVal} : ∀ n, (repL n z).length = n * z.length
  | 0 => by simp [repL]
  | n + 1 => by rw [repL, List.length_append, repL_length n, Nat.add_mul, Nat.one_mul]; omega
theorem allOne_append : ∀ {x y : List AVal}, allOne (x ++ y) = (allOne x && allOne y)
  | [], y => by simp [allOne]
  | a :: x, y => by simp [allOne, allOne_append (x := x) (y := y), Bool.and_assoc]

theorem opMakeMap_S (s : St P ι h w) {t : TypeId} {r : Option Operand} {ρ' : Operand → Value} {v : AVal} (ho : opMakeMap h r = .val v h') : ValV P ι h w v h' (Instr.makeMap t (r.map ρ')) := by
  unfold opMakeMap at ho
  split at ho
  · cases ho
    have hle : ι.le (ι.upd h.next 0 ⟨w.heap.size, 0⟩) := Emb.le_upd (s.none_fresh (Nat.le_refl _))
    have hn := s.new (x := .map []) (o := .map #[] 0) 0 rfl (w' := { w with heap := w.heap.push (.map #[] 0) }) rfl rfl rfl ⟨#[], 0, by simp, EsR.nil, Births.nil⟩
    refine ⟨_, .map (some w.heap.size), _, ?_, ?_, hn.1, hn.2⟩
    · simp [Instr.makeMap, newObj, Sem.run_bind, Sem.run, Result.andThen]
    · simp only [VR]; exact ⟨_, Emb.upd_self _ _ _ _, rfl⟩
  · cases ho

theorem opBuildSlice_S (s : St P ι h w) {ρ : Operand → AVal} {ρ' : Operand → Value} (hρ : ∀ x, VR ι (ρ x) (ρ' x)) {t : TypeId} {len : Nat} {ps : Array (Nat × Operand)} {v : AVal}
    (ho : opBuildSlice P ρ h t len ps.toList = .val v h') : ValV P ι h w v h' (Instr.buildSlice t len (ps.map fun (i, x) => (i, ρ' x))) := by
  unfold opBuildSlice at ho
  split at ho
  · rename_i e n hs
    obtain ⟨hu, hsz⟩ := tySlice_inv hs
    split at ho
    · rename_i z hz
      cases hb : (Nat.ble (len * n) 16777216 && Nat.beq z.cells.length n) with
      | false => simp [hb] at ho
      | true =>
        simp only [hb, cond_true] at ho
        simp only [Bool.and_eq_true, ble_iff, beq_iff] at hb
        obtain ⟨b1, b2⟩ := hb
        split at ho
        · rename_i cs hf
          cases hc : allOne cs with
          | false => simp [hc] at ho
          | true =>
            simp only [hc, cond_true, Res.val.injEq] at ho
            obtain ⟨e1, e2⟩ := ho
            subst e1; subst e2
            obtain ⟨u, hr, hov, _⟩ := run_zero (P := P) w hz
            have hzr := ofValue_cells (ι := ι) hov
            have hlz := hzr.length
            have hcz : u.cells.size = n := by simp at hlz; omega
            have hin : VRs ι (repL len z.cells) ((Array.range (len * n)).map fun i => u.cells[i % u.cells.size]!).toList := by
              rw [← hcz, zeros_list]; exact repL_S hzr len
            obtain ⟨cr, h1, h2⟩ := fill_S hρ (fun i => some (i * n, n)) ps.toList _ _ cs hin hf
            obtain ⟨w', ι', g1, g2, g3, g4⟩ := newRow_S s h2 e
            have hps : (ps.map fun (i, x) => (i, ρ' x)).toList = ps.toList.map fun (i, x) => (i, ρ' x) := by simp
            refine ⟨w', .slice (some ⟨w.heap.size, 0, none⟩) len len, ι', ?_, ?_, g3, g4⟩
            · unfold Instr.buildSlice
              simp only [Sem.run_bind, run_und w hu, Result.andThen, run_sizeOf w hsz]
              rw [if_neg (by omega)]
              by_cases h0 : len * n = 0
              · have : ((Array.range (len * n)).map fun i => u.cells[i % u.cells.size]!) = ((Array.range (len * n)).map fun i => (#[] : Array Value)[i % (#[] : Array Value).size]!) := by
                  rw [h0]; simp
                rw [this] at h1
                simp only [h0, if_true, Sem.run_pure, Sem.run_bind, Result.andThen]
                rw [h0] at h1
                rw [hps, h1]
                simp only [Sem.run_bind, g1, Result.andThen, Sem.run_pure]
              · simp only [h0, if_false, Sem.run_bind, hr, Result.andThen, Sem.run_pure]
                rw [hps, h1]
                simp only [Sem.run_bind, g1, Result.andThen, Sem.run_pure]
            · simp only [VR]
              exact ⟨_, _, _, g2, rfl, Nat.le_refl _, .inl rfl, fun _ => rfl, fun hh => absurd rfl hh⟩
        · cases ho
    · cases ho
  · cases ho

theorem wrap64_id {n : Nat} (hn : n < 9223372036854775808) : IntKind.i64.wrap (n : Int) = n := wrap_in .i64 _ (by show (n : Int) < ((9223372036854775808 : Nat) : Int); omega) (.inl (by omega))

theorem opMakeSlice_S (s : St P ι h w) {t : TypeId} {l c v : AVal} {cl cc : Value} (hl : VR ι l cl) (hc : VR ι c cc) (ho : opMakeSlice P h t l c = .val v h') : ValV P ι h w v h' (Instr.makeSlice t cl cc) := by
  unfold opMakeSlice at ho
  split at ho
  · rename_i e n kl l kc c hs
    obtain ⟨hu, hsz⟩ := tySlice_inv hs
    have := hl.int_inv; have := hc.int_inv; subst_vars
    cases hb : (Nat.ble l c && Nat.ble c 1048576) with
    | false => simp [hb] at ho
    | true =>
      simp only [hb, cond_true] at ho
      simp only [Bool.and_eq_true, ble_iff] at hb
      obtain ⟨b1, b2⟩ := hb
      split at ho
      · rename_i z i hz hi
        cases hall : (allOne z.cells && Nat.ble i.bytes 65536 && Nat.beq z.cells.length n) with
        | false => simp [hall] at ho
        | true =>
          simp only [hall, cond_true, Res.val.injEq] at ho
          obtain ⟨e1, e2⟩ := ho
          subst e1; subst e2
          simp only [Bool.and_eq_true, ble_iff, beq_iff] at hall
          obtain ⟨⟨a1, a2⟩, a3⟩ := hall
          obtain ⟨u, hr, hov, _⟩ := run_zero (P := P) w hz
          have hzr := ofValue_cells (ι := ι) hov
          have hlz := hzr.length
          have hcz : u.cells.size = n := by simp at hlz; omega
          have hin : VRs ι (repL c z.cells) ((Array.range (c * n)).map fun i => u.cells[i % u.cells.size]!).toList := by
            rw [← hcz, zeros_list]; exact repL_S hzr c
          obtain ⟨w', ι', g1, g2, g3, g4⟩ := newRow_S s hin e
          refine ⟨w', .slice (some ⟨w.heap.size, 0, none⟩) l c, ι', ?_, ?_, g3, g4⟩
          · have hmul : i.bytes * c ≤ 65536 * 1048576 := Nat.mul_le_mul a2 b2
            have hmul' : c * i.bytes ≤ 65536 * 1048576 := by rw [Nat.mul_comm]; exact hmul
            have hc1 : IntKind.i64.wrap (Int.ofNat c) = (c : Int) := wrap64_id (by omega)
            have hl1 : IntKind.i64.wrap (Int.ofNat l) = (l : Int) := wrap64_id (by omega)
            have t1 : ¬ ((c : Int) < 0 ∨ (i.bytes : Int) * (c : Int) > 2 ^ 48) := by
              have : ((i.bytes * c : Nat) : Int) = (i.bytes : Int) * (c : Int) := by simp
              omega
            have t2 : ¬ ((l : Int) < 0) := by omega
            have t3 : ¬ ((l : Int) > (c : Int)) := by omega
            simp only [Instr.makeSlice, Sem.run_bind, run_und w hu, Result.andThen, asInt, asIntOf, run_typeInfo w hi, Sem.run_pure, hc1, hl1]
            rw [if_neg (by simp only [Bool.or_eq_true, decide_eq_true_eq]; omega)]
            have hroom : ((askRoom (c * i.bytes)).run P w) = .ok () w := by
              unfold askRoom
              rw [if_neg (by simp [roomBytes]; omega)]
              simp
            simp only [Sem.run_bind, Result.andThen, Sem.run_pure, hroom, run_sizeOf w hsz, Int.toNat_natCast]
            by_cases h0 : c * n = 0
            · have : ((Array.range (c * n)).map fun i => u.cells[i % u.cells.size]!) = ((Array.range (c * n)).map fun i => (#[] : Array Value)[i % (#[] : Array Value).size]!) := by
                rw [h0]; simp
              rw [this] at g1
              simp only [h0, if_true, Sem.run_pure, Sem.run_bind, Result.andThen]
              rw [h0] at g1
              rw [g1]
            · simp only [h0, if_false, Sem.run_bind, hr, Result.andThen, Sem.run_pure, g1]
          · simp only [VR]
            exact ⟨_, _, _, g2, rfl, b1, .inl rfl, fun _ => rfl, fun hh => absurd rfl hh⟩
      · cases ho
  · cases ho

theorem opRange_S (s : St P ι h w) {t : TypeId} {x v : AVal} {cx : Value} (hx : VR ι x cx) (ho : opRange P h t x = .val v h') : ValV P ι h w v h' (Instr.range t cx) := by
  unfold opRange at ho
  split at ho
  · rename_i bs hu
    cases ho
    obtain ⟨ba, e, hb⟩ := hx.str_inv
    subst e
    have hn := s.new (x := .striter bs 0) (o := .stringIter ba 0) 0 rfl (w' := { w with heap := w.heap.push (.stringIter ba 0) }) rfl rfl rfl ⟨ba, by simp, hb⟩
    refine ⟨_, .pointer (some ⟨w.heap.size, 0, none⟩), _, ?_, ?_, hn.1, hn.2⟩
    · simp [Instr.range, newObj, Sem.run_bind, Sem.run, Result.andThen, run_und w hu]
    · simp only [VR]; exact ⟨_, Emb.upd_self _ _ _ _, rfl⟩
  · cases ho

theorem opNext_S (s : St P ι h w) {it v : AVal} {b : Bool} {t : TypeId} {cit : Value} (hx : VR ι it cit) (ho : opNext h it b = .val v h') : ValV P ι h w v h' (Instr.next cit b t) := by
  unfold opNext at ho
  split at ho
  · rename_i r
    obtain ⟨p, hp, e⟩ := hx.ptr_inv
    subst e
    split at ho
    · rename_i bs pos hg
      obtain ⟨q, hq, ba, h1, h2⟩ := s.blk _ _ hg
      simp only [ABlk.ep] at hq
      rw [hp] at hq; cases hq
      have hsz : ba.size = bs.length := by rw [← h2]; show ba.data.size = _; simp
      have hba : (⟨bs.toArray⟩ : ByteArray) = ba := by cases ba; simp at h2; subst h2; simp
      cases hb : Nat.blt pos bs.length with
      | false =>
        simp [hb] at ho
        obtain ⟨e1, e2⟩ := ho
        subst e1; subst e2
        have hlt : ¬ pos < ba.size := by rw [hsz]; intro hh; have := blt_iff.2 hh; rw [this] at hb; cases hb
        refine .calm s (u := .tuple #[.bool false]) ?_ (by simp only [VR]; exact ⟨_, rfl, VRs.one (by simp [VR])⟩)
        simp [Instr.next, getObj, Sem.run_bind, Sem.run, h1, Result.andThen, hlt]
      | true =>
        simp only [hb, cond_true] at ho
        have hlt : pos < ba.size := by rw [hsz]; exact blt_iff.1 hb
        rw [hba] at ho
        simp only [Res.val.injEq] at ho
        obtain ⟨e1, e2⟩ := ho
        subst e1; subst e2
        have hput := s.put (x' := .striter bs (pos + (Utf8.decode ba pos).2)) (o := .stringIter ba (pos + (Utf8.decode ba pos).2)) hg (by simpa [ABlk.ep] using hp) rfl (w' := World.putB w p.cb (.stringIter ba (pos + (Utf8.decode ba pos).2))) rfl rfl rfl
          ⟨ba, putB_self (Array.getElem?_eq_some_iff.1 h1).1, h2⟩
        refine ⟨_, .tuple #[.bool true, goInt pos, .int .i32 (Utf8.decode ba pos).1], ι, ?_, ?_, hput.1, hput.2⟩
        · simp [Instr.next, getObj, setObj, Sem.run_bind, Sem.run, h1, Result.andThen, hlt, World.putB]
        · simp only [VR]
          exact ⟨_, rfl, VRs.cons (by simp [VR]) (VRs.cons (by simp [VR, goInt]) (VRs.one (by simp [VR])))⟩
    · cases ho
  · cases ho

theorem makeFunc_S {fn : Fn} {first cap : Array Operand} {ρ : Operand → AVal} {ρ' : Operand → Value} (hρ : ∀ x, VR ι (ρ x) (ρ' x)) (hfn : ∀ l, fn ≠ .yield l) :
    VR ι (.func fn (first.toList.map ρ) (cap.toList.map ρ)) (.func fn (first.map ρ') (cap.map ρ')) := by
  simp only [VR]
  refine ⟨fn, _, _, rfl, ?_, ?_, ?_⟩
  · cases fn <;> first | rfl | exact absurd rfl (hfn _)
  · rw [Array.toList_map]; exact VRs.map ρ ρ' hρ _
  · rw [Array.toList_map]; exact VRs.map ρ ρ' hρ _
end Ab

namespace Ab
open Go
variable {P : Program} {ι : Emb} {h h' : AHeap} {w : World}

theorem biLen_S (s : St P ι h w) {t ty : TypeId} {ts : Array TypeId} {x v : AVal} {cx : Value} (hts : ts[0]? = some t) (hx : VR ι x cx) (ho : biLen P h t x = .val v h') :
    ValV P ι h w v h' (Builtin.len_ ts ty #[cx]) := by
  unfold biLen at ho
  split at ho
  · rename_i bs hu
    cases ho
    obtain ⟨ba, e, hb⟩ := hx.str_inv
    subst e
    have : ba.size = bs.length := by rw [← hb]; show ba.data.size = _; simp
    refine .calm s (u := goInt ba.size) ?_ (by simp [VR, goInt, this])
    simp [Builtin.len_, hts, Sem.run_bind, run_und w hu, Result.andThen]
  · rename_i a n c ex hu
    cases ho
    cases a with
    | none =>
      simp only [VR] at hx; subst hx
      refine .calm s (u := goInt n) ?_ (by simp [VR, goInt])
      simp [Builtin.len_, hts, Sem.run_bind, run_und w hu, Result.andThen]
    | some a =>
      simp only [VR] at hx
      obtain ⟨p, off, c', _, e, _⟩ := hx
      subst e
      refine .calm s (u := goInt n) ?_ (by simp [VR, goInt])
      simp [Builtin.len_, hts, Sem.run_bind, run_und w hu, Result.andThen]
  · rename_i hu
    cases ho
    simp only [VR] at hx; subst hx
    refine .calm s (u := goInt 0) ?_ (by simp [VR, goInt])
    simp [Builtin.len_, hts, Sem.run_bind, run_und w hu, Result.andThen]
  · rename_i r hu
    split at ho
    · rename_i es hg
      cases ho
      simp only [VR] at hx
      obtain ⟨p, hp, e⟩ := hx
      subst e
      obtain ⟨q, hq, l, clock, h1, h2⟩ := s.blk _ _ hg
      simp only [ABlk.ep] at hq
      rw [hp] at hq; cases hq
      have hl := h2.1.length
      refine .calm s (u := goInt l.size) ?_ (by simp [VR, goInt, hl])
      simp [Builtin.len_, hts, Sem.run_bind, run_und w hu, Result.andThen, run_getMap h1]
    · cases ho
  · rename_i n e hu
    cases ho
    refine .calm s (u := goInt n) ?_ (by simp [VR, goInt])
    simp [Builtin.len_, hts, Sem.run_bind, run_und w hu, Result.andThen]
  · cases ho

theorem biCap_S (s : St P ι h w) {t ty : TypeId} {ts : Array TypeId} {x v : AVal} {cx : Value} (hts : ts[0]? = some t) (hx : VR ι x cx) (ho : biCap P h t x = .val v h') :
    ValV P ι h w v h' (Builtin.cap_ ts ty #[cx]) := by
  unfold biCap at ho
  split at ho
  · rename_i a n c hu
    cases ho
    cases a with
    | none =>
      simp only [VR] at hx; subst hx
      refine .calm s (u := goInt c) ?_ (by simp [VR, goInt])
      simp [Builtin.cap_, hts, Sem.run_bind, run_und w hu, Result.andThen]
    | some a =>
      simp only [VR] at hx
      obtain ⟨p, off, c', _, e, _, _, h3, _⟩ := hx
      subst e
      have := h3 trivial
      subst this
      refine .calm s (u := goInt c') ?_ (by simp [VR, goInt])
      simp [Builtin.cap_, hts, Sem.run_bind, run_und w hu, Result.andThen]
  · cases ho

theorem ltI_iff {a b : Int} : ltI a b = true ↔ a < b := by rw [ltI_eq]; simp
theorem run_load0 (w : World) (a : Addr) : (loadCells a 0).run P w = .ok #[] w := by
  have := run_loadCells_list (P := P) w a [] (fun j v hv => by simp at hv)
  exact this

theorem mm_S {k : IntKind} (isMax : Bool) : ∀ (l : List AVal) (cl : List Value) (a : Int) (v : AVal), VRs ι l cl → mm isMax k a l = some v →
    ∃ u, (cl.foldlM (if isMax then Builtin.max2 else Builtin.min2) (Value.int k a)).run P w = .ok u w ∧ VR ι v u
  | [], cl, a, v, hl, ho => by
    have := hl.nil_inv; subst this
    simp [mm] at ho; subst ho
    exact ⟨.int k a, by simp [List.foldlM], by simp [VR]⟩
  | x :: l, cl, a, v, hl, ho => by
    obtain ⟨y, ys, e, h1, h2⟩ := hl.cons_inv
    subst e
    cases x with
    | int k' b =>
      have := h1.int_inv; subst this
      simp only [mm] at ho
      cases hk : eqK k k' with
      | false => simp [hk] at ho
      | true =>
        simp only [hk, cond_true] at ho
        cases isMax with
        | true =>
          simp only [cond_true] at ho
          obtain ⟨u, hu, hv⟩ := mm_S true l ys _ v h2 ho
          refine ⟨u, ?_, hv⟩
          simp only [if_true, List.foldlM_cons, Builtin.max2, Sem.run_bind, Sem.run_pure, Result.andThen]
          have e : (if b > a then b else a) = (bif ltI a b then b else a) := by
            cases hlt : ltI a b with
            | true => rw [if_pos (ltI_iff.1 hlt)]; rfl
            | false => rw [if_neg (fun hh => by rw [ltI_iff.2 hh] at hlt; exact absurd hlt (by decide))]; rfl
          rw [e]; exact hu
        | false =>
          simp only [cond_false] at ho
          obtain ⟨u, hu, hv⟩ := mm_S false l ys _ v h2 ho
          refine ⟨u, ?_, hv⟩
          simp only [Bool.false_eq_true, if_false, List.foldlM_cons, Builtin.min2, Sem.run_bind, Sem.run_pure, Result.andThen]
          have e : (if b < a then b else a) = (bif ltI b a then b else a) := by
            cases hlt : ltI b a with
            | true => rw [if_pos (ltI_iff.1 hlt)]; rfl
            | false => rw [if_neg (fun hh => by rw [ltI_iff.2 hh] at hlt; exact absurd hlt (by decide))]; rfl
          rw [e]; exact hu
    | _ => simp [mm] at ho
theorem mm0_S (s : St P ι h w) (isMax : Bool) {ty : TypeId} {ts : Array TypeId} {l : List AVal} {cl : Array Value} {v : AVal} (hl : VRs ι l cl.toList) (ho : Res.ofO (mm0 isMax l) h = .val v h') :
    ValV P ι h w v h' (if isMax then Builtin.max_ ts ty cl else Builtin.min_ ts ty cl) := by
  cases hm : mm0 isMax l with
  | none => simp [hm, Res.ofO] at ho
  | some x =>
    simp [hm, Res.ofO] at ho
    obtain ⟨e1, e2⟩ := ho
    subst e1; subst e2
    cases l with
    | nil => simp [mm0] at hm
    | cons y l =>
      obtain ⟨cy, cl', e, h1, h2⟩ := hl.cons_inv
      cases y with
      | int k a =>
        have := h1.int_inv; subst this
        simp only [mm0] at hm
        obtain ⟨u, hu, hv⟩ := mm_S (P := P) (w := w) isMax l cl' a _ h2 hm
        refine .calm s ?_ hv
        cases isMax <;> simpa [Builtin.max_, Builtin.min_, e] using hu
      | _ => simp [mm0] at hm

/-! slices' and strings' cells -/
theorem lenA_S {x : AVal} {cx : Value} {n : Nat} (hx : VR ι x cx) (hl : lenA x = some n) : (Builtin.lenOf cx).run P w = .ok n w := by
  cases x with
  | slice a m c ex =>
    simp [lenA] at hl; subst hl
    cases a with
    | none => simp only [VR] at hx; subst hx; simp [Builtin.lenOf]
    | some a => simp only [VR] at hx; obtain ⟨p, off, c', _, e, _⟩ := hx; subst e; simp [Builtin.lenOf]
  | str bs =>
    simp [lenA] at hl; subst hl
    obtain ⟨ba, e, hb⟩ := hx.str_inv
    subst e
    have : ba.size = bs.length := by rw [← hb]; show ba.data.size = _; simp
    simp [Builtin.lenOf, this]
  | _ => simp [lenA] at hl

theorem bytesV_S (l : List UInt8) : VRs ι (bytesV l) (l.map fun b => Value.int .u8 b.toNat) := by
  induction l with
  | nil => exact VRs.nil
  | cons b l ih => exact VRs.cons (by simp [VR]) ih

theorem firstA_S (s : St P ι h w) {x : AVal} {cx : Value} {size n : Nat} {vs : List AVal} (hx : VR ι x cx) (hn : ∀ a l c ex, x = .slice (some a) l c ex → n ≠ 0 → n ≤ l) (hl : firstA h size n x = some vs) :
    ∃ us : Array Value, (Builtin.firstCells size n cx).run P w = .ok us w ∧ VRs ι vs us.toList := by
  cases x with
  | slice a m c ex =>
    cases a with
    | none =>
      simp [firstA] at hl; subst hl
      simp only [VR] at hx; subst hx
      exact ⟨#[], by simp [Builtin.firstCells], VRs.nil⟩
    | some a =>
      simp only [VR] at hx
      obtain ⟨p, off, c', hp, e, h1, h2, _⟩ := hx
      subst e
      simp only [firstA] at hl
      cases h0 : Nat.beq (n * size) 0 with
      | true =>
        simp only [h0, cond_true, Option.some.injEq] at hl
        subst hl
        refine ⟨#[], ?_, VRs.nil⟩
        rw [beq_iff] at h0
        simp [Builtin.firstCells, h0, run_load0]
      | false =>
        simp only [h0, cond_false] at hl
        obtain ⟨us, e1, e2, _⟩ := loadN_S s hp hl
        have hnm : n ≠ 0 := fun e => by rw [e, Nat.zero_mul] at h0; cases h0
        have := hn a m c ex rfl hnm
        rcases h2 with h2 | h2
        · subst h2; exact ⟨us, by simpa [Builtin.firstCells] using e1, e2⟩
        · omega
  | str bs =>
    simp [firstA] at hl; subst hl
    obtain ⟨ba, e, hb⟩ := hx.str_inv
    subst e
    refine ⟨(ba.extract 0 n).data.map fun b => Value.int .u8 b.toNat, by simp only [Builtin.firstCells, Sem.run_pure], ?_⟩
    have := bytesV_S (ι := ι) (bs.take n)
    have e : ((ba.extract 0 n).data.map fun b => Value.int .u8 b.toNat).toList = (bs.take n).map fun b => Value.int .u8 b.toNat := by
      rw [Array.toList_map, ← hb]
      congr 1
      simp [ByteArray.data_extract, List.extract_eq_take_drop]
    rw [e]; exact this
  | _ => simp [firstA] at hl

theorem biCopy_S (s : St P ι h w) {t ty : TypeId} {ts : Array TypeId} {d x v : AVal} {cd cx : Value} (hts : ts[0]? = some t) (hd : VR ι d cd) (hx : VR ι x cx) (ho : biCopy P h t d x = .val v h') :
    ValV P ι h w v h' (Builtin.copy_ ts ty #[cd, cx]) := by
  unfold biCopy at ho
  split at ho
  · rename_i e size base dLen c ex sl hs hl
    obtain ⟨hu, hsz⟩ := tySlice_inv hs
    have hlen := lenA_S (P := P) (w := w) hx hl
    have hin : ∀ a l c ex, x = .slice (some a) l c ex → Nat.min sl dLen ≠ 0 → Nat.min sl dLen ≤ l := by
      intro a l c ex e _
      subst e
      simp [lenA] at hl
      subst hl
      exact Nat.min_le_left _ _
    have hcd : ∃ ca cc, cd = .slice ca dLen cc ∧ (base = none → ca = none) ∧ (∀ a, base = some a → ∃ p off, ι a.block a.epoch = some p ∧ ca = some ⟨p.cb, off, none⟩ ∧ dLen ≤ cc ∧ (off = a.off ∨ cc = 0)) := by
      cases base with
      | none => simp only [VR] at hd; exact ⟨none, c, hd, fun _ => rfl, fun a h => by cases h⟩
      | some a =>
        simp only [VR] at hd
        obtain ⟨p, off, c', hp, e, h1, h2, _⟩ := hd
        exact ⟨_, c', e, ⟨fun h => (by cases h), fun a' h => (by cases h; exact ⟨p, off, hp, rfl, h1, h2⟩)⟩⟩
    obtain ⟨ca, cc, e, hn, hsome⟩ := hcd
    subst e
    cases h0 : Nat.beq (Nat.min sl dLen) 0 with
    | true =>
      simp only [h0, cond_true, Res.val.injEq] at ho
      obtain ⟨e1, e2⟩ := ho
      subst e1; subst e2
      rw [beq_iff] at h0
      have hf : (Builtin.firstCells size 0 cx).run P w = .ok #[] w := by
        cases x with
        | slice a m c ex =>
          cases a with
          | none => simp only [VR] at hx; subst hx; simp [Builtin.firstCells]
          | some a => simp only [VR] at hx; obtain ⟨p, off, c', hp, e, _⟩ := hx; subst e; simp [Builtin.firstCells, run_load0]
        | str bs => obtain ⟨ba, e, hb⟩ := hx.str_inv; subst e; simp [Builtin.firstCells]
        | _ => simp [lenA] at hl
      refine .calm s (u := goInt (Nat.min sl dLen)) ?_ (by simp [VR, goInt])
      cases ca with
      | none => simp [Builtin.copy_, hts, Sem.run_bind, run_und w hu, Result.andThen, hlen, run_sizeOf w hsz, h0, hf]
      | some a => simp [Builtin.copy_, hts, Sem.run_bind, run_und w hu, Result.andThen, hlen, run_sizeOf w hsz, h0, hf, storeCells]
    | false =>
      simp only [h0, cond_false] at ho
      split at ho
      · rename_i a cs hf
        split at ho
        · rename_i h1 hst
          simp only [Res.val.injEq] at ho
          obtain ⟨e1, e2⟩ := ho
          subst e1; subst e2
          obtain ⟨p, off, hp, ec, g1, g2⟩ := hsome a rfl
          subst ec
          obtain ⟨us, r1, r2⟩ := firstA_S s hx hin hf
          obtain ⟨w', r3, r4, r5⟩ := storeN_S s hp r2 hst
          have hoff : off = a.off := by
            rcases g2 with g2 | g2
            · exact g2
            · exfalso
              have : Nat.min sl dLen ≤ dLen := Nat.min_le_right _ _
              have : Nat.min sl dLen = 0 := by omega
              rw [this] at h0; cases h0
          subst hoff
          refine ⟨w', goInt (Nat.min sl dLen), ι, ?_, by simp [VR, goInt], r4, r5⟩
          simp [Builtin.copy_, hts, Sem.run_bind, run_und w hu, Result.andThen, hlen, run_sizeOf w hsz, r1, r3]
        · cases ho
      · cases ho
  · cases ho

theorem biClear_S (s : St P ι h w) {t ty : TypeId} {ts : Array TypeId} {x v : AVal} {cx : Value} (hts : ts[0]? = some t) (hx : VR ι x cx) (ho : biClear P h t x = .val v h') :
    ValV P ι h w v h' (Builtin.clear_ ts ty #[cx]) := by
  unfold biClear at ho
  split at ho
  · rename_i e sz a n c ex hs
    obtain ⟨hu, hsz⟩ := tySlice_inv hs
    split at ho
    · rename_i z hz
      split at ho
      · rename_i h1 hst
        simp only [Res.val.injEq] at ho
        obtain ⟨e1, e2⟩ := ho
        subst e1; subst e2
        simp only [VR] at hx
        obtain ⟨p, off, c', hp, e', g1, g2, _⟩ := hx
        subst e'
        have hoff : off = a.off := by rcases g2 with g2 | g2 <;> omega
        subst hoff
        obtain ⟨u, hr, hov, _⟩ := run_zero (P := P) w hz
        have hzr := repL_S (ofValue_cells (ι := ι) hov) (n + 1)
        rw [← zeros_list] at hzr
        obtain ⟨w', r3, r4, r5⟩ := storeN_S s hp hzr hst
        refine ⟨w', .tuple #[], ι, ?_, by simp only [VR]; exact ⟨#[], rfl, VRs.nil⟩, r4, r5⟩
        have e0 : Builtin.zeroCells u.cells (n + 1) = (Array.range ((n + 1) * u.cells.size)).map fun i => u.cells[i % u.cells.size]! := rfl
        simp only [Builtin.clear_, hts, List.getElem?_toArray, List.getElem?_cons_zero, Sem.run_bind, run_und w hu, Result.andThen, hr, e0, r3, Sem.run_pure]
      · cases ho
    · cases ho
  · rename_i e' a c ex hs
    obtain ⟨hu, _⟩ := tySlice_inv (e := e'.1) (n := e'.2) hs
    simp only [Res.val.injEq] at ho
    obtain ⟨e1, e2⟩ := ho
    subst e1; subst e2
    refine .calm s (u := .tuple #[]) ?_ (by simp only [VR]; exact ⟨#[], rfl, VRs.nil⟩)
    cases a with
    | none => simp only [VR] at hx; subst hx; simp [Builtin.clear_, hts, Sem.run_bind, run_und w hu, Result.andThen]
    | some a => simp only [VR] at hx; obtain ⟨p, off, c', _, e1, _⟩ := hx; subst e1; simp [Builtin.clear_, hts, Sem.run_bind, run_und w hu, Result.andThen]
  · cases ho
end Ab

namespace Ab
open Go
variable {P : Program} {ι : Emb} {h h' : AHeap} {w : World}

theorem run_und' {t : TypeId} {d : TypeDesc} (hu : P.underlying t = some d) (w : World) : (underlying t).run P w = .ok d w := run_und w hu

/-- what is appended: numbers of zeros, or a slice's or a string's cells -/
def NewR (P : Program) (e : TypeId) (size n : Nat) (zeros : Bool) (cx : Value) (us : Array Value) (w : World) : Prop :=
  if zeros then (∃ k, cx = .int k (n : Int) ∧ n ≤ 1048576 ∧ ∃ z, (∀ w, (zeroValue e).run P w = .ok z w) ∧ us = Builtin.zeroCells z.cells n)
  else (Builtin.lenOf cx).run P w = .ok n w ∧ (Builtin.firstCells size n cx).run P w = .ok us w

theorem append_fits {ts : Array TypeId} {t ty e : TypeId} {size n : Nat} {zeros : Bool} {base : Option Addr} {sLen sCap : Nat} {cx : Value} {us : Array Value}
    (hts : ts[0]? = some t) (hu : P.underlying t = some (.slice e)) (hsz : tySize P e = some size) (hz : isIntTy P ts[1]? = some zeros) (hpos : 0 < size)
    {i : TypeInfo} (hi : P.info? e = some i) (hroom : n * i.bytes ≤ 1073741824)
    (hn : NewR P e size n zeros cx us w) (hfit : sLen + n ≤ sCap) :
    (Builtin.append_ ts ty #[.slice base sLen sCap, cx]).run P w = (match base with
      | some a => (do storeCells (a.add (sLen * size)) us.toList; pure (Value.slice (some a) (sLen + n) sCap) : Sem Value)
      | none => pure (.slice none (sLen + n) sCap)).run P w := by
  cases zeros with
  | false =>
    simp only [NewR, Bool.false_eq_true, if_false] at hn
    obtain ⟨h1, h2⟩ := hn
    cases ht1 : ts[1]? with
    | none =>
      cases base <;> simp [Builtin.append_, hts, ht1, Sem.run_bind, run_und w hu, Result.andThen, run_sizeOf w hsz, h1, h2, hfit]
    | some t1 =>
      rw [ht1] at hz
      simp only [isIntTy] at hz
      split at hz
      · cases hz
      · rename_i d hd hu1
        have hm : ∀ {α : Type} (x y : α), (match d with | .int _ => x | _ => y) = y := by
          intro α x y
          cases d <;> first | rfl | exact absurd rfl (hd _)
        cases base <;> simp [Builtin.append_, hts, ht1, Sem.run_bind, run_und w hu, run_und w hu1, hm, Result.andThen, run_sizeOf w hsz, h1, h2, hfit]
      · cases hz
  | true =>
    simp only [NewR, if_true] at hn
    obtain ⟨k, e1, h1, z, h2, h3⟩ := hn
    subst e1
    cases ht1 : ts[1]? with
    | none => rw [ht1] at hz; simp [isIntTy] at hz
    | some t1 =>
      rw [ht1] at hz
      simp only [isIntTy] at hz
      split at hz
      · rename_i k1 hu1
        have hw : IntKind.i64.wrap (n : Int) = n := wrap64_id (by omega)
        have hlt : ¬ ((n : Int) < 0) := by omega
        have hmul : ¬ ((2:Int)^48 < (n : Int) * (i.bytes : Int)) := by
          have : ((n * i.bytes : Nat) : Int) = (n : Int) * (i.bytes : Int) := by simp
          omega
        have hmul' : ¬ ((281474976710656:Int) < (n : Int) * (i.bytes : Int)) := by simpa using hmul
        by_cases h0 : n = 0
        · subst h0
          have hus : us = #[] := by rw [h3]; simp [Builtin.zeroCells]
          subst hus
          have hw0 : IntKind.i64.wrap 0 = 0 := by decide
          simp at hfit
          cases base <;> simp [Builtin.append_, hts, ht1, Sem.run_bind, run_und w hu, run_und w hu1, Result.andThen, run_sizeOf w hsz, asInt, asIntOf, hw0, run_typeInfo w hi, hfit]
        · have h0' : ¬ (n * size = 0) := by
            intro hh
            rcases Nat.mul_eq_zero.1 hh with h | h <;> omega
          have hs0 : ¬ size = 0 := by omega
          cases base <;> simp [Builtin.append_, hts, ht1, Sem.run_bind, run_und w hu, run_und w hu1, Result.andThen, run_sizeOf w hsz, asInt, asIntOf, hw, hlt, run_typeInfo w hi, hmul', hfit, h0', h2, h3]
      · cases hz
      · cases hz

theorem append_grows {ts : Array TypeId} {t ty e : TypeId} {size n : Nat} {zeros : Bool} {base : Option Addr} {sLen sCap : Nat} {cx : Value} {us old : Array Value} {z : Value}
    (hts : ts[0]? = some t) (hu : P.underlying t = some (.slice e)) (hsz : tySize P e = some size) (hz : isIntTy P ts[1]? = some zeros) (hpos : 0 < size)
    {i : TypeInfo} (hi : P.info? e = some i) (hb : 0 < i.bytes) (hroom : (sLen + n) * i.bytes ≤ 1073741824) (hzero : ∀ w, (zeroValue e).run P w = .ok z w)
    (hl : zeros = false → (Builtin.lenOf cx).run P w = .ok n w) (hn' : NewR P e size n zeros cx us w.drew) (hold : (Builtin.firstCells size sLen (.slice base sLen sCap)).run P w.drew = .ok old w.drew) (hfit : ¬ sLen + n ≤ sCap) :
    (Builtin.append_ ts ty #[.slice base sLen sCap, cx]).run P w =
      .ok (.slice (some ⟨w.heap.size, 0, none⟩) (sLen + n) (grownCap w (sLen + n) sCap e)) { w.drew with heap := w.heap.push (.cells (old ++ us ++ Builtin.zeroCells z.cells (grownCap w (sLen + n) sCap e - (sLen + n))) e) } := by
  have hneed : sLen + n ≤ 1073741824 := Nat.le_trans (Nat.le_mul_of_pos_right _ hb) hroom
  have h63 : ¬ (9223372036854775807 < ((sLen : Int) + (n : Int))) := by omega
  have h48 : ¬ (281474976710656 < Builtin.nextslicecap (sLen + n) sCap * i.bytes) := by
    have := growslice_fits (need := sLen + n) (old := sCap) (bytes := i.bytes) (by omega) (by omega)
    omega
  cases zeros with
  | false =>
    simp only [NewR, Bool.false_eq_true, if_false] at hn'
    have h1 := hl rfl
    obtain ⟨h1', h2'⟩ := hn'
    cases ht1 : ts[1]? with
    | none =>
      simp [Builtin.append_, hts, ht1, Sem.run_bind, run_und w hu, Result.andThen, run_sizeOf w hsz, h1, h2', hold, hfit, run_typeInfo _ hi, h63, h48, Question.forced, hzero, run_newRow, grownCap, show w.drew.heap = w.heap from rfl]
    | some t1 =>
      rw [ht1] at hz
      simp only [isIntTy] at hz
      split at hz
      · cases hz
      · rename_i d hd hu1
        have hm : ∀ {α : Type} (x y : α), (match d with | .int _ => x | _ => y) = y := by
          intro α x y
          cases d <;> first | rfl | exact absurd rfl (hd _)
        simp [Builtin.append_, hts, ht1, Sem.run_bind, run_und w hu, run_und w hu1, hm, Result.andThen, run_sizeOf w hsz, h1, h2', hold, hfit, run_typeInfo _ hi, h63, h48, Question.forced, hzero, run_newRow, grownCap, show w.drew.heap = w.heap from rfl]
      · cases hz
  | true =>
    simp only [NewR, if_true] at hn'
    obtain ⟨k, e1, h1, z', h2, h3⟩ := hn'
    subst e1
    have hzz : z' = z := by have a := h2 w; rw [hzero w] at a; cases a; rfl
    subst hzz
    cases ht1 : ts[1]? with
    | none => rw [ht1] at hz; simp [isIntTy] at hz
    | some t1 =>
      rw [ht1] at hz
      simp only [isIntTy] at hz
      split at hz
      · rename_i k1 hu1
        have hw : IntKind.i64.wrap (n : Int) = n := wrap64_id (by omega)
        have hlt : ¬ ((n : Int) < 0) := by omega
        have hnb : n * i.bytes ≤ 1073741824 := Nat.le_trans (Nat.mul_le_mul_right _ (by omega)) hroom
        have hmul' : ¬ ((281474976710656:Int) < (n : Int) * (i.bytes : Int)) := by
          have : ((n * i.bytes : Nat) : Int) = (n : Int) * (i.bytes : Int) := by simp
          omega
        by_cases h0 : n = 0
        · subst h0
          have hus : us = #[] := by rw [h3]; simp [Builtin.zeroCells]
          subst hus
          have hw0 : IntKind.i64.wrap 0 = 0 := by decide
          simp only [Nat.add_zero, Int.natCast_zero, Int.add_zero] at hfit h48 h63
          have h63 : ¬ (9223372036854775807 < (sLen : Int)) := by omega
          simp [Builtin.append_, hts, ht1, Sem.run_bind, run_und w hu, run_und w hu1, Result.andThen, run_sizeOf w hsz, asInt, asIntOf, hw0, run_typeInfo _ hi, hfit, hold, h63, h48, Question.forced, hzero, run_newRow, grownCap, show w.drew.heap = w.heap from rfl]
        · have h0' : ¬ (n * size = 0) := by
            intro hh
            rcases Nat.mul_eq_zero.1 hh with h | h <;> omega
          simp [Builtin.append_, hts, ht1, Sem.run_bind, run_und w hu, run_und w hu1, Result.andThen, run_sizeOf w hsz, asInt, asIntOf, hw, hlt, run_typeInfo _ hi, hmul', hfit, h0', h2, h3, hold, h63, h48, Question.forced, hzero, run_newRow, grownCap, show w.drew.heap = w.heap from rfl]
      · cases hz
      · cases hz

theorem run_zero_all {t : TypeId} {z : AVal} (hz : tyZero P t = some z) : ∃ u, (∀ w, (zeroValue t).run P w = .ok u w) ∧ ofValue u = some z := by
  unfold tyZero at hz
  cases hi : P.info? t with
  | none => simp [hi] at hz
  | some i =>
    cases hv : i.zero with
    | none => simp [hi, hv] at hz
    | some u =>
      simp [hi, hv] at hz
      exact ⟨u, fun w => by simp [zeroValue, Sem.run_bind, run_typeInfo w hi, Result.andThen, hv, pure], hz⟩

theorem appNew_S (s : St P ι h w) {zeros : Bool} {x : AVal} {cx : Value} {e : TypeId} {size n : Nat} {new : List AVal} (hn : appNew P h e size zeros x = some (n, new)) (hx : VR ι x cx) :
    ∃ us : Array Value, NewR P e size n zeros cx us w ∧ VRs ι new us.toList := by
  unfold appNew at hn
  cases zeros with
  | true =>
    simp only [cond_true] at hn
    split at hn
    · rename_i k m
      split at hn
      · rename_i z hz
        cases hb : Nat.ble m 1048576 with
        | false => simp [hb] at hn
        | true =>
          simp only [hb, cond_true, Option.some.injEq, Prod.mk.injEq] at hn
          obtain ⟨e1, e2⟩ := hn
          subst e1; subst e2
          have := hx.int_inv; subst this
          obtain ⟨u, hr, hov⟩ := run_zero_all (P := P) hz
          have hzr := repL_S (ofValue_cells (ι := ι) hov) m
          rw [← zeros_list] at hzr
          exact ⟨_, by simp only [NewR, if_true]; exact ⟨k, rfl, ble_iff.1 hb, u, hr, rfl⟩, hzr⟩
      · cases hn
    · cases hn
  | false =>
    simp only [cond_false] at hn
    split at hn
    · rename_i m hl
      cases hf : firstA h size m x with
      | none => simp [hf] at hn
      | some l =>
        simp only [hf, Option.map_some, Option.some.injEq, Prod.mk.injEq] at hn
        obtain ⟨e1, e2⟩ := hn
        subst e1; subst e2
        obtain ⟨us, r1, r2⟩ := firstA_S s hx (fun a l c ex e _ => by subst e; simp [lenA] at hl; omega) hf
        exact ⟨us, by simp only [NewR, Bool.false_eq_true, if_false]; exact ⟨lenA_S hx hl, r1⟩, r2⟩
    · cases hn

theorem slice_conc {base : Option AAddr} {l c ex : Nat} {cs : Value} (hs : VR ι (.slice base l c ex) cs) : ∃ ca cc, cs = .slice ca l cc ∧ (base = none → ca = none ∧ cc = c) ∧
    (∀ a, base = some a → ∃ p off, ι a.block a.epoch = some p ∧ ca = some ⟨p.cb, off, none⟩ ∧ l ≤ cc ∧ (off = a.off ∨ cc = 0) ∧ (ex = 0 → cc = c) ∧ (ex ≠ 0 → c ≤ cc ∧ off + cc * ex ≤ p.n)) := by
  cases base with
  | none => simp only [VR] at hs; exact ⟨none, c, hs, ⟨fun _ => ⟨rfl, rfl⟩, fun a h => (by cases h)⟩⟩
  | some a =>
    simp only [VR] at hs
    obtain ⟨p, off, c', hp, e, h1, h2, h3, h4⟩ := hs
    exact ⟨_, c', e, ⟨fun h => (by cases h), fun a' h => (by cases h; exact ⟨p, off, hp, rfl, h1, h2, fun hh => h3 hh, fun hh => h4 hh⟩)⟩⟩

theorem allOne_oneC {vs : List AVal} {us : List Value} (hv : VRs ι vs us) (ha : allOne vs = true) : ∀ u ∈ us, oneC u = true := by
  intro u hu
  obtain ⟨i, hi, he⟩ := List.getElem_of_mem hu
  have hlen := hv.length
  have hi' : i < vs.length := by omega
  obtain ⟨u', hu', hr⟩ := hv.get i vs[i] (by simp [hi'])
  have : u' = u := by
    have : us[i]? = some u := by simp [hi, he]
    rw [this] at hu'; exact (Option.some.inj hu').symm
  subst this
  exact hr.oneCl (allOne_mem ha _ (List.getElem_mem hi'))

/-- an append that may stay or move: the block turns over to its next epoch -/
theorem extend_S (s : St P ι h w) {b ep sz fz sz' : Nat} {e : TypeId} {c : T AVal} {new : List AVal} {us : Array Value} {p : Place} (hg : h.t.get b = some (.cells c sz e ep fz)) (hp : ι b ep = some p)
    (hv : VRs ι new us.toList) (hone : allOne new = true) (hfz : fz ≤ 1) (hsz' : sz' = sz + new.length) (hn : sz' ≤ p.n) :
    ∃ w' ι', (storeCells ⟨p.cb, sz, none⟩ us.toList).run P w = .ok () w' ∧ ι' b (ep + 1) = some p ∧
      St P ι' { next := h.next, t := h.t.set b (.cells (T.setL new sz c) sz' e (ep + 1) fz) } w' ∧ Fr h ι w { next := h.next, t := h.t.set b (.cells (T.setL new sz c) sz' e (ep + 1) fz) } ι' w' := by
  subst hsz'
  obtain ⟨q, hq, arr, z, e1, e2, e3, e5, e6⟩ := s.blk _ _ hg
  have hq' := hq
  simp only [ABlk.ep] at hq
  rw [hp] at hq; cases hq
  have hlen := hv.length
  have hz : ∀ j, j < arr.size → ¬ (z.1 ≤ j ∧ j < z.2) := by
    intro j hj
    match fz, hfz, e6 with
    | 0, _, e6 => simp only [fzOk] at e6; rw [e6]; simp
    | 1, _, e6 => simp only [fzOk] at e6; exact e6 j (by omega)
  have hrun := run_storeN (P := P) e z p.cb sz us.toList 0 w arr e1 (by omega) hz (allOne_oneC hv hone)
  simp only [Nat.add_zero] at hrun
  have hnone : ι b (ep + 1) = none := by
    cases hh : ι b (ep + 1) with
    | none => rfl
    | some r => have := s.eps _ _ _ _ hg hh; simp only [ABlk.ep] at this; omega
  have hle : ι.le (ι.upd b (ep + 1) p) := Emb.le_upd hnone
  have hlt := (Array.getElem?_eq_some_iff.1 e1).1
  have ht := s.turn (ι' := ι.upd b (ep + 1) p) (x' := .cells (T.setL new sz c) (sz + new.length) e (ep + 1) fz) (p' := p) (w' := World.putB w p.cb (.cells (over arr.toList sz us.toList).toArray e z)) hg hq' hle
    (fun c' e' q hq => by
      by_cases hh : c' = b ∧ e' = ep + 1
      · exact .inr ⟨hh.1, by simp only [ABlk.ep]; omega⟩
      · rw [Emb.upd_ne _ _ hh] at hq; exact .inl hq)
    (by simp only [ABlk.ep]; omega) (Emb.upd_self _ _ _ _) (.inl rfl) (by simp [World.putB]) (fun cb _ hne => putB_ne hne) rfl rfl (by
      refine ⟨(over arr.toList sz us.toList).toArray, z, putB_self hlt, ?_, hn, ?_, e6⟩
      · have := over_length (l := arr.toList) (off := sz) (vs := us.toList) (by simp; simp at hlen; omega)
        simpa [e2] using this
      · intro i v hi hg'
        rw [get_setL] at hg'
        have hov := over_get (l := arr.toList) (off := sz) (vs := us.toList) (by simp; simp at hlen; omega) i
        by_cases hh : sz ≤ i ∧ i < sz + new.length
        · rw [if_pos hh] at hg'
          rw [if_pos (by omega)] at hov
          obtain ⟨u, hu, hr⟩ := hv.get _ _ hg'
          exact ⟨u, by simp only [List.getElem?_toArray]; rw [hov, hu], VR.mono hle _ _ hr⟩
        · rw [if_neg hh] at hg'
          rw [if_neg (by omega)] at hov
          obtain ⟨u, hu, hr⟩ := e5 i v (by omega) hg'
          exact ⟨u, by simp only [List.getElem?_toArray]; rw [hov]; simpa using hu, VR.mono hle _ _ hr⟩)
  exact ⟨_, _, hrun, Emb.upd_self _ _ _ _, ht.1, ht.2⟩

/-- the same, moved: a new row bears the old cells and the new ones -/
theorem move_S (s : St P ι h w) {b ep sz fz sz' : Nat} {e : TypeId} {c : T AVal} {new : List AVal} {us row : Array Value} {p : Place} {w' : World} (hg : h.t.get b = some (.cells c sz e ep fz)) (hp : ι b ep = some p)
    (hv : VRs ι new us.toList) (hfz : fz ≤ 1) (hsz' : sz' = sz + new.length) (hn : sz' ≤ row.size)
    (hold : ∀ arr e' z, w.heap[p.cb]? = some (.cells arr e' z) → ∀ i, i < sz → row[i]? = arr[i]?) (hnew : ∀ i, i < new.length → row[sz + i]? = us[i]?)
    (hw : w'.heap = w.heap.push (.cells row e)) (ho : w'.os = w.os) (hout : w'.output = w.output) :
    ∃ ι', ι' b (ep + 1) = some ⟨w.heap.size, row.size⟩ ∧
      St P ι' { next := h.next, t := h.t.set b (.cells (T.setL new sz c) sz' e (ep + 1) fz) } w' ∧ Fr h ι w { next := h.next, t := h.t.set b (.cells (T.setL new sz c) sz' e (ep + 1) fz) } ι' w' := by
  subst hsz'
  obtain ⟨q, hq, arr, z, e1, e2, e3, e5, e6⟩ := s.blk _ _ hg
  have hq' := hq
  simp only [ABlk.ep] at hq
  rw [hp] at hq; cases hq
  have hlen := hv.length
  have hnone : ι b (ep + 1) = none := by
    cases hh : ι b (ep + 1) with
    | none => rfl
    | some r => have := s.eps _ _ _ _ hg hh; simp only [ABlk.ep] at this; omega
  have hle : ι.le (ι.upd b (ep + 1) ⟨w.heap.size, row.size⟩) := Emb.le_upd hnone
  have ht := s.turn (ι' := ι.upd b (ep + 1) ⟨w.heap.size, row.size⟩) (x' := .cells (T.setL new sz c) (sz + new.length) e (ep + 1) fz) (p' := ⟨w.heap.size, row.size⟩) (w' := w') hg hq' hle
    (fun c' e' q hq => by
      by_cases hh : c' = b ∧ e' = ep + 1
      · exact .inr ⟨hh.1, by simp only [ABlk.ep]; omega⟩
      · rw [Emb.upd_ne _ _ hh] at hq; exact .inl hq)
    (by simp only [ABlk.ep]; omega) (Emb.upd_self _ _ _ _) (.inr (Nat.le_refl _)) (by rw [hw]; simp) (fun cb hc _ => by rw [hw, Array.getElem?_push_lt hc, Array.getElem?_eq_getElem hc]) ho hout (by
      refine ⟨row, (0, 0), by rw [hw]; simp, rfl, hn, ?_, ?_⟩
      · intro i v hi hg'
        rw [get_setL] at hg'
        by_cases hh : sz ≤ i ∧ i < sz + new.length
        · rw [if_pos hh] at hg'
          obtain ⟨u, hu, hr⟩ := hv.get _ _ hg'
          have := hnew (i - sz) (by omega)
          rw [show sz + (i - sz) = i by omega] at this
          exact ⟨u, by rw [this]; simpa using hu, VR.mono hle _ _ hr⟩
        · rw [if_neg hh] at hg'
          obtain ⟨u, hu, hr⟩ := e5 i v (by omega) hg'
          exact ⟨u, by rw [hold arr e z e1 i (by omega)]; exact hu, VR.mono hle _ _ hr⟩
      · match fz, hfz with
        | 0, _ => rfl
        | 1, _ => intro i _; simp)
  exact ⟨_, Emb.upd_self _ _ _ _, ht.1, ht.2⟩
end Ab

namespace Ab
open Go
variable {P : Program} {ι : Emb} {h h' : AHeap} {w : World}

theorem size_zeroCells' (z : Array Value) (n : Nat) : (Builtin.zeroCells z n).size = n * z.size := by simp [Builtin.zeroCells]

theorem biAppend_S (s : St P ι h w) {t ty : TypeId} {ts : Array TypeId} {d x v : AVal} {cd cx : Value} (hts : ts[0]? = some t) (hd : VR ι d cd) (hx : VR ι x cx) (ho : biAppend P h t ts[1]? d x = .val v h') :
    ValV P ι h w v h' (Builtin.append_ ts ty #[cd, cx]) := by
  unfold biAppend at ho
  split at ho
  · rename_i base sLen cap ex e size zeros hs hz
    obtain ⟨hu, hsz⟩ := tySlice_inv hs
    split at ho
    · rename_i n new hnew
      cases hc : (allOne new && Nat.blt 0 size && roomB P e size (sLen + n) && Nat.beq new.length (n * size)) with
      | false => simp [hc] at ho
      | true =>
        simp only [hc, cond_true] at ho
        simp only [Bool.and_eq_true, blt_iff, beq_iff] at hc
        obtain ⟨⟨⟨c1, c2⟩, c3⟩, c4⟩ := hc
        unfold roomB at c3
        split at c3
        · rename_i i z hi hz0
          simp only [Bool.and_eq_true, blt_iff, ble_iff, beq_iff] at c3
          obtain ⟨⟨b1, b2⟩, b3⟩ := c3
          obtain ⟨uz, hzero, hov⟩ := run_zero_all (P := P) hz0
          have hzl : uz.cells.size = size := by
            have := (ofValue_cells (ι := ι) hov).length
            simp at this; omega
          obtain ⟨ca, cc, ecd, k1, k2⟩ := slice_conc hd
          subst ecd
          by_cases hfit : sLen + n ≤ cc
          · -- there is room
            obtain ⟨us, hnr, hvs⟩ := appNew_S s hnew hx
            have hul := hvs.length
            have hrun := append_fits (P := P) (w := w) (ty := ty) (base := ca) (sLen := sLen) (sCap := cc) hts hu hsz hz c2 hi
              (Nat.le_trans (Nat.mul_le_mul_right _ (Nat.le_add_left n sLen)) b2) hnr hfit
            unfold appTo at ho
            cases hf : Nat.ble (sLen + n) cap with
            | true =>
              simp only [hf, cond_true] at ho
              cases base with
              | none =>
                obtain ⟨k1, k3⟩ := k1 rfl
                subst k1; subst k3
                cases hn0 : Nat.beq n 0 with
                | false => simp [hn0] at ho
                | true =>
                  simp only [hn0, cond_true, Res.val.injEq] at ho
                  obtain ⟨e1, e2⟩ := ho
                  subst e1; subst e2
                  rw [beq_iff] at hn0
                  subst hn0
                  exact .calm s (u := .slice none sLen cc) (by rw [hrun]; simp) (by simp [VR])
              | some a =>
                obtain ⟨p, off, hp, e1, g1, g2, g3, g4⟩ := k2 a rfl
                subst e1
                cases hn0 : Nat.beq n 0 with
                | true =>
                  simp only [hn0, cond_true, Res.val.injEq] at ho
                  obtain ⟨e1, e2⟩ := ho
                  subst e1; subst e2
                  rw [beq_iff] at hn0
                  subst hn0
                  have : us.toList = [] := List.length_eq_zero_iff.1 (by omega)
                  refine .calm s (u := .slice (some ⟨p.cb, off, none⟩) sLen cc) ?_ hd
                  rw [hrun]
                  simp only [this]
                  simp [storeCells]
                | false =>
                  simp only [hn0, cond_false] at ho
                  split at ho
                  · rename_i h1 hst
                    simp only [Res.val.injEq] at ho
                    obtain ⟨e1, e2⟩ := ho
                    subst e1; subst e2
                    have hn1 : n ≠ 0 := fun hh => by subst hh; cases hn0
                    have hoff : off = a.off := by rcases g2 with g2 | g2 <;> omega
                    subst hoff
                    obtain ⟨w', r1, r2, r3⟩ := storeN_S (a := ⟨a.block, a.epoch, a.off + sLen * size⟩) s hp hvs hst
                    refine ⟨w', .slice (some ⟨p.cb, a.off, none⟩) (sLen + n) cc, ι, ?_, ?_, r2, r3⟩
                    · rw [hrun]; simp only [addr_add, Sem.run_bind, r1, Result.andThen, Sem.run_pure]
                    · simp only [VR]; exact ⟨p, a.off, cc, hp, rfl, hfit, .inl rfl, g3, g4⟩
                  · cases ho
            | false =>
              simp only [hf, cond_false] at ho
              have hnf : ¬ sLen + n ≤ cap := fun hh => by rw [ble_iff.2 hh] at hf; cases hf
              cases he : Nat.beq ex 0 with
              | true =>
                exfalso
                rw [beq_iff] at he
                cases base with
                | none => have := (k1 rfl).2; omega
                | some a => obtain ⟨p, off, hp, e1, g1, g2, g3, g4⟩ := k2 a rfl; have := g3 he; omega
              | false =>
                simp only [he, cond_false] at ho
                split at ho
                · cases ho
                · rename_i a
                  split at ho
                  · rename_i c sz e' ep fz hg
                    cases hcc : (Nat.beq a.epoch ep && Nat.beq a.off 0 && Nat.beq (sLen * size) sz && Nat.beq e e' && Nat.ble fz 1 && Nat.blt 0 sLen && Nat.beq ex size) with
                    | false => simp [hcc] at ho
                    | true =>
                      simp only [hcc, cond_true, Res.val.injEq] at ho
                      obtain ⟨e1, e2⟩ := ho
                      subst e1; subst e2
                      simp only [Bool.and_eq_true, beq_iff, ble_iff, blt_iff] at hcc
                      obtain ⟨⟨⟨⟨⟨⟨d1, d2⟩, d3⟩, d4⟩, d5⟩, d6⟩, d7⟩ := hcc
                      subst d4; subst d7; subst d3
                      obtain ⟨p, off, hp, e1, g1, g2, g3, g4⟩ := k2 a rfl
                      subst e1
                      have hoff : off = 0 := by rcases g2 with g2 | g2 <;> omega
                      subst hoff
                      rw [d1] at hp
                      have hne : ex ≠ 0 := by omega
                      have hle : (sLen + n) * ex ≤ p.n := by
                        have := (g4 hne).2
                        have h3 : (sLen + n) * ex ≤ cc * ex := Nat.mul_le_mul_right _ hfit
                        omega
                      have hadd : (sLen + n) * ex = sLen * ex + new.length := by rw [c4, Nat.add_mul]
                      obtain ⟨w', ι', r1, r2, r3, r4⟩ := extend_S s hg hp hvs c1 d5 rfl (by omega)
                      refine ⟨w', .slice (some ⟨p.cb, 0, none⟩) (sLen + n) cc, ι', ?_, ?_, r3, r4⟩
                      · rw [hrun]; simp only [addr_add, Nat.zero_add, Sem.run_bind, r1, Result.andThen, Sem.run_pure]
                      · simp only [VR]
                        exact ⟨p, 0, cc, r2, rfl, hfit, .inl rfl, fun hh => absurd hh hne, fun _ => ⟨hfit, by simpa using (g4 hne).2⟩⟩
                  · cases ho
          · -- a new row
            have sd : St P ι h w.drew := s.world rfl
            obtain ⟨us, hnr, hvs⟩ := appNew_S sd hnew hx
            have hul := hvs.length
            have hul' : us.size = n * size := by simp at hul; omega
            have hlen : zeros = false → (Builtin.lenOf cx).run P w = .ok n w := by
              intro hzf
              obtain ⟨us', hnr', _⟩ := appNew_S s hnew hx
              subst hzf
              simp only [NewR, Bool.false_eq_true, if_false] at hnr'
              exact hnr'.1
            have hcge := grownCap_ge w (sLen + n) cc e
            unfold appTo at ho
            have hf : Nat.ble (sLen + n) cap = false := by
              cases hh : Nat.ble (sLen + n) cap with
              | false => rfl
              | true =>
                exfalso
                rw [ble_iff] at hh
                cases base with
                | none => have := (k1 rfl).2; omega
                | some a =>
                  obtain ⟨p, off, hp, e1, g1, g2, g3, g4⟩ := k2 a rfl
                  by_cases he : ex = 0
                  · have := g3 he; omega
                  · have := (g4 he).1; omega
            simp only [hf, cond_false] at ho
            cases he : Nat.beq ex 0 with
            | true =>
              simp only [he, cond_true] at ho
              split at ho
              · rename_i old hold
                cases ho1 : Nat.beq old.length (sLen * size) with
                | false => simp [ho1] at ho
                | true =>
                  simp only [ho1, cond_true, Res.val.injEq] at ho
                  obtain ⟨e1, e2⟩ := ho
                  subst e1; subst e2
                  rw [beq_iff] at ho1
                  obtain ⟨oa, r1, r2⟩ := firstA_S sd hd (fun a l c ex e _ => by cases e; exact Nat.le_refl _) hold
                  have hol := r2.length
                  have hol' : oa.size = sLen * size := by simp at hol; omega
                  have hrun := append_grows (P := P) (w := w) (ty := ty) (base := ca) (sLen := sLen) (sCap := cc) hts hu hsz hz c2 hi b1 b2 hzero hlen hnr r1 hfit
                  generalize hcap : grownCap w (sLen + n) cc e = gc at hrun hcge
                  have hrow : VRs ι (old ++ new) (oa ++ us).toList := by simpa using r2.append hvs
                  have hsize : (oa ++ us ++ Builtin.zeroCells uz.cells (gc - (sLen + n))).size = gc * size := by
                    simp only [Array.size_append, size_zeroCells', hzl, hol', hul', ← Nat.add_mul]
                    congr 1; omega
                  have hle : ι.le (ι.upd h.next 0 ⟨w.heap.size, gc * size⟩) := Emb.le_upd (s.none_fresh (Nat.le_refl _))
                  have hn := s.new (x := .cells (T.setL (old ++ new) 0 .leaf) (old ++ new).length e 0 0) (o := .cells (oa ++ us ++ Builtin.zeroCells uz.cells (gc - (sLen + n))) e) (gc * size) rfl
                    (w' := { w.drew with heap := w.heap.push (.cells (oa ++ us ++ Builtin.zeroCells uz.cells (gc - (sLen + n))) e) }) rfl rfl rfl
                    ⟨_, (0, 0), by simp, hsize, by
                      have h1 : (sLen + n) * size ≤ gc * size := Nat.mul_le_mul_right _ hcge
                      have h2 : (sLen + n) * size = sLen * size + n * size := Nat.add_mul _ _ _
                      simp only [List.length_append]
                      omega, fun i v hi hg => by
                      rw [get_setL] at hg
                      rw [if_pos (by omega)] at hg
                      obtain ⟨u, hu, hr⟩ := hrow.get _ _ hg
                      have hi2 : i < (oa ++ us).size := by
                        have := (List.getElem?_eq_some_iff.1 hu).1
                        simpa using this
                      exact ⟨u, by rw [Array.getElem?_append_left hi2, ← Array.getElem?_toList]; exact hu, VR.mono hle _ _ hr⟩, rfl⟩
                  refine ⟨_, _, _, hrun, ?_, hn.1, hn.2⟩
                  simp only [VR]
                  exact ⟨_, 0, gc, Emb.upd_self _ _ _ _, rfl, hcge, .inl rfl, fun hh => absurd hh (by omega), fun _ => ⟨hcge, by simp⟩⟩
              · cases ho
            | false =>
              simp only [he, cond_false] at ho
              split at ho
              · cases ho
              · rename_i a
                split at ho
                · rename_i c sz e' ep fz hg
                  cases hcc : (Nat.beq a.epoch ep && Nat.beq a.off 0 && Nat.beq (sLen * size) sz && Nat.beq e e' && Nat.ble fz 1 && Nat.blt 0 sLen && Nat.beq ex size) with
                  | false => simp [hcc] at ho
                  | true =>
                    simp only [hcc, cond_true, Res.val.injEq] at ho
                    obtain ⟨e1, e2⟩ := ho
                    subst e1; subst e2
                    simp only [Bool.and_eq_true, beq_iff, ble_iff, blt_iff] at hcc
                    obtain ⟨⟨⟨⟨⟨⟨d1, d2⟩, d3⟩, d4⟩, d5⟩, d6⟩, d7⟩ := hcc
                    subst d4; subst d7; subst d3
                    obtain ⟨p, off, hp, e1, g1, g2, g3, g4⟩ := k2 a rfl
                    subst e1
                    have hoff : off = 0 := by rcases g2 with g2 | g2 <;> omega
                    subst hoff
                    rw [d1] at hp
                    have hne : ex ≠ 0 := by omega
                    obtain ⟨q, hq, arr, z2, a1, a2, a3, a5, a6⟩ := s.blk _ _ hg
                    simp only [ABlk.ep] at hq
                    rw [hp] at hq; cases hq
                    have hold : (Builtin.firstCells ex sLen (.slice (some ⟨p.cb, 0, none⟩) sLen cc)).run P w.drew = .ok ((arr.toList.drop 0).take (sLen * ex)).toArray w.drew := by
                      simp only [Builtin.firstCells]
                      exact run_loadN w.drew a1 (by omega)
                    have hol' : ((arr.toList.drop 0).take (sLen * ex)).toArray.size = sLen * ex := by simp; omega
                    have hrun := append_grows (P := P) (w := w) (ty := ty) (base := some ⟨p.cb, 0, none⟩) (sLen := sLen) (sCap := cc) hts hu hsz hz c2 hi b1 b2 hzero hlen hnr hold hfit
                    generalize hcap : grownCap w (sLen + n) cc e = gc at hrun hcge
                    generalize hoe : ((arr.toList.drop 0).take (sLen * ex)).toArray = oa at hrun hol'
                    have hsize : (oa ++ us ++ Builtin.zeroCells uz.cells (gc - (sLen + n))).size = gc * ex := by
                      simp only [Array.size_append, size_zeroCells', hzl, hol', hul', ← Nat.add_mul]
                      congr 1; omega
                    have hadd : (sLen + n) * ex = sLen * ex + n * ex := Nat.add_mul _ _ _
                    have hgm : (sLen + n) * ex ≤ gc * ex := Nat.mul_le_mul_right _ hcge
                    obtain ⟨ι', r2, r3, r4⟩ := move_S s (row := oa ++ us ++ Builtin.zeroCells uz.cells (gc - (sLen + n))) (w' := { w.drew with heap := w.heap.push (.cells (oa ++ us ++ Builtin.zeroCells uz.cells (gc - (sLen + n))) e) })
                      hg hp hvs d5 rfl (by rw [hsize]; omega)
                      (by
                        intro arr' e' z' ha i hi'
                        rw [a1] at ha; cases ha
                        rw [Array.append_assoc, Array.getElem?_append_left (by omega), ← hoe]
                        simp only [List.drop_zero, List.getElem?_toArray]
                        rw [List.getElem?_take_of_lt hi']
                        simp)
                      (by
                        intro i hi'
                        rw [Array.getElem?_append_left (by simp; omega), Array.getElem?_append_right (by omega), hol']
                        congr 1; omega)
                      rfl rfl rfl
                    refine ⟨_, _, ι', hrun, ?_, r3, r4⟩
                    simp only [VR]
                    rw [hsize] at r2
                    exact ⟨_, 0, gc, r2, rfl, hcge, .inl rfl, fun hh => absurd hh hne, fun _ => ⟨hcge, by simp⟩⟩
                · cases ho
        · cases c3
    · cases ho
  · cases ho
end Ab

namespace Ab
open Go
variable {P : Program} {ι : Emb} {h h' : AHeap} {w : World}

def Res.calm : Res → Prop
  | .call _ _ => False
  | .yld _ _ => False
  | _ => True
theorem calm_ofO (o : Option AVal) (h : AHeap) : (Res.ofO o h).calm := by cases o <;> trivial
theorem calm_ofH (o : Option AHeap) : (Res.ofH o).calm := by cases o <;> trivial
theorem calm_cond {b : Bool} {x y : Res} (hx : x.calm) (hy : y.calm) : (cond b x y).calm := by cases b <;> assumption
theorem calm_fail : Res.fail.calm := trivial
theorem calm_val (v : AVal) (h : AHeap) : (Res.val v h).calm := trivial

theorem calm_appTo {e : TypeId} {size : Nat} {base : Option AAddr} {sLen cap ex n : Nat} {new : List AVal} : (appTo h e size base sLen cap ex n new).calm := by
  unfold appTo
  simp only [Bool.cond_eq_ite]
  repeat' split
  all_goals trivial
theorem calm_builtin {b : Builtin} {ts : Array TypeId} {args : List AVal} : (builtinA P h b ts args).calm := by
  unfold builtinA
  split
  · unfold biLen; repeat' split
    all_goals trivial
  · unfold biCap; repeat' split
    all_goals trivial
  · unfold biAppend; simp only [Bool.cond_eq_ite]; repeat' split
    all_goals first | exact calm_appTo | trivial
  · unfold biCopy; simp only [Bool.cond_eq_ite]; repeat' split
    all_goals trivial
  · unfold biClear; repeat' split
    all_goals trivial
  · unfold biDelete; simp only [Bool.cond_eq_ite]; repeat' split
    all_goals trivial
  · exact calm_ofO _ _
  · exact calm_ofO _ _
  · unfold biData; split <;> trivial
  · unfold biText; simp only [Bool.cond_eq_ite]; repeat' split
    all_goals trivial
  · trivial

theorem callV_cases {f : AVal} {args : List AVal} : (∃ g first cap, f = .func (.func g) first cap ∧ callV f args = .call g (first ++ args ++ cap)) ∨ (∃ l first cap, f = .func (.yield l) first cap ∧ callV f args = .yld l (first ++ args)) ∨ callV f args = .fail := by
  unfold callV
  split
  · exact .inl ⟨_, _, _, rfl, rfl⟩
  · exact .inr (.inl ⟨_, _, _, rfl, rfl⟩)
  · exact .inr (.inr rfl)

theorem calm_aop {ρ : Operand → AVal} {op : Op} (hc : ∀ c, op ≠ .call c) : (aop P ρ h op).calm := by
  unfold aop
  split
  case h_1 => trivial
  case h_2 => trivial
  case h_3 => unfold opPick; repeat' split
              all_goals trivial
  case h_4 => unfold opAlloc; simp only [Bool.cond_eq_ite]; repeat' split
              all_goals trivial
  case h_5 => unfold opBox; simp only [Bool.cond_eq_ite]; repeat' split
              all_goals trivial
  case h_6 => unfold opBuild; repeat' split
              all_goals trivial
  case h_7 => unfold opBuildSlice; simp only [Bool.cond_eq_ite]; repeat' split
              all_goals trivial
  case h_8 => unfold opMapUpdate; simp only [Bool.cond_eq_ite]; repeat' split
              all_goals trivial
  case h_9 => unfold opLoad; split
              · exact calm_ofO _ _
              · trivial
  case h_10 => unfold opStore; split
               · exact calm_ofH _
               · trivial
  case h_11 => unfold opNilCheck; split <;> trivial
  case h_12 => exact calm_ofO _ _
  case h_13 => unfold opUn; split <;> trivial
  case h_14 => unfold opConvert; split
               · trivial
               · trivial
               · unfold toUns; simp only [Bool.cond_eq_ite]; repeat' split
                 all_goals trivial
               · unfold fromUns; simp only [Bool.cond_eq_ite]; repeat' split
                 all_goals trivial
               · trivial
  case h_15 => unfold opMakeFunc; split <;> trivial
  case h_16 => unfold opMakeMap; split <;> trivial
  case h_17 => unfold opMakeSlice; simp only [Bool.cond_eq_ite]; repeat' split
               all_goals trivial
  case h_18 => unfold opSlice; simp only [Bool.cond_eq_ite]; repeat' split
               all_goals trivial
  case h_19 => unfold opFieldAddr; split <;> trivial
  case h_20 => unfold opField; split
               · exact calm_ofO _ _
               · trivial
  case h_21 => unfold opIndexAddr; simp only [Bool.cond_eq_ite]; repeat' split
               all_goals trivial
  case h_22 => unfold opIndex; simp only [Bool.cond_eq_ite]; repeat' split
               all_goals first | exact calm_ofO _ _ | trivial
  case h_23 => unfold opLookup; simp only [Bool.cond_eq_ite]; repeat' split
               all_goals trivial
  case h_24 => unfold opMapUpdate; simp only [Bool.cond_eq_ite]; repeat' split
               all_goals trivial
  case h_25 => unfold opRange; split <;> trivial
  case h_26 => unfold opNext; simp only [Bool.cond_eq_ite]; repeat' split
               all_goals trivial
  case h_27 => unfold opExtract; split
               · exact calm_ofO _ _
               · trivial
  case h_28 => exact absurd rfl (hc _)
  case h_29 => unfold opMakeIface; split <;> trivial
  case h_30 => trivial

theorem ValV.into {v : AVal} {s : Sem Value} {t : Sem Next} (x : ValV P ι h w v h' s) (e : t = (do pure (.value (← s)))) : ValS P ι h w v h' t := by rw [e]; exact x.next
theorem ValS.move (s : St P ι h w) {x v : AVal} {u : Value} (hx : VR ι x u) (ho : Res.val x h = .val v h') : ValS P ι h w v h' (pure (.value u)) := by
  simp only [Res.val.injEq] at ho
  obtain ⟨e1, e2⟩ := ho
  subst e1; subst e2
  exact .calm s (by simp) hx

theorem two_get {l : List AVal} {cl : Array Value} {a b : AVal} (hl : VRs ι l cl.toList) (e : l = [a, b]) : ∃ ca cb, cl = #[ca, cb] ∧ VR ι a ca ∧ VR ι b cb := by
  subst e
  obtain ⟨ca, r, e1, h1, h2⟩ := hl.cons_inv
  obtain ⟨cb, r2, e2, h3, h4⟩ := h2.cons_inv
  have := h4.nil_inv
  subst this; subst e2
  exact ⟨ca, cb, Array.ext' e1, h1, h3⟩
theorem one_get {l : List AVal} {cl : Array Value} {a : AVal} (hl : VRs ι l cl.toList) (e : l = [a]) : ∃ ca, cl = #[ca] ∧ VR ι a ca := by
  subst e
  obtain ⟨ca, r, e1, h1, h2⟩ := hl.cons_inv
  have := h2.nil_inv
  subst this
  exact ⟨ca, Array.ext' e1, h1⟩

theorem builtin_S (s : St P ι h w) {b : Builtin} {ts : Array TypeId} {ty : TypeId} {cs : Array Bool} {args : List AVal} {cl : Array Value} {v : AVal} (hl : VRs ι args cl.toList) (ho : builtinA P h b ts args = .val v h') :
    ValS P ι h w v h' (Go.builtin b ts ty cs cl) := by
  unfold builtinA at ho
  split at ho
  · rename_i t x hts
    obtain ⟨c, e, hx⟩ := one_get hl rfl
    subst e
    exact (biLen_S s hts hx ho).into rfl
  · rename_i t x hts
    obtain ⟨c, e, hx⟩ := one_get hl rfl
    subst e
    exact (biCap_S s hts hx ho).into rfl
  · rename_i x y t d x hts
    obtain ⟨c, c2, e, hd, hx⟩ := two_get hl rfl
    subst e
    exact (biAppend_S s hts hd hx ho).into rfl
  · rename_i x y t d x hts
    obtain ⟨c, c2, e, hd, hx⟩ := two_get hl rfl
    subst e
    exact (biCopy_S s hts hd hx ho).into rfl
  · rename_i t x hts
    obtain ⟨c, e, hx⟩ := one_get hl rfl
    subst e
    exact (biClear_S s hts hx ho).into rfl
  · rename_i x y t d x hts
    obtain ⟨c, c2, e, hd, hx⟩ := two_get hl rfl
    subst e
    exact (biDelete_S s (by simp [Array.getD_eq_getD_getElem?, hts]) (Array.getElem?_eq_some_iff.1 hts).1 hd hx ho).into rfl
  · exact (mm0_S (ty := ty) (ts := ts) s false hl ho).into rfl
  · exact (mm0_S (ty := ty) (ts := ts) s true hl ho).into rfl
  · obtain ⟨c, e, hx⟩ := one_get hl rfl
    subst e
    exact (biData_S s hx ho).into rfl
  · rename_i x y t d x hts
    obtain ⟨c, c2, e, hd, hx⟩ := two_get hl rfl
    subst e
    cases hs : Nat.beq ts.size 2 with
    | false => rw [hs] at ho; cases ho
    | true =>
      rw [hs] at ho
      rw [beq_iff] at hs
      have hts' : ∃ it, ts = #[t, it] := by
        obtain ⟨l⟩ := ts
        match l, hs with
        | [a, b], _ => simp at hts; subst hts; exact ⟨b, rfl⟩
      obtain ⟨it, e⟩ := hts'
      exact (biText_S s e hd hx ho).into rfl
  · cases ho

theorem opMakeIface_S (s : St P ι h w) {t : TypeId} {x v : AVal} {cx : Value} (hx : VR ι x cx) (ho : opMakeIface P h t x = .val v h') : ValV P ι h w v h' (Instr.makeInterface t cx) := by
  unfold opMakeIface at ho
  split at ho
  · cases ho
  · rename_i d hd hni
    cases ho
    refine .calm s (u := .iface t cx) ?_ (by simp only [VR]; exact ⟨cx, rfl, hx⟩)
    unfold Instr.makeInterface
    rw [Sem.run_bind, run_und w hni]
    cases d <;> first | rfl | exact absurd rfl (hd _)
  · cases ho
/-- a method that the type itself has -/
theorem callMethod_run (w : World) {t : TypeId} {name : String} {f : FuncId} (hm : methodA P t name = some f) (y : Value) (args : Array Value) :
    (callMethod (.iface t y) name args).run P w = (callFunc f (#[y] ++ args)).run P w := by
  unfold methodA at hm
  split at hm
  · rename_i i hi
    split at hm
    · rename_i m hfind
      split at hm
      · rename_i g pr hpath hfunc
        cases hr : recvOk P t pr with
        | false => rw [hr] at hm; cases hm
        | true =>
          rw [hr] at hm
          simp only [cond_true, Option.some.injEq] at hm
          subst hm
          have hmeth : (method (P.types.size + Made.depth) t y name).run P w = .ok (g, y) w := by
            have hd : P.types.size + Made.depth = (P.types.size + (Made.depth - 1)) + 1 := by
              have : 1 ≤ Made.depth := by decide
              omega
            rw [hd]
            simp only [method, Sem.run_bind, run_typeInfo w hi, Result.andThen, hfind, hpath, follow, Sem.run_pure, hfunc]
            unfold recvOk at hr
            have hra : ∀ wr, (receiverAt t (.val y) pr wr).run P w = .ok y w := by
              intro wr
              unfold receiverAt
              rw [Sem.run_bind]
              split at hr
              · rename_i e hu
                subst hr
                rw [run_und w hu]; rfl
              · rename_i d hne hu
                rw [run_und w hu]
                cases pr with
                | true => cases hr
                | false =>
                  cases d <;> first | rfl | exact absurd rfl (hne _)
              · cases hr
            rw [hra]
          unfold callMethod
          simp only [Sem.run_bind, Sem.run, program, Result.andThen]
          rw [hmeth]
      · cases hm
    · cases hm
  · cases hm

/-- an operation that yields a value -/
theorem aop_val (s : St P ι h w) {ρ : Operand → AVal} {ρ' : Operand → Value} (hρ : ∀ x, VR ι (ρ x) (ρ' x)) (o : Oper) {v : AVal} (ho : aop P ρ h o.op = .val v h') : ValS P ι h w v h' (execOp ρ' o) := by
  unfold aop at ho
  split at ho
  case h_1 x e => have he : execOp ρ' o = pure (.value (ρ' x)) := by simp only [execOp, e]
                  rw [he]; exact .move s (hρ x) ho
  case h_2 x e => have he : execOp ρ' o = pure (.value (ρ' x)) := by simp only [execOp, e]
                  rw [he]; exact .move s (hρ x) ho
  case h_3 c x y e => have he : execOp ρ' o = (do pure (.value (if ← asBool (ρ' c) then ρ' x else ρ' y))) := by simp only [execOp, e]
                      rw [he]; exact opPick_S s (hρ c) (hρ x) (hρ y) ho
  case h_4 t e => exact (opAlloc_S s ho).into (by simp only [execOp, e])
  case h_5 t x e => exact (opBox_S s (hρ x) ho).into (by simp only [execOp, e])
  case h_6 t ps e => exact (opBuild_S s hρ ho).into (by simp only [execOp, e])
  case h_7 t l ps e => exact (opBuildSlice_S s hρ ho).into (by simp only [execOp, e])
  case h_8 t m k x e =>
    obtain ⟨e1, hv⟩ := opMapUpdate_S s (hρ m) (hρ k) (hρ x) ho
    subst e1
    have he : execOp ρ' o = (do Instr.mapUpdate t (ρ' m) (ρ' k) (ρ' x); pure .skip) := by simp only [execOp, e]
    rw [he]; exact hv.next
  case h_9 t a e => exact (opLoad_S s (hρ a) ho).into (by simp only [execOp, e])
  case h_10 t a x e =>
    obtain ⟨e1, hv⟩ := opStore_S s (hρ a) (hρ x) ho
    subst e1
    have he : execOp ρ' o = (do Instr.storeAt t (ρ' a) (ρ' x); pure .skip) := by simp only [execOp, e]
    rw [he]; exact hv.next
  case h_11 x e => exact opNilCheck_S s (hρ x) e ho
  case h_12 op t x y z e => exact (opBin_S (ox := x) (oy := y) s (hρ x) (hρ y) ho).into (by simp only [execOp, e])
  case h_13 op t x e => exact (opUn_S s (hρ x) ho).into (by simp only [execOp, e])
  case h_14 a b x e => exact (opConvert_S s (hρ x) ho).into (by simp only [execOp, e])
  case h_15 fn first cap e =>
    unfold opMakeFunc at ho
    split at ho
    · cases ho
    · rename_i hfn
      have he : execOp ρ' o = (do pure (.value (← Instr.makeFunc fn (first.map ρ') (cap.map ρ')))) := by simp only [execOp, e]
      rw [he]
      simp only [Res.val.injEq] at ho
      obtain ⟨e1, e2⟩ := ho
      subst e1; subst e2
      exact .calm s (by simp [Instr.makeFunc]) (makeFunc_S hρ (fun l hl => hfn l hl))
  case h_16 t r e => exact (opMakeMap_S (t := t) (ρ' := ρ') s ho).into (by simp only [execOp, e])
  case h_17 t l c e => exact (opMakeSlice_S s (hρ l) (hρ c) ho).into (by simp only [execOp, e])
  case h_18 t x lo hi mx e => exact (opSlice_S s hρ (hρ x) ho).into (by simp only [execOp, e])
  case h_19 t x f e => exact (opFieldAddr_S s (hρ x) ho).into (by simp only [execOp, e])
  case h_20 t x f e => exact (opField_S s (hρ x) ho).into (by simp only [execOp, e])
  case h_21 t x ix e => exact (opIndexAddr_S s (hρ x) (hρ ix) ho).into (by simp only [execOp, e])
  case h_22 t x ix e => exact (opIndex_S s (hρ x) (hρ ix) ho).into (by simp only [execOp, e])
  case h_23 t x ix ok e => exact (opLookup_S s (hρ x) (hρ ix) ho).into (by simp only [execOp, e])
  case h_24 t m k x e =>
    obtain ⟨e1, hv⟩ := opMapUpdate_S s (hρ m) (hρ k) (hρ x) ho
    subst e1
    have he : execOp ρ' o = (do Instr.mapUpdate t (ρ' m) (ρ' k) (ρ' x); pure .skip) := by simp only [execOp, e]
    rw [he]; exact hv.next
  case h_25 t x e => exact (opRange_S s (hρ x) ho).into (by simp only [execOp, e])
  case h_26 it b e => exact (opNext_S (t := o.type) s (hρ it) ho).into (by simp only [execOp, e])
  case h_27 x i e => exact (opExtract_S s (hρ x) ho).into (by simp only [execOp, e])
  case h_28 c e =>
    unfold opCall at ho
    have hargs : VRs ι (c.args.toList.map ρ) (c.args.map ρ').toList := by rw [Array.toList_map]; exact VRs.map ρ ρ' hρ _
    cases hc : c.callee with
    | builtin b =>
      simp only [hc] at ho
      obtain ⟨r, w', u, ι', h1, h2⟩ := builtin_S (ty := o.type) (cs := c.args.map fun | .const _ => true | _ => false) s hargs ho
      refine ⟨r, w', u, ι', ?_, h2⟩
      simp only [execOp, e, resolve, hc, Sem.run_bind, Sem.run_pure, Result.andThen, invoke]
      exact h1
    | value f =>
      simp only [hc] at ho
      rcases callV_cases (f := ρ f) (args := c.args.toList.map ρ) with ⟨g, a, b, _, e2⟩ | ⟨g, a, b, _, e2⟩ | e2 <;> rw [e2] at ho <;> cases ho
    | invoke r n =>
      simp only [hc] at ho
      unfold opInvoke at ho
      split at ho
      · split at ho <;> cases ho
      · cases ho
  case h_29 t x e => exact (opMakeIface_S s (hρ x) ho).into (by simp only [execOp, e])
  case h_30 => cases ho

theorem aop_call_inv {ρ : Operand → AVal} {op : Op} (hc : ¬ (aop P ρ h op).calm) : (∃ c f, op = .call c ∧ c.callee = .value f ∧ aop P ρ h op = callV (ρ f) (c.args.toList.map ρ)) ∨
    (∃ c r n t v f, op = .call c ∧ c.callee = .invoke r n ∧ ρ r = .iface t v ∧ methodA P t n = some f ∧ aop P ρ h op = .call f (v :: c.args.toList.map ρ)) := by
  by_cases hx : ∃ c, op = .call c
  · obtain ⟨c, e⟩ := hx
    subst e
    simp only [aop, opCall] at hc ⊢
    cases hcc : c.callee with
    | builtin b => simp only [hcc] at hc; exact absurd calm_builtin hc
    | value f => exact .inl ⟨c, f, rfl, hcc, rfl⟩
    | invoke r n =>
      right
      simp only [hcc] at hc ⊢
      unfold opInvoke at hc ⊢
      split at hc
      · rename_i t v hr
        split at hc
        · rename_i f hm
          exact ⟨c, r, n, t, v, f, rfl, hcc, hr, hm, rfl⟩
        · exact absurd trivial hc
      · exact absurd trivial hc
  · exact absurd (calm_aop fun c e => hx ⟨c, e⟩) hc

/-- a call of a function -/
theorem aop_call {ρ : Operand → AVal} {ρ' : Operand → Value} (hρ : ∀ x, VR ι (ρ x) (ρ' x)) (o : Oper) {f : FuncId} {args : List AVal} (ho : aop P ρ h o.op = .call f args) :
    ∃ cargs : Array Value, VRs ι args cargs.toList ∧ (execOp ρ' o).run P w = (callFunc f cargs).run P w := by
  rcases aop_call_inv (P := P) (h := h) (ρ := ρ) (op := o.op) (by rw [ho]; exact id) with ⟨c, x, e1, e2, e3⟩ | ⟨c, r, n, t, v, g, e1, e2, e4, e5, e3⟩
  rotate_left
  · rw [ho] at e3
    cases e3
    have hargs : VRs ι (c.args.toList.map ρ) (c.args.map ρ').toList := by rw [Array.toList_map]; exact VRs.map ρ ρ' hρ _
    have hr := hρ r
    rw [e4] at hr
    simp only [VR] at hr
    obtain ⟨y, hy, hv⟩ := hr
    refine ⟨#[y] ++ c.args.map ρ', by simpa using VRs.cons hv hargs, ?_⟩
    have hx : (#[ρ' r] ++ c.args.map ρ')[0]? = some (ρ' r) := by
      rw [Array.getElem?_append_left (by simp)]; rfl
    have hex : (#[ρ' r] ++ c.args.map ρ').extract 1 (#[ρ' r] ++ c.args.map ρ').size = c.args.map ρ' := by
      rw [Array.extract_append]
      simp
    have hi : invoke (.fn (.method n) #[]) (#[ρ' r] ++ c.args.map ρ') = callMethod (ρ' r) n (c.args.map ρ') := by
      unfold invoke
      simp only [hx, hex]
    simp only [execOp, e1, resolve, e2, Sem.run_bind, Sem.run_pure, Result.andThen, hi]
    rw [hy]
    exact callMethod_run w e5 y _
  rw [ho] at e3
  have hargs : VRs ι (c.args.toList.map ρ) (c.args.map ρ').toList := by rw [Array.toList_map]; exact VRs.map ρ ρ' hρ _
  rcases callV_cases (f := ρ x) (args := c.args.toList.map ρ) with ⟨g, a, b, e4, e5⟩ | ⟨g, a, b, _, e5⟩ | e5 <;> rw [e5] at e3
  · cases e3
    have hx := hρ x
    rw [e4] at hx
    simp only [VR, FnR] at hx
    obtain ⟨fn', f', c', e6, e7, h1, h2⟩ := hx
    subst e7
    refine ⟨f' ++ c.args.map ρ' ++ c', by simpa using (h1.append hargs).append h2, ?_⟩
    simp only [execOp, e1, resolve, e2, e6, Deferred.ofValue, Sem.run_bind, Sem.run_pure, Result.andThen, invoke]
  · cases e3
  · cases e3
/-- a call of a loop's body -/
theorem aop_yld {ρ : Operand → AVal} {ρ' : Operand → Value} (hρ : ∀ x, VR ι (ρ x) (ρ' x)) (o : Oper) {l : Nat} {args : List AVal} (ho : aop P ρ h o.op = .yld l args) :
    ∃ (p : Place) (cargs : Array Value), ι l 0 = some p ∧ VRs ι args cargs.toList ∧ (execOp ρ' o).run P w = (Instr.yield p.cb cargs).run P w := by
  rcases aop_call_inv (P := P) (h := h) (ρ := ρ) (op := o.op) (by rw [ho]; exact id) with ⟨c, x, e1, e2, e3⟩ | ⟨c, r, n, t, v, g, e1, e2, e4, e5, e3⟩
  rotate_left
  · rw [ho] at e3; cases e3
  rw [ho] at e3
  have hargs : VRs ι (c.args.toList.map ρ) (c.args.map ρ').toList := by rw [Array.toList_map]; exact VRs.map ρ ρ' hρ _
  rcases callV_cases (f := ρ x) (args := c.args.toList.map ρ) with ⟨g, a, b, e4, e5⟩ | ⟨g, a, b, e4, e5⟩ | e5 <;> rw [e5] at e3
  · cases e3
  · cases e3
    have hx := hρ x
    rw [e4] at hx
    simp only [VR, FnR] at hx
    obtain ⟨fn', f', c', e6, ⟨p, hp, e7⟩, h1, h2⟩ := hx
    subst e7
    refine ⟨p, f' ++ c.args.map ρ', hp, by simpa using h1.append hargs, ?_⟩
    simp only [execOp, e1, resolve, e2, e6, Deferred.ofValue, Sem.run_bind, Sem.run_pure, Result.andThen, invoke]
  · cases e3
end Ab

namespace Ab
open Go
variable {P : Program} {ι : Emb} {h h' : AHeap} {w : World}

theorem fill_congr {ρ ρ' : Operand → AVal} (place : Nat → Option (Nat × Nat)) : ∀ (ps : List (Nat × Operand)) (cells : List AVal), (∀ p ∈ ps, ρ p.2 = ρ' p.2) → fill place ρ ps cells = fill place ρ' ps cells
  | [], cells, _ => rfl
  | (i, o) :: rest, cells, hp => by
    have h1 : ρ o = ρ' o := hp (i, o) (by simp)
    unfold fill
    rw [h1]
    split
    · rfl
    · rename_i off size _
      cases hc : (Nat.beq (ρ' o).cells.length size && Nat.ble (off + size) cells.length && allOne (ρ' o).cells) with
      | false => rfl
      | true => simp only [cond_true]; exact fill_congr place rest _ fun p hm => hp p (by simp [hm])
theorem map_congr {ρ ρ' : Operand → AVal} {l : List Operand} (hl : ∀ x ∈ l, ρ x = ρ' x) : l.map ρ = l.map ρ' := List.map_congr_left hl
theorem omap_congr {ρ ρ' : Operand → AVal} {o : Option Operand} (hl : ∀ x, o = some x → ρ x = ρ' x) : o.map ρ = o.map ρ' := by
  cases o with
  | none => rfl
  | some x => simp [hl x rfl]
theorem aop_congr {ρ ρ' : Operand → AVal} (op : Op) (hx : ∀ x ∈ op.operands, ρ x = ρ' x) : aop P ρ h op = aop P ρ' h op := by
  cases op <;> simp only [Op.operands] at hx <;> simp only [aop]
  case move x => rw [hx x (by simp)]
  case assign x => rw [hx x (by simp)]
  case pick c x y => rw [hx c (by simp), hx x (by simp), hx y (by simp)]
  case box t x => rw [hx x (by simp)]
  case build t ps =>
    unfold opBuild
    have : ∀ place z, fill place ρ ps.toList z = fill place ρ' ps.toList z := fun place z => fill_congr place _ _ fun p hp => hx p.2 (by simp; exact ⟨p.1, by simpa using hp⟩)
    simp only [this]
  case buildSlice t n ps =>
    unfold opBuildSlice
    have : ∀ place z, fill place ρ ps.toList z = fill place ρ' ps.toList z := fun place z => fill_congr place _ _ fun p hp => hx p.2 (by simp; exact ⟨p.1, by simpa using hp⟩)
    simp only [this]
  case insert t m k v => rw [hx m (by simp), hx k (by simp), hx v (by simp)]
  case load t x => rw [hx x (by simp)]
  case store t x y => rw [hx x (by simp), hx y (by simp)]
  case nilCheck x => rw [hx x (by simp)]
  case binOp op t x y z => rw [hx x (by simp), hx y (by simp)]
  case unOp op t x => rw [hx x (by simp)]
  case convert a b x => rw [hx x (by simp)]
  case makeInterface t x => rw [hx x (by simp)]
  case makeFunc fn first cap =>
    rw [map_congr fun x hm => hx x (by simp; exact .inl (by simpa using hm)), map_congr fun x hm => hx x (by simp; exact .inr (by simpa using hm))]
  case makeSlice t x y => rw [hx x (by simp), hx y (by simp)]
  case slice t x lo hi mx =>
    rw [hx x (by simp), omap_congr fun y hy => hx y (by simp [hy]), omap_congr (o := hi) fun y hy => hx y (by simp [hy]), omap_congr (o := mx) fun y hy => hx y (by simp [hy])]
  case fieldAddr s x f => rw [hx x (by simp)]
  case field s x f => rw [hx x (by simp)]
  case indexAddr t x y => rw [hx x (by simp), hx y (by simp)]
  case index t x y => rw [hx x (by simp), hx y (by simp)]
  case lookup t x y b => rw [hx x (by simp), hx y (by simp)]
  case mapUpdate t m k v => rw [hx m (by simp), hx k (by simp), hx v (by simp)]
  case range t x => rw [hx x (by simp)]
  case next x b => rw [hx x (by simp)]
  case extract x i => rw [hx x (by simp)]
  case call c =>
    have hargs : c.args.toList.map ρ = c.args.toList.map ρ' := map_congr fun x hm => hx x (by unfold Call.operands; exact Array.mem_append_right _ (by simpa using hm))
    unfold opCall
    rw [hargs]
    cases hc : c.callee with
    | builtin b => rfl
    | value f =>
      have hf : ρ f = ρ' f := hx f (by unfold Call.operands; simp [hc])
      simp only [hf]
    | invoke r n =>
      have hf : ρ r = ρ' r := hx r (by unfold Call.operands; simp [hc])
      simp only [hf]

/-- operands alone -/
noncomputable def only (op : Op) (ρ : Operand → AVal) (x : Operand) : AVal := open Classical in if x ∈ op.operands then ρ x else .top
theorem only_aop (op : Op) (ρ : Operand → AVal) : aop P ρ h op = aop P (only op ρ) h op := aop_congr op fun x hx => by simp [only, hx]
theorem only_VR {op : Op} {ρ : Operand → AVal} {ρ' : Operand → Value} (hρ : ∀ x ∈ op.operands, VR ι (ρ x) (ρ' x)) (x : Operand) : VR ι (only op ρ x) (ρ' x) := by
  unfold only
  split
  · exact hρ x (by assumption)
  · simp [VR]
end Ab
