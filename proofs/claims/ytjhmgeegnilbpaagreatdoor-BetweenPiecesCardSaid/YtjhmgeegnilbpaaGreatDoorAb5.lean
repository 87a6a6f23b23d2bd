/- Proves that the abstract machine is sound: what it answers, every run of the model's answers, whatever order the regions draw, for any program that follows mixed orders and has no goroutine counter. -/
import Derived.Test.YtjhmgeegnilbpaaGreatDoorAb4
set_option linter.all false
namespace Ab
open Go
variable {P : Program} {ι : Emb} {h h' : AHeap} {w : World}

/-! drawOk, read -/
theorem laidBy_spec {m but : Nat} {t : Tmp} : ∀ {l : List Oper} {j0 : Nat}, laidBy m but t l j0 = true → ∀ j o, l[j]? = some o → o.dst = some t → Nat.testBit m (j0 + j) = true ∨ j0 + j = but
  | [], _, _, j, o, hj, _ => by simp at hj
  | x :: l, j0, hs, j, o, hj, hd => by
    simp only [laidBy, Bool.and_eq_true] at hs
    cases j with
    | zero =>
      simp at hj
      subst hj
      have h1 := hs.1
      rw [hd] at h1
      simp only [Bool.or_eq_true, Bool.not_eq_true', beq_iff] at h1
      rcases h1 with (h1 | h1) | h1
      · have : Nat.beq t t = true := beq_iff.2 rfl
        rw [this] at h1; cases h1
      · exact .inl h1
      · exact .inr h1
    | succ j =>
      have := laidBy_spec hs.2 j o (by simpa using hj) hd
      rw [show j0 + (j + 1) = j0 + 1 + j by omega]
      exact this
theorem laidAt_spec {ms : Array Nat} {m i : Nat} {t : Tmp} : ∀ {l : List Oper} {j0 : Nat}, laidAt ms m i t l j0 = true → ∀ j o, l[j]? = some o → o.dst = some t → Nat.testBit m (j0 + j) = true ∨ j0 + j = i ∨ Nat.testBit (ms.getD (j0 + j) 0) i = true
  | [], _, _, j, o, hj, _ => by simp at hj
  | x :: l, j0, hs, j, o, hj, hd => by
    simp only [laidAt, Bool.and_eq_true] at hs
    cases j with
    | zero =>
      simp at hj
      subst hj
      have h1 := hs.1
      rw [hd] at h1
      simp only [Bool.or_eq_true, Bool.not_eq_true', beq_iff] at h1
      rcases h1 with ((h1 | h1) | h1) | h1
      · have : Nat.beq t t = true := beq_iff.2 rfl
        rw [this] at h1; cases h1
      · exact .inl h1
      · exact .inr (.inl h1)
      · exact .inr (.inr h1)
    | succ j =>
      have := laidAt_spec hs.2 j o (by simpa using hj) hd
      rw [show j0 + (j + 1) = j0 + 1 + j by omega]
      exact this
theorem laidAll_spec {ms : Array Nat} {m i : Nat} {l : List Oper} : ∀ {ts : List Tmp}, laidAll ms m i l ts = true → ∀ t ∈ ts, laidAt ms m i t l 0 = true
  | [], _, t, ht => by cases ht
  | x :: ts, hs, t, ht => by
    simp only [laidAll, Bool.and_eq_true] at hs
    rcases List.mem_cons.1 ht with e | ht
    · subst e; exact hs.1
    · exact laidAll_spec hs.2 t ht
theorem drawL_spec {ops : Array Oper} {ms : Array Nat} : ∀ {l : List Oper} {i0 : Nat}, drawL ops ms l i0 = true → ∀ i o, l[i]? = some o →
    ms.getD (i0 + i) 0 < 2 ^ (i0 + i) ∧ (∀ t ∈ looks ops o, laidAt ms (ms.getD (i0 + i) 0) (i0 + i) t ops.toList 0 = true) ∧ (∀ d, o.dst = some d → laidBy 0 (i0 + i) d ops.toList 0 = true)
  | [], _, _, i, o, hi => by simp at hi
  | x :: l, i0, hs, i, o, hi => by
    simp only [drawL, Bool.and_eq_true] at hs
    obtain ⟨⟨⟨h1, h2⟩, h3⟩, h4⟩ := hs
    cases i with
    | zero =>
      simp at hi
      subst hi
      refine ⟨blt_iff.1 h1, fun t ht => laidAll_spec h2 t ht, fun d hd => ?_⟩
      rw [hd] at h3
      exact h3
    | succ i =>
      have := drawL_spec h4 i o (by simpa using hi)
      rw [show i0 + (i + 1) = i0 + 1 + i by omega]
      exact this
/-- what a region's text promises -/
structure Text (ops : Array Oper) : Prop where
  below : ∀ (i : Nat) (o : Oper), ops[i]? = some o → ∀ j, Nat.testBit ((Region.before ops).getD i 0) j = true → j < i
  reads : ∀ (i : Nat) (o : Oper), ops[i]? = some o → ∀ t ∈ looks ops o, ∀ (j : Nat) (o' : Oper), ops[j]? = some o' → o'.dst = some t → Nat.testBit ((Region.before ops).getD i 0) j = true ∨ j = i ∨ Nat.testBit ((Region.before ops).getD j 0) i = true
  once : ∀ (i : Nat) (o : Oper) (d : Tmp), ops[i]? = some o → o.dst = some d → ∀ (j : Nat) (o' : Oper), ops[j]? = some o' → o'.dst = some d → j = i
  edge : ∀ (i : Nat) (o : Oper), ops[i]? = some o → ∀ e ∈ o.after, Region.binds .any e = true → Nat.testBit ((Region.before ops).getD i 0) e.on = true
  closed : ∀ (i : Nat) (o : Oper), ops[i]? = some o → ∀ j, Nat.testBit ((Region.before ops).getD i 0) j = true → ∃ e ∈ o.after, Region.binds .any e = true ∧ (e.on = j ∨ Nat.testBit ((Region.before ops).getD e.on 0) j = true)
theorem text_of {ops : Array Oper} (hd : drawOk ops = true) : Text ops := by
  have hs : ∀ i o, ops[i]? = some o → _ := fun i o hi => drawL_spec hd i o (by simpa using hi)
  simp only [Nat.zero_add] at hs
  refine ⟨fun i o hi j hj => ?_, fun i o hi t ht j o' hj hd' => ?_, fun i o d hi hdd j o' hj hd' => ?_, fun i o hi e he hb => (before_iff hi _).2 ⟨e, he, hb, .inl rfl⟩, fun i o hi j hj => ?_⟩
  · have h1 := (hs i o hi).1
    rcases Nat.lt_or_ge j i with h | h
    · exact h
    · have := Nat.testBit_lt_two_pow (Nat.lt_of_lt_of_le h1 (Nat.pow_le_pow_right (by decide) h))
      rw [this] at hj; cases hj
  · have := laidAt_spec ((hs i o hi).2.1 t ht) j o' (by simpa using hj) hd'
    simpa using this
  · have := laidBy_spec ((hs i o hi).2.2 d hdd) j o' (by simpa using hj) hd'
    rcases this with h | h
    · simp at h
    · omega
  · obtain ⟨e, he, hb, h⟩ := (before_iff hi j).1 hj
    exact ⟨e, he, hb, h.imp id fun h => h.2⟩

/-! the evaluator's way through -/
def PutE (nt : Nat) (dst : Option Tmp) (v : AVal) (env env' : Env) : Prop :=
  match dst with
  | none => env' = env
  | some d => d < nt ∧ env' = env.set d v
theorem putE_inv {nt : Nat} {dst : Option Tmp} {v : AVal} {env : Env} {k : Env → Out} {out : Out} (ho : putE nt dst v env k = out) (hne : out ≠ .fail) : ∃ env', PutE nt dst v env env' ∧ k env' = out := by
  cases dst with
  | none => exact ⟨env, rfl, ho⟩
  | some d =>
    simp only [putE] at ho
    cases hb : Nat.blt d nt with
    | false => simp [hb] at ho; exact absurd ho.symm hne
    | true => simp only [hb, cond_true] at ho; exact ⟨_, ⟨blt_iff.1 hb, rfl⟩, ho⟩

/-- an operation that acts: what its soundness says -/
def EffS (P : Program) (o : Oper) (env : Env) (a : AHeap) (v : AVal) (h' : AHeap) : Prop :=
  ∀ (r : Option Nat) (ι : Emb) (w : World) (x : Act) (next : Act → World → Prop) (Q : Exit → Act → World → Prop), St P ι a w → (∀ y ∈ o.op.operands, VR ι (evalO P env y) (x.eval y)) →
    (∀ u ι' w', VR ι' v u → St P ι' h' w' → Fr a ι w h' ι' w' → next (x.put o.dst u) w') → o.wpIn (Fw r) 0 P x w next Q
noncomputable def need (m : Nat) (s : DSt) (h : AHeap) : AHeap := { next := h.next, t := addP (needP m s.pd) h.t }
inductive DK (P : Program) (base m i : Nat) (ops : Array Oper) (o : Oper) (env : Env) (h : AHeap) (s : DSt) : AVal → AHeap → DSt → Prop
  | skip : guardOk ops env o.guard = some false → DK P base m i ops o env h s undefA h s
  | pur (v : AVal) (h1 : AHeap) : guardOk ops env o.guard = some true → clsOf o.op = .pure → aop P (evalO P env) h o.op = .val v h1 → DK P base m i ops o env h s v h s
  | alc (v : AVal) (h1 : AHeap) (b : ABlk) : guardOk ops env o.guard = some true → clsOf o.op = .alloc → aop P (evalO P env) ⟨base + i, h.t⟩ o.op = .val v h1 → h1.t.get (base + i) = some b →
      DK P base m i ops o env h s v h { s with pd := (i, base + i, b) :: s.pd }
  | rd (v : AVal) (h1 : AHeap) : guardOk ops env o.guard = some true → clsOf o.op = .read → aop P (evalO P env) (need m s h) o.op = .val v h1 → prevAt P s.pd ⟨i, m, env, o.op, v⟩ s.prev = true →
      DK P base m i ops o env h s v h { s with rds := ⟨i, m, env, o.op, v⟩ :: s.rds }
  | eff (v : AVal) (h' : AHeap) : guardOk ops env o.guard = some true → clsOf o.op = .eff → chainOk m s.prev = true → EffS P o env (need m s h) v h' → rdsAt P m (keepP m s.pd) h' s.rds = true →
      DK P base m i ops o env h s v h' { pd := keepP m s.pd, rds := s.rds, prev := (i, h) :: s.prev }

theorem trace_of {orc : FuncId → List AVal → AHeap → Option (AVal × AHeap)} {rec : Task → AHeap → Out} (hrec : RecS P rec) (horc : OrcS P orc) {ops : Array Oper} {ms : Array Nat} {nt base : Nat} {mk : List Nat} {out : Out} (hne : out ≠ .fail) :
    ∀ (l : List Oper) (i : Nat) (env : Env) (h : AHeap) (s : DSt), (∀ j o, l[j]? = some o → ops[i + j]? = some o) → evDraw P orc rec ops ms nt base mk l i env h s = out →
    ∃ (E : Nat → Env) (H : Nat → AHeap) (S : Nat → DSt) (V : Nat → AVal), E i = env ∧ H i = h ∧ S i = s ∧ out = .norm (E (i + l.length)) { next := (H (i + l.length)).next, t := addP (S (i + l.length)).pd (H (i + l.length)).t } mk ∧
      ∀ k o, i ≤ k → k < i + l.length → ops[k]? = some o → DK P base (ms.getD k 0) k ops o (E k) (H k) (S k) (V k) (H (k + 1)) (S (k + 1)) ∧ PutE nt o.dst (V k) (E k) (E (k + 1))
  | [], i, env, h, s, _, ho => by
    have ho : Out.norm env { next := h.next, t := addP s.pd h.t } mk = out := ho
    exact ⟨fun _ => env, fun _ => h, fun _ => s, fun _ => .top, rfl, rfl, rfl, ho.symm, fun k o h1 h2 => by simp at h2; omega⟩
  | o :: l, i, env, h, s, hl, ho => by
    have hoi : ops[i]? = some o := by simpa using hl 0 o rfl
    have hl' : ∀ j o', l[j]? = some o' → ops[i + 1 + j]? = some o' := fun j o' hj => by
      have := hl (j + 1) o' (by simpa using hj)
      rwa [show i + (j + 1) = i + 1 + j by omega] at this
    have ho : (match guardOk ops env o.guard with
      | some true => dStep P orc rec nt base (ms.getD i 0) i o env h s fun env h s => evDraw P orc rec ops ms nt base mk l (i + 1) env h s
      | some false => putE nt o.dst undefA env fun env => evDraw P orc rec ops ms nt base mk l (i + 1) env h s
      | none => .fail) = out := ho
    -- one step, then the rest
    have one : ∀ v env' h' s', DK P base (ms.getD i 0) i ops o env h s v h' s' → PutE nt o.dst v env env' → evDraw P orc rec ops ms nt base mk l (i + 1) env' h' s' = out →
        ∃ (E : Nat → Env) (H : Nat → AHeap) (S : Nat → DSt) (V : Nat → AVal), E i = env ∧ H i = h ∧ S i = s ∧ out = .norm (E (i + (l.length + 1))) { next := (H (i + (l.length + 1))).next, t := addP (S (i + (l.length + 1))).pd (H (i + (l.length + 1))).t } mk ∧
        ∀ k o, i ≤ k → k < i + (l.length + 1) → ops[k]? = some o → DK P base (ms.getD k 0) k ops o (E k) (H k) (S k) (V k) (H (k + 1)) (S (k + 1)) ∧ PutE nt o.dst (V k) (E k) (E (k + 1)) := by
      intro v env' h' s' hdk hput hrest
      obtain ⟨E, H, S, V, e1, e2, e3, e4, e5⟩ := trace_of hrec horc hne l (i + 1) env' h' s' hl' hrest
      have hidx : i + 1 + l.length = i + (l.length + 1) := by omega
      rw [hidx] at e4 e5
      refine ⟨fun k => if k ≤ i then env else E k, fun k => if k ≤ i then h else H k, fun k => if k ≤ i then s else S k, fun k => if k ≤ i then v else V k, by simp, by simp, by simp, ?_, fun k o' h1 h2 h3 => ?_⟩
      · simp only [if_neg (show ¬ i + (l.length + 1) ≤ i by omega)]
        exact e4
      · by_cases hk : k = i
        · subst hk
          rw [hoi] at h3; cases h3
          simp only [Nat.le_refl, if_true, if_neg (show ¬ k + 1 ≤ k by omega), e1, e2, e3]
          exact ⟨hdk, hput⟩
        · simp only [if_neg (show ¬ k ≤ i by omega), if_neg (show ¬ k + 1 ≤ i by omega)]
          exact e5 k o' (by omega) h2 h3
    simp only [List.length_cons]
    cases hg : guardOk ops env o.guard with
    | none => simp only [hg] at ho; exact absurd ho.symm hne
    | some b =>
      cases b with
      | false =>
        simp only [hg] at ho
        obtain ⟨env', hp, hk⟩ := putE_inv ho hne
        exact one _ _ _ _ (.skip hg) hp hk
      | true =>
        simp only [hg, dStep] at ho
        cases hc : clsOf o.op with
        | pure =>
          simp only [hc, dPure] at ho
          split at ho
          · rename_i v h1 hop
            obtain ⟨env', hp, hk⟩ := putE_inv ho hne
            exact one _ _ _ _ (.pur v h1 hg hc hop) hp hk
          · exact absurd ho.symm hne
        | alloc =>
          simp only [hc, dAlloc] at ho
          split at ho
          · rename_i v h1 hop
            split at ho
            · rename_i b hb
              obtain ⟨env', hp, hk⟩ := putE_inv ho hne
              exact one _ _ _ _ (.alc v h1 b hg hc hop hb) hp hk
            · exact absurd ho.symm hne
          · exact absurd ho.symm hne
        | read =>
          simp only [hc, dRead] at ho
          split at ho
          · rename_i v h1 hop
            cases hpr : prevAt P s.pd ⟨i, ms.getD i 0, env, o.op, v⟩ s.prev with
            | false => rw [hpr] at ho; exact absurd ho.symm hne
            | true =>
              rw [hpr] at ho
              simp only [cond_true] at ho
              obtain ⟨env', hp, hk⟩ := putE_inv ho hne
              exact one _ _ _ _ (.rd v h1 hg hc hop hpr) hp hk
          · exact absurd ho.symm hne
        | eff =>
          simp only [hc, dEff] at ho
          cases hch : chainOk (ms.getD i 0) s.prev with
          | false => rw [hch] at ho; exact absurd ho.symm hne
          | true =>
            rw [hch] at ho
            simp only [cond_true] at ho
            obtain ⟨v, h1, hk, hs⟩ := stepOp_S hrec horc ho hne
            cases hrd : rdsAt P (ms.getD i 0) (keepP (ms.getD i 0) s.pd) h1 s.rds with
            | false => rw [hrd] at hk; exact absurd hk.symm hne
            | true =>
              rw [hrd] at hk
              simp only [cond_true] at hk
              obtain ⟨env', hp, hk⟩ := putE_inv hk hne
              exact one _ _ _ _ (.eff v h1 hg hc hch hs hrd) hp hk
end Ab

namespace Ab
open Go
variable {P : Program} {ι : Emb} {h h' : AHeap} {w : World}

abbrev msk (ops : Array Oper) (i : Nat) : Nat := (Region.before ops).getD i 0
structure Tr (P : Program) (ops : Array Oper) (nt base : Nat) (E : Nat → Env) (H : Nat → AHeap) (S : Nat → DSt) (V : Nat → AVal) : Prop where
  step : ∀ k o, ops[k]? = some o → DK P base (msk ops k) k ops o (E k) (H k) (S k) (V k) (H (k + 1)) (S (k + 1)) ∧ PutE nt o.dst (V k) (E k) (E (k + 1))
  zero : S 0 = ⟨[], [], []⟩

section
variable {ops : Array Oper} {nt base : Nat} {E : Nat → Env} {H : Nat → AHeap} {S : Nat → DSt} {V : Nat → AVal}

def isEff (ops : Array Oper) (E : Nat → Env) (k : Nat) : Prop := ∃ o, ops[k]? = some o ∧ guardOk ops (E k) o.guard = some true ∧ clsOf o.op = .eff
def isRd (ops : Array Oper) (E : Nat → Env) (k : Nat) (o : Oper) : Prop := ops[k]? = some o ∧ guardOk ops (E k) o.guard = some true ∧ clsOf o.op = .read
def isAlc (P : Program) (ops : Array Oper) (base : Nat) (E : Nat → Env) (H : Nat → AHeap) (k : Nat) (b : ABlk) : Prop :=
  ∃ o v h1, ops[k]? = some o ∧ guardOk ops (E k) o.guard = some true ∧ clsOf o.op = .alloc ∧ aop P (evalO P (E k)) ⟨base + k, (H k).t⟩ o.op = .val v h1 ∧ h1.t.get (base + k) = some b

theorem getop {ops : Array Oper} {k : Nat} (hk : k < ops.size) : ∃ o, ops[k]? = some o := ⟨ops[k], by simp [hk]⟩

theorem env_old (tr : Tr P ops nt base E H S V) : ∀ k, k ≤ ops.size → ∀ t, (∀ j o, j < k → ops[j]? = some o → o.dst ≠ some t) → (E k).get t = (E 0).get t := by
  intro k
  induction k with
  | zero => intros; rfl
  | succ k ih =>
    intro hk t hn
    obtain ⟨o, ho⟩ := getop (show k < ops.size by omega)
    have hp := (tr.step k o ho).2
    have hne := hn k o (by omega) ho
    have := ih (by omega) t fun j o' hj => hn j o' (by omega)
    unfold PutE at hp
    split at hp
    · rw [hp]; exact this
    · rename_i d hd
      rw [hp.2, get_set, if_neg (fun e => hne (by rw [hd, e]))]; exact this
theorem env_new (tx : Text ops) (tr : Tr P ops nt base E H S V) {j : Nat} {o : Oper} {t : Tmp} (hj : ops[j]? = some o) (hd : o.dst = some t) : ∀ k, j < k → k ≤ ops.size → (E k).get t = some (V j) := by
  intro k
  induction k with
  | zero => intro h; omega
  | succ k ih =>
    intro hjk hk
    obtain ⟨o', ho⟩ := getop (show k < ops.size by omega)
    have hp := (tr.step k o' ho).2
    by_cases e : j = k
    · subst e
      rw [hj] at ho; cases ho
      unfold PutE at hp
      rw [hd] at hp
      rw [hp.2, get_set, if_pos rfl]
    · have := ih (by omega) (by omega)
      unfold PutE at hp
      split at hp
      · rw [hp]; exact this
      · rename_i d hdd
        rw [hp.2, get_set, if_neg (fun ee => e (by rw [ee] at hdd; exact (tx.once k o' t ho hdd j o hj hd)))]; exact this
theorem H_same (tr : Tr P ops nt base E H S V) {k : Nat} (hk : k < ops.size) (hn : ¬ isEff ops E k) : H (k + 1) = H k := by
  obtain ⟨o, ho⟩ := getop hk
  have hd := (tr.step k o ho).1
  generalize H (k + 1) = h1 at hd ⊢
  generalize S (k + 1) = s1 at hd
  generalize V k = v1 at hd
  cases hd with
  | eff v h' hg hc => exact absurd ⟨o, ho, hg, hc⟩ hn
  | skip => rfl
  | pur => rfl
  | alc => rfl
  | rd => rfl
theorem H_range (tr : Tr P ops nt base E H S V) {c : Nat} : ∀ d, c ≤ d → d ≤ ops.size → (∀ e, c ≤ e → e < d → ¬ isEff ops E e) → H d = H c := by
  intro d
  induction d with
  | zero => intro h _ _; rw [show c = 0 by omega]
  | succ d ih =>
    intro h1 h2 h3
    by_cases e : c = d + 1
    · rw [e]
    · rw [H_same tr (by omega) (h3 d (by omega) (by omega))]
      exact ih (by omega) (by omega) fun e he1 he2 => h3 e he1 (by omega)
/-- what is pending, what was read, what acted -/
theorem pd_mem (tr : Tr P ops nt base E H S V) : ∀ k, k ≤ ops.size → ∀ p ∈ (S k).pd, ∃ j b, j < k ∧ p = (j, base + j, b) ∧ isAlc P ops base E H j b ∧ ∀ e, isEff ops E e → e < k → j < e → Nat.testBit (msk ops e) j = false := by
  intro k
  induction k with
  | zero => intro _ p hp; rw [tr.zero] at hp; cases hp
  | succ k ih =>
    intro hk p hp
    obtain ⟨o, ho⟩ := getop (show k < ops.size by omega)
    have hd := (tr.step k o ho).1
    have old : ∀ p ∈ (S k).pd, (isEff ops E k → Nat.testBit (msk ops k) p.1 = false) → ∃ j b, j < k + 1 ∧ p = (j, base + j, b) ∧ isAlc P ops base E H j b ∧ ∀ e, isEff ops E e → e < k + 1 → j < e → Nat.testBit (msk ops e) j = false := by
      intro p hp hm
      obtain ⟨j, b, h1, h2, h3, h4⟩ := ih (by omega) p hp
      refine ⟨j, b, by omega, h2, h3, fun e he hek hje => ?_⟩
      by_cases hh : e = k
      · subst hh; have := hm he; rw [h2] at this; exact this
      · exact h4 e he (by omega) hje
    have noeff : ∀ {g : Option Bool} {c : Cls}, guardOk ops (E k) o.guard = g → (g = some true → clsOf o.op = c ∧ c ≠ .eff) → ¬ isEff ops E k := by
      intro g c hg hc ⟨o', ho', hg', hc'⟩
      rw [ho] at ho'; cases ho'
      rw [hg] at hg'
      obtain ⟨h1, h2⟩ := hc hg'
      rw [hc'] at h1
      exact h2 h1.symm
    generalize H (k + 1) = h1 at hd
    generalize hs1 : S (k + 1) = s1 at hd hp
    generalize V k = v1 at hd
    cases hd with
    | skip hg => exact old p hp fun he => absurd he (noeff (c := .pure) hg (by simp))
    | pur v h1 hg hc => exact old p hp fun he => absurd he (noeff hg fun _ => ⟨hc, by simp⟩)
    | rd v h1 hg hc => exact old p hp fun he => absurd he (noeff hg fun _ => ⟨hc, by simp⟩)
    | alc v h1 b hg hc hop hb =>
      rcases List.mem_cons.1 hp with e | hp
      · refine ⟨k, b, by omega, e, ⟨o, _, _, ho, hg, hc, hop, hb⟩, fun e he hek hje => by omega⟩
      · exact old p hp fun he => absurd he (noeff hg fun _ => ⟨hc, by simp⟩)
    | eff v h' hg hc hch hs hrd =>
      have := mem_keepP.1 hp
      exact old p this.1 fun _ => this.2
theorem rd_mem (tr : Tr P ops nt base E H S V) {j : Nat} {o : Oper} (hj : isRd ops E j o) : ∀ k, j < k → k ≤ ops.size → (⟨j, msk ops j, E j, o.op, V j⟩ : Rd) ∈ (S k).rds := by
  intro k
  induction k with
  | zero => intro h; omega
  | succ k ih =>
    intro hjk hk
    obtain ⟨o', ho⟩ := getop (show k < ops.size by omega)
    have hd := (tr.step k o' ho).1
    by_cases e : j = k
    · subst e
      obtain ⟨h1, h2, h3⟩ := hj
      rw [h1] at ho; cases ho
      generalize H (j + 1) = x1 at hd
      generalize hs1 : S (j + 1) = s1 at hd
      generalize V j = v1 at hd
      cases hd with
      | skip hg => rw [h2] at hg; cases hg
      | pur v h1 hg hc => rw [h3] at hc; cases hc
      | rd v h1 hg hc => exact List.mem_cons_self
      | alc v h1 b hg hc => rw [h3] at hc; cases hc
      | eff v h' hg hc => rw [h3] at hc; cases hc
    · have old := ih (by omega) (by omega)
      generalize H (k + 1) = x1 at hd
      generalize hs1 : S (k + 1) = s1 at hd
      generalize V k = v1 at hd
      cases hd with
      | skip hg => exact old
      | pur v h1 hg hc => exact old
      | rd v h1 hg hc => exact List.mem_cons_of_mem _ old
      | alc v h1 b hg hc => exact old
      | eff v h' hg hc => exact old
theorem prev_mem (tr : Tr P ops nt base E H S V) {e : Nat} (he : isEff ops E e) : ∀ k, e < k → k ≤ ops.size → (e, H e) ∈ (S k).prev := by
  intro k
  induction k with
  | zero => intro h; omega
  | succ k ih =>
    intro hjk hk
    obtain ⟨o', ho⟩ := getop (show k < ops.size by omega)
    have hd := (tr.step k o' ho).1
    by_cases ee : e = k
    · subst ee
      obtain ⟨o, h1, h2, h3⟩ := he
      rw [h1] at ho; cases ho
      generalize H (e + 1) = x1 at hd
      generalize hs1 : S (e + 1) = s1 at hd
      generalize V e = v1 at hd
      cases hd with
      | skip hg => rw [h2] at hg; cases hg
      | pur v h1 hg hc => rw [h3] at hc; cases hc
      | rd v h1 hg hc => rw [h3] at hc; cases hc
      | alc v h1 b hg hc => rw [h3] at hc; cases hc
      | eff v h' hg hc => exact List.mem_cons_self
    · have old := ih (by omega) (by omega)
      generalize H (k + 1) = x1 at hd
      generalize hs1 : S (k + 1) = s1 at hd
      generalize V k = v1 at hd
      cases hd with
      | skip hg => exact old
      | pur v h1 hg hc => exact old
      | rd v h1 hg hc => exact old
      | alc v h1 b hg hc => exact old
      | eff v h' hg hc => exact List.mem_cons_of_mem _ old
/-- the last that acted stands at the head -/
theorem prev_head (tr : Tr P ops nt base E H S V) : ∀ k, k ≤ ops.size → ((S k).prev = [] ∧ ∀ e, e < k → ¬ isEff ops E e) ∨ (∃ e x l, (S k).prev = (e, x) :: l ∧ isEff ops E e ∧ e < k ∧ ∀ e', e' < k → isEff ops E e' → e' ≤ e) := by
  intro k
  induction k with
  | zero => intro _; exact .inl ⟨by rw [tr.zero], fun e h => by omega⟩
  | succ k ih =>
    intro hk
    obtain ⟨o, ho⟩ := getop (show k < ops.size by omega)
    have hd := (tr.step k o ho).1
    have old := ih (by omega)
    have noeff : ∀ {g : Option Bool} {c : Cls}, guardOk ops (E k) o.guard = g → (g = some true → clsOf o.op = c ∧ c ≠ .eff) → ¬ isEff ops E k := by
      intro g c hg hc ⟨o', ho', hg', hc'⟩
      rw [ho] at ho'; cases ho'
      rw [hg] at hg'
      obtain ⟨h1, h2⟩ := hc hg'
      rw [hc'] at h1
      exact h2 h1.symm
    have keep : ∀ (s1 : DSt), s1.prev = (S k).prev → ¬ isEff ops E k → (s1.prev = [] ∧ ∀ e, e < k + 1 → ¬ isEff ops E e) ∨ (∃ e x l, s1.prev = (e, x) :: l ∧ isEff ops E e ∧ e < k + 1 ∧ ∀ e', e' < k + 1 → isEff ops E e' → e' ≤ e) := by
      intro s1 hs hn
      rw [hs]
      rcases old with ⟨h1, h2⟩ | ⟨e, x, l, h1, h2, h3, h4⟩
      · exact .inl ⟨h1, fun e he => by by_cases hh : e = k; (subst hh; exact hn); exact h2 e (by omega)⟩
      · exact .inr ⟨e, x, l, h1, h2, by omega, fun e' he' hi => by by_cases hh : e' = k; (subst hh; exact absurd hi hn); exact h4 e' (by omega) hi⟩
    generalize H (k + 1) = x1 at hd
    generalize hs1 : S (k + 1) = s1 at hd ⊢
    generalize V k = v1 at hd
    cases hd with
    | skip hg => exact keep _ rfl (noeff (c := .pure) hg (by simp))
    | pur v h1 hg hc => exact keep _ rfl (noeff hg fun _ => ⟨hc, by simp⟩)
    | rd v h1 hg hc => exact keep _ rfl (noeff hg fun _ => ⟨hc, by simp⟩)
    | alc v h1 b hg hc => exact keep _ rfl (noeff hg fun _ => ⟨hc, by simp⟩)
    | eff v h' hg hc => exact .inr ⟨k, H k, _, rfl, ⟨o, ho, hg, hc⟩, by omega, fun e' he' _ => by omega⟩
end
end Ab

namespace Ab
open Go
variable {P : Program} {ι : Emb} {h h' : AHeap} {w : World}
variable {ops : Array Oper} {nt base : Nat} {E : Nat → Env} {H : Nat → AHeap} {S : Nat → DSt} {V : Nat → AVal}

/-- not taken in by what acted before c -/
def loose (ops : Array Oper) (E : Nat → Env) (c j : Nat) : Prop := ∀ e, isEff ops E e → e < c → Nat.testBit (msk ops e) j = false

structure Stage (P : Program) (ops : Array Oper) (nt base : Nat) (E : Nat → Env) (H : Nat → AHeap) (V : Nat → AVal) (h0 : AHeap) (ι0 : Emb) (w0 : World) (d0 : List Deferred) (L : Nat → Prop) (c : Nat) (a : Act) (w : World) (ι : Emb) (X : AHeap) : Prop where
  cn : c ≤ ops.size
  eff : ∀ e, isEff ops E e → (L e ↔ e < c)
  closed : ∀ i, L i → i < ops.size ∧ ∀ j, Nat.testBit (msk ops i) j = true → L j
  st : St P ι X w
  fr : Fr h0 ι0 w0 X ι w
  room : base + ops.size ≤ X.next
  low : h0.next ≤ base
  next : X.next = (H c).next
  hin : ∀ i x, (H c).t.get i = some x → X.t.get i = some x
  pin : ∀ j b, L j → isAlc P ops base E H j b → loose ops E c j → X.t.get (base + j) = some b
  free : ∀ j, j < ops.size → ¬ L j → ∀ e, ι (base + j) e = none
  clean : ∀ j, j < ops.size → loose ops E c j → (∃ b, isAlc P ops base E H j b) → (H c).t.get (base + j) = none
  size : a.tmps.size = nt
  defs : a.defers = d0
  new : ∀ i o d, L i → ops[i]? = some o → o.dst = some d → VR ι (V i) (a.tmps.getD d undef)
  old : ∀ t v, (∀ i o, L i → ops[i]? = some o → o.dst ≠ some t) → (E 0).get t = some v → t < nt ∧ VR ι v (a.tmps.getD t undef)

variable {h0 : AHeap} {ι0 : Emb} {w0 : World} {d0 : List Deferred} {L : Nat → Prop} {c : Nat} {a : Act} {X : AHeap}

theorem mem_tmpsOf {t : Tmp} : ∀ {l : List Operand}, Operand.tmp t ∈ l → t ∈ tmpsOf l
  | x :: l, hm => by
    rcases List.mem_cons.1 hm with e | hm
    · subst e; simp [tmpsOf]
    · have ih := mem_tmpsOf hm
      cases x <;> simp only [tmpsOf] <;> first | exact ih | exact List.mem_cons_of_mem _ ih
theorem mem_looks {o : Oper} {t : Tmp} (hm : Operand.tmp t ∈ o.op.operands) : t ∈ looks ops o := by
  have : t ∈ tmpsOf o.op.operands.toList := mem_tmpsOf (by simpa using hm)
  unfold looks
  split
  · split
    · exact List.mem_cons_of_mem _ this
    · exact this
  · exact this

/-- what an operation looks at reads as the evaluator read it -/
theorem Stage.tmp (tx : Text ops) (tr : Tr P ops nt base E H S V) (s : Stage P ops nt base E H V h0 ι0 w0 d0 L c a w ι X) {i : Nat} {o : Oper} (hi : ops[i]? = some o) (hnl : ¬ L i) (hm : ∀ j, Nat.testBit (msk ops i) j = true → L j) {t : Tmp} (ht : t ∈ looks ops o)
    {v : AVal} (hv : (E i).get t = some v) (hnt : ∀ (j : Nat) (o : Oper) (d : Tmp), ops[j]? = some o → o.dst = some d → d < nt) : t < nt ∧ VR ι v (a.tmps.getD t undef) := by
  have hin := (Array.getElem?_eq_some_iff.1 hi).1
  by_cases hd : ∃ (j : Nat) (o' : Oper), ops[j]? = some o' ∧ o'.dst = some t
  · obtain ⟨j, o', hj, hjd⟩ := hd
    have late : i ≤ j → ¬ L j → t < nt ∧ VR ι v (a.tmps.getD t undef) := by
      intro hij hnj
      rw [env_old tr i (by omega) t fun k o2 hk h2 h3 => by have := tx.once j o' t hj hjd k o2 h2 h3; omega] at hv
      exact s.old t v (fun k o2 hk h2 h3 => hnj (by rw [← tx.once j o' t hj hjd k o2 h2 h3]; exact hk)) hv
    rcases tx.reads i o hi t ht j o' hj hjd with hb | hb | hb
    · have hji := tx.below i o hi j hb
      have := env_new tx tr hj hjd i hji (by omega)
      rw [this] at hv; cases hv
      exact ⟨hnt j o' t hj hjd, s.new j o' t (hm j hb) hj hjd⟩
    · subst hb; exact late (Nat.le_refl _) hnl
    · exact late (Nat.le_of_lt (tx.below j o' hj i hb)) fun hl => hnl ((s.closed j hl).2 i hb)
  · have hn : ∀ (j : Nat) (o' : Oper), ops[j]? = some o' → o'.dst ≠ some t := fun j o' hj hjd => hd ⟨j, o', hj, hjd⟩
    rw [env_old tr i (by omega) t fun j o' _ hj => hn j o' hj] at hv
    exact s.old t v (fun j o' _ hj => hn j o' hj) hv

theorem Stage.operand (tx : Text ops) (tr : Tr P ops nt base E H S V) (s : Stage P ops nt base E H V h0 ι0 w0 d0 L c a w ι X) {i : Nat} {o : Oper} (hi : ops[i]? = some o) (hnl : ¬ L i) (hm : ∀ j, Nat.testBit (msk ops i) j = true → L j)
    (hnt : ∀ (j : Nat) (o : Oper) (d : Tmp), ops[j]? = some o → o.dst = some d → d < nt) : ∀ x ∈ o.op.operands, VR ι (evalO P (E i) x) (a.eval x) := by
  intro x hx
  cases x with
  | tmp t =>
    simp only [evalO, Act.eval]
    cases hv : (E i).get t with
    | none => simp [VR]
    | some v => exact (s.tmp tx tr hi hnl hm (mem_looks hx) hv hnt).2
  | const v =>
    simp only [evalO, Act.eval]
    cases hv : ofValue v with
    | none => simp [VR]
    | some x => exact ofValue_VR hv
  | global g =>
    simp only [evalO, Act.eval]
    cases hb : Nat.blt g P.globals.size with
    | false => simp [VR]
    | true =>
      obtain ⟨p, hp, e⟩ := s.st.glob g (blt_iff.1 hb)
      simp only [cond_true, VR]
      exact ⟨p, hp, by rw [e]⟩
  | func f =>
    simp only [evalO, Act.eval, VR]
    exact ⟨_, _, _, rfl, rfl, VRs.nil, VRs.nil⟩
end Ab

namespace Ab
open Go
variable {P : Program} {ι : Emb} {h h' : AHeap} {w : World}
variable {ops : Array Oper} {nt base : Nat} {E : Nat → Env} {H : Nat → AHeap} {S : Nat → DSt} {V : Nat → AVal}
variable {h0 : AHeap} {ι0 : Emb} {w0 : World} {d0 : List Deferred} {L : Nat → Prop} {c : Nat} {a : Act} {X : AHeap}

theorem guardOk_L {env : Env} {o : Oper} {b : Bool} {tmps : Array Value} (he : ∀ t ∈ looks ops o, ∀ v, env.get t = some v → t < tmps.size ∧ VR ι v (tmps.getD t undef)) (hg : guardOk ops env o.guard = some b) : Region.wanted o (yielded ops tmps) = b := by
  unfold guardOk at hg
  unfold Region.wanted
  split at hg
  · rename_i hg0; rw [hg0]; simpa using hg
  · rename_i j want hg0
    rw [hg0]
    simp only
    split at hg
    · cases hg
    · rename_i d hd
      have hlook : d ∈ looks ops o := by
        unfold looks
        rw [hg0]
        simp [hd]
      split at hg
      · cases hg
        rename_i v hv
        obtain ⟨h1, h2⟩ := he d hlook _ hv
        have hb := h2.bool_inv
        have ht : tmps[d]? = some (.bool v) := by
          rw [Array.getD_eq_getD_getElem?] at hb
          rw [Array.getElem?_eq_getElem h1] at hb ⊢
          simp at hb; rw [hb]
        have hy : yielded ops tmps j = some v := by
          unfold yielded
          rw [hd]
          simp [ht]
        rw [hy]
        cases v <;> cases want <;> rfl
      · cases hg
        rename_i hv
        obtain ⟨h1, h2⟩ := he d hlook _ hv
        obtain ⟨cs, hc, _⟩ := h2.tuple_inv
        have hy : yielded ops tmps j = none := by
          unfold yielded
          rw [hd]
          rw [Array.getD_eq_getD_getElem?, Array.getElem?_eq_getElem h1] at hc
          simp at hc
          simp [h1, hc]
        rw [hy]
        rfl
      · cases hg

/-- an operation's value is laid -/
theorem Stage.put (tx : Text ops) (s : Stage P ops nt base E H V h0 ι0 w0 d0 L c a w ι X) {i : Nat} {o : Oper} {u : Value} {ι' : Emb} {c' : Nat} {w' : World} {X' : AHeap} {env : Env} (hi : ops[i]? = some o) (hm : ∀ j, Nat.testBit (msk ops i) j = true → L j)
    (hp : PutE nt o.dst (V i) (E i) env) (hle : ι.le ι') (hu : VR ι' (V i) u) (cn : c' ≤ ops.size) (eff : ∀ e, isEff ops E e → (L e ∨ e = i ↔ e < c')) (st : St P ι' X' w') (fr : Fr h0 ι0 w0 X' ι' w') (room : base + ops.size ≤ X'.next) (next : X'.next = (H c').next)
    (hin : ∀ i x, (H c').t.get i = some x → X'.t.get i = some x)
    (pin : ∀ j b, L j ∨ j = i → isAlc P ops base E H j b → loose ops E c' j → X'.t.get (base + j) = some b)
    (free : ∀ j, j < ops.size → ¬ (L j ∨ j = i) → ∀ e, ι' (base + j) e = none)
    (clean : ∀ j, j < ops.size → loose ops E c' j → (∃ b, isAlc P ops base E H j b) → (H c').t.get (base + j) = none) :
    Stage P ops nt base E H V h0 ι0 w0 d0 (fun j => L j ∨ j = i) c' (a.put o.dst u) w' ι' X' := by
  have hsz : (a.put o.dst u).tmps.size = nt := by cases hd : o.dst <;> simp [Act.put, s.size]
  refine ⟨cn, eff, ?_, st, fr, room, s.low, next, hin, pin, free, clean, hsz, ?_, ?_, ?_⟩
  · intro j hj
    rcases hj with hj | hj
    · exact ⟨(s.closed j hj).1, fun k hk => .inl ((s.closed j hj).2 k hk)⟩
    · subst hj; exact ⟨(Array.getElem?_eq_some_iff.1 hi).1, fun k hk => .inl (hm k hk)⟩
  · cases hd : o.dst <;> simp [Act.put, s.defs]
  · intro j o' d hj hoj hd
    by_cases hji : j = i
    · subst hji
      rw [hi] at hoj; cases hoj
      unfold PutE at hp
      rw [hd] at hp ⊢
      simp only [Act.put]
      rw [Array.getD_eq_getD_getElem?, Array.getElem?_setIfInBounds_self_of_lt (by rw [s.size]; exact hp.1)]
      exact hu
    · have hold := VR.mono hle _ _ (s.new j o' d (hj.resolve_right hji) hoj hd)
      cases hdi : o.dst with
      | none => exact hold
      | some d' =>
        have hne : d' ≠ d := fun e => by subst e; exact hji (tx.once i o d' hi hdi j o' hoj hd)
        simp only [Act.put]
        rw [Array.getD_eq_getD_getElem?, Array.getElem?_setIfInBounds_ne hne, ← Array.getD_eq_getD_getElem?]
        exact hold
  · intro t v hn hv
    obtain ⟨g1, g2⟩ := s.old t v (fun j o' hj => hn j o' (.inl hj)) hv
    refine ⟨g1, ?_⟩
    have hold := VR.mono hle _ _ g2
    cases hdi : o.dst with
    | none => exact hold
    | some d' =>
      have hne : d' ≠ t := fun e => by subst e; exact hn i o (.inr rfl) hi hdi
      simp only [Act.put]
      rw [Array.getD_eq_getD_getElem?, Array.getElem?_setIfInBounds_ne hne, ← Array.getD_eq_getD_getElem?]
      exact hold
end Ab

namespace Ab
open Go
variable {P : Program} {ι : Emb} {h h' : AHeap} {w : World}
variable {ops : Array Oper} {nt base : Nat} {E : Nat → Env} {H : Nat → AHeap} {S : Nat → DSt} {V : Nat → AVal}
variable {h0 : AHeap} {ι0 : Emb} {w0 : World} {d0 : List Deferred} {L : Nat → Prop} {c : Nat} {a : Act} {X : AHeap}

theorem dom_free {ι' : Emb} {X' : AHeap} {w' : World} (st : St P ι X w) (f : Fr X ι w X' ι' w') {b : Nat} (hb : b < X.next) (hf : ∀ e, ι b e = none) : ∀ e, ι' b e = none := by
  intro e
  cases hq : ι' b e with
  | none => rfl
  | some p =>
    rcases f.dom b e p hq with h1 | h1 | ⟨y, h1⟩
    · rw [hf e] at h1; cases h1
    · omega
    · obtain ⟨q, hq', _⟩ := st.blk b y h1
      rw [hf y.ep] at hq'; cases hq'

/-- the heap as it was: the next stage -/
theorem Stage.calm (tx : Text ops) (s : Stage P ops nt base E H V h0 ι0 w0 d0 L c a w ι X) {i : Nat} {o : Oper} {u : Value} {ι' : Emb} {w' : World} {env : Env} (hi : ops[i]? = some o) (hm : ∀ j, Nat.testBit (msk ops i) j = true → L j)
    (hp : PutE nt o.dst (V i) (E i) env) (hu : VR ι' (V i) u) (hne : ¬ isEff ops E i) (hna : ∀ b, ¬ isAlc P ops base E H i b) (st : St P ι' X w') (f : Fr X ι w X ι' w') :
    Stage P ops nt base E H V h0 ι0 w0 d0 (fun j => L j ∨ j = i) c (a.put o.dst u) w' ι' X :=
  s.put tx hi hm hp f.le hu s.cn
    (fun e he => by
      rw [← s.eff e he]
      constructor
      · rintro (h | h)
        · exact h
        · subst h; exact absurd he hne
      · exact .inl)
    st (s.fr.trans f) s.room s.next s.hin
    (fun j b hj hb hl => by
      rcases hj with hj | hj
      · exact s.pin j b hj hb hl
      · subst hj; exact absurd hb (hna b))
    (fun j hj hn => dom_free s.st f (by have := s.room; omega) (s.free j hj fun h => hn (.inl h)))
    s.clean
end Ab

namespace Ab
open Go
variable {P : Program} {ι : Emb} {h h' : AHeap} {w : World}
variable {ops : Array Oper} {nt base : Nat} {E : Nat → Env} {H : Nat → AHeap} {S : Nat → DSt} {V : Nat → AVal}
variable {h0 : AHeap} {ι0 : Emb} {w0 : World} {d0 : List Deferred} {L : Nat → Prop} {c : Nat} {a : Act} {X : AHeap}

theorem val_wp {r : Option Nat} {o : Oper} {ρ : Operand → AVal} {v : AVal} {Y Y' : AHeap} {next : Act → World → Prop} {Q : Exit → Act → World → Prop} (st : St P ι Y w) (hx : ∀ x ∈ o.op.operands, VR ι (ρ x) (a.eval x)) (ho : aop P ρ Y o.op = .val v Y')
    (hk : ∀ u ι' w', VR ι' v u → St P ι' Y' w' → Fr Y ι w Y' ι' w' → next (a.put o.dst u) w') : o.wpIn (Fw r) 0 P a w next Q := by
  have hd : ∀ c, o.op ≠ .defer c := fun c e => by rw [e] at ho; simp [aop] at ho
  obtain ⟨x, w', u, ι', hr, hx', hv, hs, hf⟩ := aop_val st (only_VR hx) o (by rw [← only_aop]; exact ho)
  refine ⟨fun f _ => Fw_fn r f, ?_⟩
  rw [Oper.semAt_eq _ _ _ hd, hr]
  rcases hx' with hx' | ⟨hx', hu⟩
  · subst hx'; exact hk _ _ _ hv hs hf
  · subst hx'; subst hu; exact hk _ _ _ hv hs hf

/-- what was read at a part of the heap at this stage -/
theorem Stage.reads (s : Stage P ops nt base E H V h0 ι0 w0 d0 L c a w ι X) (Y : AHeap) (hn : Y.next = X.next) (m : Nat) (hm : ∀ j, Nat.testBit m j = true → L j) (pd : Pend)
    (hpd : ∀ p ∈ pd, Nat.testBit m p.1 = true → ∃ b, p = (p.1, base + p.1, b) ∧ isAlc P ops base E H p.1 b ∧ loose ops E c p.1) (hY : Y = { next := X.next, t := addP (needP m pd) (H c).t }) : Sub Y X := by
  subst hY
  refine ⟨rfl, fun i x hx => ?_⟩
  rw [get_addP] at hx
  split at hx
  · rename_i p hp
    have h1 := List.mem_of_find?_eq_some hp
    have h2 := List.find?_some hp
    obtain ⟨h3, h4⟩ := mem_needP.1 h1
    obtain ⟨b, h5, h6, h7⟩ := hpd p h3 h4
    cases hx
    have := s.pin p.1 b (hm _ h4) h6 h7
    rw [h5] at h2
    simp at h2
    rw [← h2, this, h5]
  · exact s.hin i x hx

theorem Stage.pure_step (tx : Text ops) (tr : Tr P ops nt base E H S V) (s : Stage P ops nt base E H V h0 ι0 w0 d0 L c a w ι X) {i : Nat} {o : Oper} (hi : ops[i]? = some o) (hnl : ¬ L i) (hm : ∀ j, Nat.testBit (msk ops i) j = true → L j)
    (hnt : ∀ (j : Nat) (o : Oper) (d : Tmp), ops[j]? = some o → o.dst = some d → d < nt) {r : Option Nat} {Q : Exit → Act → World → Prop} {K : Act → World → Prop}
    (hne : ¬ isEff ops E i) (hna : ∀ b, ¬ isAlc P ops base E H i b) {Y : AHeap} (hsub : Sub Y X) (ho : aop P (evalO P (E i)) Y o.op = .val (V i) Y)
    (hK : ∀ c' a' w' ι' X', Stage P ops nt base E H V h0 ι0 w0 d0 (fun j => L j ∨ j = i) c' a' w' ι' X' → K a' w') : o.wpIn (Fw r) 0 P a w K Q := by
  refine val_wp (s.st.sub hsub) (s.operand tx tr hi hnl hm hnt) ho fun u ι' w' hv st' f => ?_
  obtain ⟨st2, f2⟩ := around (S' := X) s.st hsub st' f (by rw [hsub.1]) fun j x hx => by
    cases hy : Y.t.get j with
    | none => exact .inr ⟨hx, rfl⟩
    | some y => left; have := hsub.2 j y hy; rw [hx] at this; cases this; first | exact hy | rfl
  exact hK _ _ _ _ _ (s.calm tx hi hm (tr.step i o hi).2 hv hne hna st2 f2)
end Ab

namespace Ab
open Go
variable {P : Program} {ι : Emb} {h h' : AHeap} {w : World}
variable {ops : Array Oper} {nt base : Nat} {E : Nat → Env} {H : Nat → AHeap} {S : Nat → DSt} {V : Nat → AVal}
variable {h0 : AHeap} {ι0 : Emb} {w0 : World} {d0 : List Deferred} {L : Nat → Prop} {c : Nat} {a : Act} {X : AHeap}

theorem Stage.alloc_step (tx : Text ops) (tr : Tr P ops nt base E H S V) (s : Stage P ops nt base E H V h0 ι0 w0 d0 L c a w ι X) {i : Nat} {o : Oper} (hi : ops[i]? = some o) (hnl : ¬ L i) (hm : ∀ j, Nat.testBit (msk ops i) j = true → L j)
    (hnt : ∀ (j : Nat) (o : Oper) (d : Tmp), ops[j]? = some o → o.dst = some d → d < nt) {r : Option Nat} {Q : Exit → Act → World → Prop} {K : Act → World → Prop}
    (hg : guardOk ops (E i) o.guard = some true) (hc : clsOf o.op = .alloc) {h1 : AHeap} (ho : aop P (evalO P (E i)) ⟨base + i, (H i).t⟩ o.op = .val (V i) h1)
    (hK : ∀ c' a' w' ι' X', Stage P ops nt base E H V h0 ι0 w0 d0 (fun j => L j ∨ j = i) c' a' w' ι' X' → K a' w') : o.wpIn (Fw r) 0 P a w K Q := by
  have hin := (Array.getElem?_eq_some_iff.1 hi).1
  have hd : ∀ c, o.op ≠ .defer c := fun c e => by rw [e] at ho; simp [aop] at ho
  obtain ⟨blk, e1, sm, e2, obj, n, u, hrun, hep, hall⟩ := alloc_S (w := w) (only_VR (s.operand tx tr hi hnl hm hnt)) o hc (by rw [← only_aop]; exact ho)
  have hfree := s.free i hin hnl
  have hle : ι.le (ι.upd (base + i) 0 ⟨w.heap.size, n⟩) := Emb.le_upd (hfree 0)
  obtain ⟨hv, hbr⟩ := hall _ hle (Emb.upd_self _ _ _ _)
  obtain ⟨st2, f2⟩ := newAt s.st s.fr (b0 := base + i) (w' := { w with heap := w.heap.push obj }) (by have := s.low; omega) (by have := s.room; omega) hfree n hep rfl rfl rfl (hbr _ (by simp))
  have hne : ¬ isEff ops E i := fun ⟨o', h1, _, h3⟩ => by rw [hi] at h1; cases h1; rw [hc] at h3; cases h3
  have hblk : ∀ b, isAlc P ops base E H i b → b = blk := by
    intro b ⟨o', v, h2, g1, g2, g3, g4, g5⟩
    rw [hi] at g1; cases g1
    rw [ho] at g4; cases g4
    rw [e1] at g5
    simp [AHeap.new] at g5
    exact g5.symm
  refine ⟨fun f _ => Fw_fn r f, ?_⟩
  rw [Oper.semAt_eq _ _ _ hd, e2]
  simp only [Sem.run_bind, hrun, Result.andThen, Sem.run_pure]
  refine hK c _ _ _ _ (s.put tx hi hm (tr.step i o hi).2 hle hv s.cn ?_ st2 f2 s.room s.next ?_ ?_ ?_ s.clean)
  · intro e he
    rw [← s.eff e he]
    constructor
    · rintro (h | h)
      · exact h
      · subst h; exact absurd he hne
    · exact .inl
  · intro b x hx
    rw [get_set]
    by_cases e : base + i = b
    · subst e
      have := s.hin _ _ hx
      obtain ⟨p, hp, _⟩ := s.st.blk _ _ this
      rw [hfree x.ep] at hp; cases hp
    · rw [if_neg e]; exact s.hin b x hx
  · intro j b hj hb hl
    rw [get_set]
    by_cases e : j = i
    · subst e; rw [if_pos rfl, hblk b hb]
    · rw [if_neg (by omega)]; exact s.pin j b (hj.resolve_right e) hb hl
  · intro j hj hn e
    have hji : j ≠ i := fun h => hn (.inr h)
    rw [Emb.upd_ne _ _ (fun hh => hji (by omega))]
    exact s.free j hj (fun h => hn (.inl h)) e
end Ab

namespace Ab
open Go
variable {P : Program} {ι : Emb} {h h' : AHeap} {w : World}
variable {ops : Array Oper} {nt base : Nat} {E : Nat → Env} {H : Nat → AHeap} {S : Nat → DSt} {V : Nat → AVal}
variable {h0 : AHeap} {ι0 : Emb} {w0 : World} {d0 : List Deferred} {L : Nat → Prop} {c : Nat} {a : Act} {X : AHeap}

theorem loose_of (tx : Text ops) {j k : Nat} (hj : ∀ e, isEff ops E e → e < k → j < e → Nat.testBit (msk ops e) j = false) : loose ops E k j := by
  intro e he hek
  by_cases hje : j < e
  · exact hj e he hek hje
  · obtain ⟨o, ho, _⟩ := he
    cases hb : Nat.testBit (msk ops e) j with
    | false => rfl
    | true => have := tx.below e o ho j hb; omega

noncomputable def extras (n base : Nat) (X a : AHeap) : Pend := (List.range n).filterMap fun j => match X.t.get (base + j), a.t.get (base + j) with
  | some b, none => some (j, base + j, b)
  | _, _ => none
theorem mem_extras {n base : Nat} {X a : AHeap} {p : Nat × Nat × ABlk} (hp : p ∈ extras n base X a) : p.1 < n ∧ p.2.1 = base + p.1 ∧ X.t.get (base + p.1) = some p.2.2 ∧ a.t.get (base + p.1) = none := by
  unfold extras at hp
  obtain ⟨j, hj, hm⟩ := List.mem_filterMap.1 hp
  split at hm
  · rename_i b h1 h2
    cases hm
    exact ⟨List.mem_range.1 hj, rfl, h1, h2⟩
  · cases hm
theorem extras_has {n base j : Nat} {X a : AHeap} {b : ABlk} (hj : j < n) (h1 : X.t.get (base + j) = some b) (h2 : a.t.get (base + j) = none) : ∃ p, (extras n base X a).find? (fun p => p.2.1 == base + j) = some p ∧ p.2.2 = b := by
  have hm : (j, base + j, b) ∈ extras n base X a := List.mem_filterMap.2 ⟨j, List.mem_range.2 hj, by simp [h1, h2]⟩
  cases hf : (extras n base X a).find? (fun p => p.2.1 == base + j) with
  | none => have := List.find?_eq_none.1 hf _ hm; simp at this
  | some p =>
    refine ⟨p, rfl, ?_⟩
    have g1 := List.mem_of_find?_eq_some hf
    have g2 := List.find?_some hf
    obtain ⟨k1, k2, k3, k4⟩ := mem_extras g1
    simp at g2
    have : p.1 = j := by omega
    rw [this, h1] at k3
    exact (Option.some.inj k3).symm

theorem Stage.eff_step (tx : Text ops) (tr : Tr P ops nt base E H S V) (s : Stage P ops nt base E H V h0 ι0 w0 d0 L c a w ι X) {i : Nat} {o : Oper} (hi : ops[i]? = some o) (hnl : ¬ L i) (hm : ∀ j, Nat.testBit (msk ops i) j = true → L j)
    (hnt : ∀ (j : Nat) (o : Oper) (d : Tmp), ops[j]? = some o → o.dst = some d → d < nt) {r : Option Nat} {Q : Exit → Act → World → Prop} {K : Act → World → Prop}
    (hg : guardOk ops (E i) o.guard = some true) (hc : clsOf o.op = .eff) (hch : chainOk (msk ops i) (S i).prev = true) (hS : EffS P o (E i) (need (msk ops i) (S i) (H i)) (V i) (H (i + 1)))
    (hK : ∀ c' a' w' ι' X', Stage P ops nt base E H V h0 ι0 w0 d0 (fun j => L j ∨ j = i) c' a' w' ι' X' → K a' w') : o.wpIn (Fw r) 0 P a w K Q := by
  have hin := (Array.getElem?_eq_some_iff.1 hi).1
  have hei : isEff ops E i := ⟨o, hi, hg, hc⟩
  have hci : c ≤ i := by
    rcases Nat.lt_or_ge i c with hlt | hge
    · exact absurd ((s.eff i hei).2 hlt) hnl
    · exact hge
  have hlow : ∀ e, isEff ops E e → e < i → e < c := by
    intro e he hei'
    rcases prev_head tr i (by omega) with ⟨_, h2⟩ | ⟨e1, x, l, h1, h2, h3, h4⟩
    · exact absurd he (h2 e hei')
    · rw [h1] at hch
      have hl := (s.eff e1 h2).1 (hm e1 hch)
      have := h4 e hei' he
      omega
  have hH : H i = H c := H_range tr i hci (by omega) fun e h1 h2 he => by have := hlow e he h2; omega
  have hloose : ∀ j, loose ops E i j → loose ops E c j := fun j hl e he hec => hl e he (by omega)
  generalize hA : need (msk ops i) (S i) (H i) = A at hS
  have hAn : A.next = X.next := by rw [← hA, s.next, ← hH]; rfl
  have hAg : ∀ j, Nat.testBit (msk ops i) j = false → (H c).t.get (base + j) = none → A.t.get (base + j) = none := by
    intro j hb hn
    rw [← hA]
    simp only [need]
    rw [get_addP]
    split
    · rename_i p hp
      have g1 := mem_needP.1 (List.mem_of_find?_eq_some hp)
      have g2 := List.find?_some hp
      obtain ⟨j', b, _, g3, _⟩ := pd_mem tr i (by omega) p g1.1
      rw [g3] at g2 g1
      simp at g2
      subst g2
      rw [hb] at g1; cases g1.2
    · rw [hH]; exact hn
  have hsub : Sub A X := by
    refine s.reads A hAn (msk ops i) hm (S i).pd (fun p hp _ => ?_) (by rw [← hA, s.next, ← hH]; rfl)
    obtain ⟨j, b, g1, g2, g3, g4⟩ := pd_mem tr i (by omega) p hp
    subst g2
    exact ⟨b, rfl, g3, hloose j (loose_of tx g4)⟩
  refine hS r ι w a K Q (s.st.sub hsub) (s.operand tx tr hi hnl hm hnt) fun u ι' w' hv st' f => ?_
  have hni : ∀ j, j < ops.size → A.t.get (base + j) = none → (H (i + 1)).t.get (base + j) = none := by
    intro j hj hn
    cases hx : (H (i + 1)).t.get (base + j) with
    | none => rfl
    | some x =>
      rcases f.live _ _ hx with h1 | ⟨y, h1⟩
      · have := s.room; omega
      · rw [hn] at h1; cases h1
  obtain ⟨st2, f2⟩ := around (S' := { next := (H (i + 1)).next, t := addP (extras ops.size base X A) (H (i + 1)).t }) s.st hsub st' f rfl fun b x hx => by
    rw [get_addP] at hx
    split at hx
    · rename_i p hp
      obtain ⟨k1, k2, k3, k4⟩ := mem_extras (List.mem_of_find?_eq_some hp)
      have k5 := List.find?_some hp
      simp at k5
      cases hx
      exact .inr ⟨by rw [← k5, k2]; exact k3, by rw [← k5, k2]; exact k4⟩
    · exact .inl hx
  have hna : ∀ b, ¬ isAlc P ops base E H i b := fun b ⟨o', v, h2, g1, g2, g3, _⟩ => by rw [hi] at g1; cases g1; rw [hc] at g3; cases g3
  refine hK (i + 1) _ _ _ _ (s.put tx hi hm (tr.step i o hi).2 f2.le hv hin ?_ st2 (s.fr.trans f2) ?_ rfl ?_ ?_ ?_ ?_)
  · intro e he
    constructor
    · rintro (h | h)
      · have := (s.eff e he).1 h; omega
      · omega
    · intro h
      by_cases ee : e = i
      · exact .inr ee
      · exact .inl ((s.eff e he).2 (hlow e he (by omega)))
  · have := f.next; have := s.room; show base + ops.size ≤ (H (i + 1)).next; omega
  · intro b x hx
    rw [get_addP]
    split
    · rename_i p hp
      obtain ⟨k1, k2, k3, k4⟩ := mem_extras (List.mem_of_find?_eq_some hp)
      have k5 := List.find?_some hp
      simp at k5
      have := hni p.1 k1 k4
      rw [← k2, k5, hx] at this; cases this
    · exact hx
  · intro j b hj hb hl
    have hji : j ≠ i := fun e => by subst e; exact hna b hb
    have hjn : j < ops.size := by obtain ⟨o', _, _, g1, _⟩ := hb; exact (Array.getElem?_eq_some_iff.1 g1).1
    have hlc : loose ops E c j := fun e he hec => hl e he (by omega)
    have h1 := s.pin j b (hj.resolve_right hji) hb hlc
    have h2 := hAg j (hl i hei (by omega)) (s.clean j hjn hlc ⟨b, hb⟩)
    obtain ⟨p, h3, h4⟩ := extras_has hjn h1 h2
    rw [get_addP, h3]
    simp [h4]
  · intro j hj hn
    exact dom_free s.st f2 (by have := s.room; omega) (s.free j hj fun h => hn (.inl h))
  · intro j hj hl hb
    exact hni j hj (hAg j (hl i hei (by omega)) (s.clean j hj (fun e he hec => hl e he (by omega)) hb))
end Ab

namespace Ab
open Go
variable {P : Program} {ι : Emb} {h h' : AHeap} {w : World}
variable {ops : Array Oper} {nt base : Nat} {E : Nat → Env} {H : Nat → AHeap} {S : Nat → DSt} {V : Nat → AVal}
variable {h0 : AHeap} {ι0 : Emb} {w0 : World} {d0 : List Deferred} {L : Nat → Prop} {c : Nat} {a : Act} {X : AHeap}

theorem least {p : Nat → Prop} : ∀ n, p n → ∃ k, p k ∧ ∀ j, j < k → ¬ p j := by
  intro n
  induction n using Nat.strongRecOn with
  | _ n ih =>
    intro hn
    by_cases hh : ∃ j, j < n ∧ p j
    · obtain ⟨j, h1, h2⟩ := hh; exact ih j h1 h2
    · exact ⟨n, hn, fun j hj hp => hh ⟨j, hj, hp⟩⟩
theorem greatest {p : Nat → Prop} : ∀ c, (∃ k, k < c ∧ p k) → ∃ k, k < c ∧ p k ∧ ∀ j, k < j → j < c → ¬ p j := by
  intro c
  induction c with
  | zero => rintro ⟨k, h, _⟩; omega
  | succ c ih =>
    rintro ⟨k, h1, h2⟩
    by_cases hc : p c
    · exact ⟨c, by omega, hc, fun j h3 h4 => by omega⟩
    · obtain ⟨k', g1, g2, g3⟩ := ih ⟨k, by by_cases e : k = c; (subst e; exact absurd h2 hc); omega, h2⟩
      refine ⟨k', by omega, g2, fun j h3 h4 => ?_⟩
      by_cases e : j = c
      · subst e; exact hc
      · exact g3 j h3 (by omega)

theorem Stage.read_at (tx : Text ops) (tr : Tr P ops nt base E H S V) (s : Stage P ops nt base E H V h0 ι0 w0 d0 L c a w ι X) {i : Nat} {o : Oper} (hi : ops[i]? = some o) (hnl : ¬ L i) (hm : ∀ j, Nat.testBit (msk ops i) j = true → L j)
    (hrd : isRd ops E i o) {h1 : AHeap} (ho : aop P (evalO P (E i)) (need (msk ops i) (S i) (H i)) o.op = .val (V i) h1) (hpr : prevAt P (S i).pd ⟨i, msk ops i, E i, o.op, V i⟩ (S i).prev = true) :
    ∃ Y h2, Sub Y X ∧ aop P (evalO P (E i)) Y o.op = .val (V i) h2 := by
  have hin := (Array.getElem?_eq_some_iff.1 hi).1
  have hnotL : ∀ e, isEff ops E e → ¬ L e → Nat.testBit (msk ops i) e = false := fun e _ hl => by
    cases hb : Nat.testBit (msk ops i) e with
    | false => rfl
    | true => exact absurd (hm e hb) hl
  -- what was pending at k, and is loose at c
  have pend : ∀ k, k ≤ ops.size → (∀ e, isEff ops E e → e < c → e < k) → ∀ p ∈ (S k).pd, ∃ b, p = (p.1, base + p.1, b) ∧ isAlc P ops base E H p.1 b ∧ loose ops E c p.1 := by
    intro k hk hle p hp
    obtain ⟨j, b, g1, g2, g3, g4⟩ := pd_mem tr k hk p hp
    subst g2
    exact ⟨b, rfl, g3, fun e he hec => loose_of tx g4 e he (hle e he hec)⟩
  by_cases A1 : ∃ e, c ≤ e ∧ e < i ∧ isEff ops E e
  · obtain ⟨e0, he0⟩ := A1
    obtain ⟨e, ⟨g1, g2, g3⟩, g4⟩ := least (p := fun e => c ≤ e ∧ e < i ∧ isEff ops E e) e0 he0
    have hH : H e = H c := H_range tr e g1 (by omega) fun e' k1 k2 k3 => g4 e' k2 ⟨k1, by omega, k3⟩
    have hr := prevAt_mem hpr _ (prev_mem tr g3 i g2 (by omega)) (hnotL e g3 fun hl => by have := (s.eff e g3).1 hl; omega)
    obtain ⟨h2, h3⟩ := rdAt_iff hr
    refine ⟨_, h2, ?_, h3⟩
    exact s.reads _ (by simp only []; rw [hH, s.next]) (msk ops i) hm (S i).pd (fun p hp _ => pend i (by omega) (fun e' _ k => by omega) p hp) (by simp only []; rw [hH, s.next])
  · by_cases A2 : ∃ e, e < c ∧ (i ≤ e ∧ isEff ops E e)
    · obtain ⟨e, g1, ⟨g2, g3⟩, g4⟩ := greatest c A2
      have hie : i < e := by
        rcases Nat.lt_or_ge i e with h | h
        · exact h
        · exfalso
          have : e = i := by omega
          subst this
          obtain ⟨o', k1, _, k3⟩ := g3
          rw [hi] at k1; cases k1
          rw [hrd.2.2] at k3; cases k3
      have hes : e < ops.size := by have := s.cn; omega
      have hH : H (e + 1) = H c := (H_range tr c (by omega) s.cn fun e' k1 k2 k3 => g4 e' (by omega) k2 ⟨by omega, k3⟩).symm
      obtain ⟨oe, hoe⟩ := getop hes
      have hd := (tr.step e oe hoe).1
      have hLe := (s.eff e g3).2 g1
      have hbit : Nat.testBit (msk ops e) i = false := by
        cases hb : Nat.testBit (msk ops e) i with
        | false => rfl
        | true => exact absurd ((s.closed e hLe).2 i hb) hnl
      have hrm := rd_mem tr hrd e hie (by omega)
      have hfin : ∃ pd, pd = keepP (msk ops e) (S e).pd ∧ rdsAt P (msk ops e) pd (H (e + 1)) (S e).rds = true := by
        obtain ⟨o', k1, k2, k3⟩ := g3
        rw [hoe] at k1; cases k1
        generalize H (e + 1) = x1 at hd ⊢
        generalize S (e + 1) = s1 at hd
        generalize V e = v1 at hd
        cases hd with
        | skip hg => rw [k2] at hg; cases hg
        | pur v h1 hg hc => rw [k3] at hc; cases hc
        | rd v h1 hg hc => rw [k3] at hc; cases hc
        | alc v h1 b hg hc => rw [k3] at hc; cases hc
        | eff v h' hg hc hch hs hrd => exact ⟨_, rfl, hrd⟩
      obtain ⟨pd, hpd, hall⟩ := hfin
      obtain ⟨h2, h3⟩ := rdAt_iff (rdsAt_mem hall _ hrm hbit)
      refine ⟨_, h2, ?_, h3⟩
      refine s.reads _ (by simp only []; rw [hH, s.next]) (msk ops i) hm pd (fun p hp hb => ?_) (by simp only []; rw [hH, s.next])
      rw [hpd] at hp
      obtain ⟨q1, q2⟩ := mem_keepP.1 hp
      obtain ⟨j, b, k1, k2, k3, k4⟩ := pd_mem tr e (by omega) p q1
      subst k2
      refine ⟨b, rfl, k3, fun e' he' hec => ?_⟩
      by_cases ee : e' = e
      · subst ee; exact q2
      · refine loose_of tx k4 e' he' ?_
        rcases Nat.lt_or_ge e' e with h | h
        · exact h
        · exact absurd ⟨by omega, he'⟩ (g4 e' (by omega) hec)
    · have hH : H i = H c := by
        rcases Nat.le_total c i with h | h
        · exact H_range tr i h (by omega) fun e k1 k2 k3 => A1 ⟨e, k1, k2, k3⟩
        · exact (H_range tr c h s.cn fun e k1 k2 k3 => A2 ⟨e, k2, k1, k3⟩).symm
      refine ⟨_, h1, ?_, ho⟩
      refine s.reads _ (by simp only [need]; rw [hH, s.next]) (msk ops i) hm (S i).pd (fun p hp _ => pend i (by omega) (fun e he hec => ?_) p hp) (by simp only [need]; rw [hH, s.next])
      rcases Nat.lt_or_ge e i with h | h
      · exact h
      · exact absurd ⟨e, hec, h, he⟩ A2
end Ab

namespace Ab
open Go
variable {P : Program} {ι : Emb} {h h' : AHeap} {w : World}
variable {ops : Array Oper} {nt base : Nat} {E : Nat → Env} {H : Nat → AHeap} {S : Nat → DSt} {V : Nat → AVal}
variable {h0 : AHeap} {ι0 : Emb} {w0 : World} {d0 : List Deferred} {L : Nat → Prop} {c : Nat} {a : Act} {X : AHeap}

theorem Stage.step (tx : Text ops) (tr : Tr P ops nt base E H S V) (s : Stage P ops nt base E H V h0 ι0 w0 d0 L c a w ι X) {i : Nat} {o : Oper} (hi : ops[i]? = some o) (hnl : ¬ L i) (hm : ∀ j, Nat.testBit (msk ops i) j = true → L j)
    {r : Option Nat} {Q : Exit → Act → World → Prop} {K : Act → World → Prop}
    (hK : ∀ c' a' w' ι' X', Stage P ops nt base E H V h0 ι0 w0 d0 (fun j => L j ∨ j = i) c' a' w' ι' X' → K a' w') : wpOpIn (Fw r) 0 P ops Q i K a w := by
  have hnt : ∀ (j : Nat) (o : Oper) (d : Tmp), ops[j]? = some o → o.dst = some d → d < nt := by
    intro j o' d hj hd
    have := (tr.step j o' hj).2
    unfold PutE at this
    rw [hd] at this
    exact this.1
  have hguard : ∀ b, guardOk ops (E i) o.guard = some b → Region.wanted o (yielded ops a.tmps) = b := fun b hb =>
    guardOk_L (fun t ht v hv => by have := s.tmp tx tr hi hnl hm ht hv hnt; rw [s.size]; exact this) hb
  have noeff : (∀ e, guardOk ops (E i) o.guard = some true → clsOf o.op = e → e ≠ .eff) → ¬ isEff ops E i := fun hh ⟨o', h1, h2, h3⟩ => by
    rw [hi] at h1; cases h1; exact hh _ h2 h3 rfl
  have noalc : (∀ e, guardOk ops (E i) o.guard = some true → clsOf o.op = e → e ≠ .alloc) → ∀ b, ¬ isAlc P ops base E H i b := fun hh b ⟨o', v, h4, h1, h2, h3, _⟩ => by
    rw [hi] at h1; cases h1; exact hh _ h2 h3 rfl
  unfold wpOpIn
  simp only [hi]
  obtain ⟨hd, hp⟩ := tr.step i o hi
  generalize hH1 : H (i + 1) = H1 at hd
  generalize hS1 : S (i + 1) = S1 at hd
  generalize hV1 : V i = V1 at hd
  cases hd with
  | skip hg =>
    rw [hguard _ hg, if_neg (by decide)]
    refine ⟨fun f _ => Fw_fn r f, hK _ _ _ _ _ (s.calm tx hi hm hp (by rw [hV1]; exact undef_VR) (noeff fun e he => by rw [hg] at he; cases he) (noalc fun e he => by rw [hg] at he; cases he) s.st (Fr.refl _ _ _))⟩
  | pur v h1 hg hc ho =>
    rw [hguard _ hg, if_pos rfl]
    exact s.pure_step tx tr hi hnl hm hnt (noeff fun e _ he => by rw [hc] at he; rw [← he]; simp) (noalc fun e _ he => by rw [hc] at he; rw [← he]; simp) (Sub.refl X) (by rw [hV1]; exact (pure_any hc ho).2 X) hK
  | alc v h1 b hg hc ho hb =>
    rw [hguard _ hg, if_pos rfl]
    exact s.alloc_step tx tr hi hnl hm hnt hg hc (by rw [hV1]; exact ho) hK
  | rd v h1 hg hc ho hpr =>
    rw [hguard _ hg, if_pos rfl]
    obtain ⟨Y, h2, g1, g2⟩ := s.read_at tx tr hi hnl hm ⟨hi, hg, hc⟩ (by rw [hV1]; exact ho) (by rw [hV1]; exact hpr)
    have := read_same hc g2
    subst this
    exact s.pure_step tx tr hi hnl hm hnt (noeff fun e _ he => by rw [hc] at he; rw [← he]; simp) (noalc fun e _ he => by rw [hc] at he; rw [← he]; simp) g1 g2 hK
  | eff v h' hg hc hch hs hrd =>
    rw [hguard _ hg, if_pos rfl]
    exact s.eff_step tx tr hi hnl hm hnt hg hc hch (by rw [hV1, hH1]; exact hs) hK
end Ab

namespace Ab
open Go
variable {P : Program} {ι : Emb} {h h' : AHeap} {w : World}
variable {ops : Array Oper} {nt base : Nat} {E : Nat → Env} {H : Nat → AHeap} {S : Nat → DSt} {V : Nat → AVal}
variable {h0 : AHeap} {ι0 : Emb} {w0 : World} {d0 : List Deferred} {L : Nat → Prop} {c : Nat} {a : Act} {X : AHeap}

def Ls (listed : Array Bool) (j : Nat) : Prop := listed.getD j false = true
theorem all_listed (tx : Text ops) {listed : Array Bool} (hs : listed.size = ops.size) (hr : Region.ready .any ops listed = []) : ∀ j, j < ops.size → Ls listed j := by
  intro j hj
  apply Classical.byContradiction
  intro hn
  obtain ⟨k, ⟨k1, k2⟩, k3⟩ := least (p := fun k => k < ops.size ∧ ¬ Ls listed k) j ⟨hj, hn⟩
  obtain ⟨o, ho⟩ := getop k1
  have : k ∈ Region.ready .any ops listed := by
    refine mem_ready.2 ⟨?_, o, ho, fun e he hb => ?_⟩
    · unfold Ls at k2
      rw [Array.getD_eq_getD_getElem?, Array.getElem?_eq_getElem (by omega)] at k2 ⊢
      simpa using k2
    · have h1 := tx.below k o ho _ (tx.edge k o ho e he hb)
      apply Classical.byContradiction
      intro hh
      exact k3 e.on h1 ⟨by omega, hh⟩
  rw [hr] at this; cases this
theorem Ls_set {listed : Array Bool} {i : Nat} (hi : i < listed.size) : Ls (listed.setIfInBounds i true) = fun j => Ls listed j ∨ j = i := by
  funext j
  apply propext
  unfold Ls
  by_cases e : j = i
  · subst e
    rw [Array.getD_eq_getD_getElem?, Array.getElem?_setIfInBounds_self_of_lt hi]
    simp
  · rw [Array.getD_eq_getD_getElem?, Array.getElem?_setIfInBounds_ne (Ne.symm e), ← Array.getD_eq_getD_getElem?]
    simp [e]

/-- how many stand out yet -/
def left (listed : Array Bool) : Nat := listed.toList.countP (! ·)
theorem left_set {listed : Array Bool} {i : Nat} (hi : i < listed.size) (hf : ¬ Ls listed i) : left (listed.setIfInBounds i true) + 1 = left listed := by
  unfold left
  have hx : listed.toList[i]'(by simpa using hi) = false := by
    unfold Ls at hf
    rw [Array.getD_eq_getD_getElem?, Array.getElem?_eq_getElem hi] at hf
    simpa using hf
  rw [Array.toList_setIfInBounds, List.countP_set (by simpa using hi)]
  simp only [hx]
  have : 0 < listed.toList.countP (! ·) := List.countP_pos_iff.2 ⟨false, by rw [← hx]; exact List.getElem_mem _, rfl⟩
  simp only [Bool.not_false, if_true, Bool.not_true, Bool.false_eq_true, if_false, Nat.add_zero]
  exact Nat.sub_add_cancel this

theorem Stage.any (tx : Text ops) (tr : Tr P ops nt base E H S V) {r : Option Nat} {Q : Exit → Act → World → Prop}
    (hQ : ∀ c a w ι X, Stage P ops nt base E H V h0 ι0 w0 d0 (fun j => j < ops.size) c a w ι X → Q .normal a w) :
    ∀ (fuel : Nat) (listed : Array Bool) (a : Act) (w : World) (ι : Emb) (X : AHeap) (c : Nat), listed.size = ops.size → left listed ≤ fuel → Stage P ops nt base E H V h0 ι0 w0 d0 (Ls listed) c a w ι X → wpAnyIn (Fw r) 0 P .any ops Q fuel listed a w := by
  have fin : ∀ (listed : Array Bool) (a : Act) (w : World) (ι : Emb) (X : AHeap) (c : Nat), listed.size = ops.size → Region.ready .any ops listed = [] → Stage P ops nt base E H V h0 ι0 w0 d0 (Ls listed) c a w ι X → Q .normal a w := by
    intro listed a w ι X c hs hr st
    have : Ls listed = fun j => j < ops.size := by
      funext j
      apply propext
      exact ⟨fun h => (st.closed j h).1, fun h => all_listed tx hs hr j h⟩
    rw [this] at st
    exact hQ c a w ι X st
  intro fuel
  induction fuel with
  | zero =>
    intro listed a w ι X c hs hl st
    have hr : Region.ready .any ops listed = [] := by
      cases hh : Region.ready .any ops listed with
      | nil => rfl
      | cons i l =>
        exfalso
        have hi : i ∈ Region.ready .any ops listed := by rw [hh]; simp
        obtain ⟨h1, o, h2, _⟩ := mem_ready.1 hi
        have hin := (Array.getElem?_eq_some_iff.1 h2).1
        have := left_set (listed := listed) (i := i) (by omega) (by
          unfold Ls
          rw [Array.getD_eq_getD_getElem?, Array.getElem?_eq_getElem (by omega)] at h1 ⊢
          simpa using h1)
        omega
    exact ⟨hr, fin listed a w ι X c hs hr st⟩
  | succ fuel ih =>
    intro listed a w ι X c hs hl st
    refine ⟨fun hr => fin listed a w ι X c hs hr st, fun i hi => ?_⟩
    obtain ⟨h1, o, h2, h3⟩ := mem_ready.1 hi
    have hin := (Array.getElem?_eq_some_iff.1 h2).1
    have hnl : ¬ Ls listed i := by
      unfold Ls
      rw [Array.getD_eq_getD_getElem?, Array.getElem?_eq_getElem (by omega)] at h1 ⊢
      simpa using h1
    have hm : ∀ j, Nat.testBit (msk ops i) j = true → Ls listed j := by
      intro j hj
      obtain ⟨e, he, hb, h4⟩ := tx.closed i o h2 j hj
      have h5 : Ls listed e.on := h3 e he hb
      rcases h4 with h4 | h4
      · rw [← h4]; exact h5
      · exact (st.closed e.on h5).2 j h4
    refine st.step tx tr h2 hnl hm fun c' a' w' ι' X' st' => ih _ a' w' ι' X' c' (by simpa using hs) ?_ ?_
    · have := left_set (listed := listed) (i := i) (by omega) hnl; omega
    · rw [Ls_set (by omega)]; exact st'
end Ab

namespace Ab
open Go
variable {P : Program}

theorem evDraw_S {orc : FuncId → List AVal → AHeap → Option (AVal × AHeap)} {rec : Task → AHeap → Out} (hrec : RecS P rec) (horc : OrcS P orc) : DrawS P orc rec := by
  intro ops nt mk e h out hok hev hne r ι w a Q st env hQ
  have tx := text_of hok
  obtain ⟨E, H, S, V, e1, e2, e3, e4, e5⟩ := trace_of hrec horc hne ops.toList 0 e _ _ (fun j o hj => by simpa using hj) hev
  simp only [Nat.zero_add, Array.length_toList] at e4 e5
  have tr : Tr P ops nt h.next E H S V := ⟨fun k o hk => e5 k o (Nat.zero_le _) (Array.getElem?_eq_some_iff.1 hk).1 hk, e3⟩
  have hnt : ∀ (j : Nat) (o : Oper) (d : Tmp), ops[j]? = some o → o.dst = some d → d < nt := by
    intro j o' d hj hd
    have := (tr.step j o' hj).2
    unfold PutE at this
    rw [hd] at this
    exact this.1
  have st0 : St P ι (H 0) { w with drawn := w.drawn + 1 } := by
    rw [e2]
    exact ⟨fun b x hx => let ⟨p, hp, hb⟩ := st.blk b x hx; ⟨p, hp, hb.mono (Emb.le_refl _) rfl⟩, st.inj, st.eps, fun b e p hp => by have := st.fresh b e p hp; show b < h.next + ops.size; omega, st.glob⟩
  have fr0 : Fr h ι w (H 0) ι { w with drawn := w.drawn + 1 } := by
    rw [e2]
    exact ⟨Emb.le_refl _, Nat.le_refl _, fun _ _ _ => rfl, fun _ _ h => h, Nat.le_add_right _ _, fun b x hx => .inr ⟨x, hx⟩, fun _ _ _ h => .inl h, rfl, rfl⟩
  have hL : ∀ j, ¬ Ls (Array.replicate ops.size false) j := by
    intro j hj
    unfold Ls at hj
    rw [Array.getD_eq_getD_getElem?] at hj
    by_cases hh : j < ops.size
    · simp [hh] at hj
    · rw [Array.getElem?_eq_none (by simpa using hh)] at hj; simp at hj
  have start : Stage P ops nt h.next E H V h ι w a.defers (Ls (Array.replicate ops.size false)) 0 a { w with drawn := w.drawn + 1 } ι (H 0) := by
    refine ⟨Nat.zero_le _, fun e he => ⟨fun h => absurd h (hL e), fun h => by omega⟩, fun i hi => absurd hi (hL i), st0, fr0, by rw [e2]; exact Nat.le_refl _, Nat.le_refl _, rfl, fun i x hx => hx, fun j b hj => absurd hj (hL j), ?_, ?_, env.size, rfl,
      fun i o d hi => absurd hi (hL i), fun t v _ hv => by rw [e1] at hv; exact env.get t v hv⟩
    · intro j hj _ e'; exact st.none_fresh (Nat.le_add_right _ _)
    · intro j hj _ _; rw [e2]; exact st.no_fresh (Nat.le_add_right _ _)
  refine Stage.any tx tr ?_ ops.size _ a _ ι (H 0) 0 (by simp) (by unfold left; exact Nat.le_trans List.countP_le_length (by simp)) start
  intro c a' w' ι' X s
  have hH : H ops.size = H c := H_range tr ops.size s.cn (Nat.le_refl _) fun e' h1 h2 he => by have := (s.eff e' he).1 h2; omega
  have hsub : Sub { next := (H ops.size).next, t := addP (S ops.size).pd (H ops.size).t } X := by
    refine ⟨by rw [hH]; exact s.next.symm, fun i x hx => ?_⟩
    rw [get_addP] at hx
    split at hx
    · rename_i p hp
      have g1 := List.mem_of_find?_eq_some hp
      have g2 := List.find?_some hp
      obtain ⟨j, b, k1, k2, k3, k4⟩ := pd_mem tr ops.size (Nat.le_refl _) p g1
      subst k2
      simp at g2
      cases hx
      rw [← g2]
      refine s.pin j b k1 k3 fun e' he hec => loose_of tx k4 e' he ?_
      have := s.cn; omega
    · rw [hH] at hx; exact s.hin i x hx
  have f := s.fr
  refine hQ (E ops.size) _ ι' a' w' e4 (s.st.sub hsub) ⟨s.size, ?_⟩ ⟨f.le, f.size, f.keep, fun cb hc ⟨b, x, p, h1, h2, h3⟩ => f.img cb hc ⟨b, x, p, hsub.2 b x h1, h2, h3⟩, by rw [hH, ← s.next]; exact f.next, fun b x hx => f.live b x (hsub.2 b x hx), f.dom, f.os, f.output⟩ s.defs
  intro t v hv
  by_cases hd : ∃ (j : Nat) (o' : Oper), ops[j]? = some o' ∧ o'.dst = some t
  · obtain ⟨j, o', hj, hjd⟩ := hd
    have hjn := (Array.getElem?_eq_some_iff.1 hj).1
    rw [env_new tx tr hj hjd ops.size hjn (Nat.le_refl _)] at hv; cases hv
    exact ⟨hnt j o' t hj hjd, s.new j o' t hjn hj hjd⟩
  · have hn : ∀ (j : Nat) (o' : Oper), ops[j]? = some o' → o'.dst ≠ some t := fun j o' hj hjd => hd ⟨j, o', hj, hjd⟩
    rw [env_old tr ops.size (Nat.le_refl _) t fun j o' _ hj => hn j o' hj] at hv
    exact s.old t v (fun j o' _ hj => hn j o' hj) hv

/-- THE EVALUATOR IS SOUND -/
theorem sound {orc : FuncId → List AVal → AHeap → Option (AVal × AHeap)} (horc : OrcS P orc) (hmix : P.follows .mixedOrders = true) (hno : noCount P = true) (n : Nat) : RecS P (ev P orc n) :=
  ev_S horc (fun _ hr => evDraw_S hr horc) hmix hno n
end Ab
