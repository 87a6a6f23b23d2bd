/- Proves that the abstract machine's code, loops and calls answer as the model's do, for any program, given the same of the regions that draw their order. -/
import Derived.Test.YtjhmgeegnilbpaaGreatDoorAb3
import Derived.OrdersIn
import Derived.RangeFuncLeaves
set_option linter.all false
namespace Ab
open Go
variable {P : Program} {ι : Emb} {h h' : AHeap} {w : World}

/-- the fence of an activation of a function, or of a loop's round -/
def Fw : Option Nat → Fence
  | none => Fence.wide
  | some l => Fence.wide.inRound l
theorem Fw_fn (r : Option Nat) (f : FuncId) : (Fw r).fn f := by cases r <;> exact trivial
theorem Fw_depth (r : Option Nat) : (Fw r).depth = none := by cases r <;> rfl
theorem Fw_round (r : Option Nat) : (Fw r).round = r := by cases r <;> rfl
theorem Fw_calls {r : Option Nat} {n : Nat} {f : FuncId} {args : Array Value} {R : Ending → World → Prop} (hc : CallsIn Fence.wide n P f args w R) : CallsIn (Fw r) n P f args w R := by cases r <;> exact hc
theorem Fw_calls' {r : Option Nat} {n : Nat} {f : FuncId} {args : Array Value} {R : Ending → World → Prop} (hc : CallsIn (Fw r) n P f args w R) : CallsIn Fence.wide n P f args w R := by cases r <;> exact hc
theorem Fw_round' {r : Option Nat} {n l : Nat} {f : FuncId} {tmps : Array Value} {as body : Code} {R : Ending → World → Prop} (hc : RoundIn Fence.wide n P l f tmps as body w R) : RoundIn (Fw r) n P l f tmps as body w R := by cases r <;> exact hc

def RetR (P : Program) (h : AHeap) (ι : Emb) (w : World) (v : AVal) (h' : AHeap) (e : Ending) (w' : World) : Prop :=
  ∃ u ι', e = .returned u ∧ VR ι' v u ∧ St P ι' h' w' ∧ Fr h ι w h' ι' w'
/-- a call of f, on related arguments, in a related world, comes to v and h' -/
def CallS (P : Program) (f : FuncId) (args : List AVal) (h : AHeap) (v : AVal) (h' : AHeap) : Prop :=
  ∀ (ι : Emb) (w : World) (cargs : Array Value), St P ι h w → VRs ι args cargs.toList → CallsIn Fence.wide 0 P f cargs w (RetR P h ι w v h')
/-- the same of the operation that calls: function or extern -/
def CfS (P : Program) (f : FuncId) (args : List AVal) (h : AHeap) (v : AVal) (h' : AHeap) : Prop :=
  ∀ (o : Oper) (ι : Emb) (w : World) (cargs : Array Value) (r : Option Nat) (a : Act) (next : Act → World → Prop) (Q : Exit → Act → World → Prop), St P ι h w → VRs ι args cargs.toList →
    (∀ u ι' w', VR ι' v u → St P ι' h' w' → Fr h ι w h' ι' w' → next (a.put o.dst u) w') → o.uponIn (Fw r) 0 P a next Q ((callFunc f cargs).run P w)
def EntS (P : Program) (f : FuncId) : Prop := ∀ (cargs : Array Value) (w : World), (callFunc f cargs).run P w = .ok (.enter f cargs) w
theorem CallS.cf {f : FuncId} {args : List AVal} {v : AVal} (hc : CallS P f args h v h') (he : EntS P f) : CfS P f args h v h' := by
  intro o ι w cargs r a next Q s ha hk
  rw [he cargs w]
  refine ⟨fun hd => (by rw [Fw_depth] at hd; cases hd), CallsIn.mono (Fw_calls (hc ι w cargs s ha)) fun e w' hr => ?_⟩
  obtain ⟨u, ι', e1, hv, hs, hf⟩ := hr
  subst e1
  exact hk u ι' w' hv hs hf
def YldS (P : Program) (l : Nat) (args : List AVal) (h : AHeap) (v : AVal) (h' : AHeap) : Prop :=
  ∀ (o : Oper) (ι : Emb) (w : World) (p : Place) (cargs : Array Value) (r : Option Nat) (a : Act) (next : Act → World → Prop) (Q : Exit → Act → World → Prop), St P ι h w → ι l 0 = some p → VRs ι args cargs.toList →
    (∀ u ι' w', VR ι' v u → St P ι' h' w' → Fr h ι w h' ι' w' → next (a.put o.dst u) w') → o.uponIn (Fw r) 0 P a next Q ((Instr.yield p.cb cargs).run P w)

def MkR (ι : Emb) : List Nat → List Deferred → Prop
  | [], ds => ds = []
  | d :: l, ds => ∃ p ds', ds = { target := .collected p.cb, args := #[] } :: ds' ∧ ι d 0 = some p ∧ MkR ι l ds'
theorem MkR.mono {ι ι' : Emb} (hl : ι.le ι') : ∀ {mk : List Nat} {ds : List Deferred}, MkR ι mk ds → MkR ι' mk ds
  | [], _, hx => hx
  | d :: l, _, hx => by
    obtain ⟨p, ds', e, h1, h2⟩ := hx
    exact ⟨p, ds', e, hl _ _ _ h1, h2.mono hl⟩

/-- how code may be left -/
def OutQ (P : Program) (nt : Nat) (h : AHeap) (ι : Emb) (w : World) (o : Out) : Exit → Act → World → Prop
  | .normal, a, w' => ∃ e h' mk ι', o = .norm e h' mk ∧ St P ι' h' w' ∧ EnvR ι' nt e a.tmps ∧ Fr h ι w h' ι' w' ∧ MkR ι' mk a.defers
  | .exit id, a, w' => ∃ e h' mk ι', o = .exit id e h' mk ∧ St P ι' h' w' ∧ EnvR ι' nt e a.tmps ∧ Fr h ι w h' ι' w' ∧ MkR ι' mk a.defers
  | .ret, a, w' => ∃ e h' mk ι', o = .ret e h' mk ∧ St P ι' h' w' ∧ EnvR ι' nt e a.tmps ∧ Fr h ι w h' ι' w' ∧ MkR ι' mk a.defers
  | _, _, _ => False

/-- a loop, about to go round -/
def LoopWp (F : Fence) (P : Program) (c : Code) (Q : Exit → Act → World → Prop) (a : Act) (w : World) : Prop :=
  ∀ (b : Frame) (k : List Item) (cs : List Frame), b.roundOf = F.round → F.fn b.fn → F.room (cs.length + 1 + 0) →
    ∃ e a' w', Q e a' w' ∧ ArrivesIn (Machine.fenced P F) P (lone (b.atR a (.code c :: .inLoop c :: k)) cs w) b k cs e a' w'
theorem LoopWp.loop {F : Fence} {c : Code} {Q : Exit → Act → World → Prop} {a : Act} (hl : LoopWp F P c Q a w) : (Code.loop c).wpIn F 0 P Q a w := by
  intro b k cs hro hb hr
  obtain ⟨e, a', w', hq, harr⟩ := hl b k cs hro hb hr
  exact ⟨e, a', w', hq, .of_steps (.one (fenced_calm hb hr rfl) stepR_loop) harr⟩
theorem LoopWp.round {F : Fence} {c : Code} {Q : Exit → Act → World → Prop} {a : Act} (hl : c.wpIn F 0 P (Exit.then (LoopWp F P c Q) Q) a w) : LoopWp F P c Q a w := by
  intro b k cs hro hb hr
  obtain ⟨e, a₁, w₁, hq, harr⟩ := hl b (.inLoop c :: k) cs hro hb hr
  cases e with
  | normal =>
    obtain ⟨e₂, a₂, w₂, hq₂, harr₂⟩ := hq b k cs hro hb hr
    exact ⟨e₂, a₂, w₂, hq₂, .of_steps (StepsIn.trans harr (.one (fenced_calm hb hr rfl) stepR_inLoop)) harr₂⟩
  | exit id => exact ⟨_, a₁, w₁, hq, .pass (x := .inLoop c) rfl (fun _ _ => .inl (by simp)) harr⟩
  | goto l => exact ⟨_, a₁, w₁, hq, .pass (x := .inLoop c) rfl (fun _ _ => .inl (by simp)) harr⟩
  | ret => exact ⟨_, a₁, w₁, hq, .pass (x := .inLoop c) rfl (fun _ _ => .inl (by simp)) harr⟩
  | panic ch => exact ⟨_, a₁, w₁, hq, .pass (x := .inLoop c) rfl (fun _ _ => .inl (by simp)) harr⟩
  | outgrown => exact ⟨_, a₁, w₁, hq, .pass (x := .inLoop c) rfl (fun _ _ => .inl (by simp)) harr⟩

def LoopS (P : Program) (rnd : Option Nat) (nt : Nat) (b : Code) (e : Env) (mk : List Nat) (h : AHeap) (o : Out) : Prop :=
  ∀ (r : Option Nat) (ι : Emb) (w : World) (a : Act), (rnd = none → r = none) → St P ι h w → EnvR ι nt e a.tmps → MkR ι mk a.defers → LoopWp (Fw r) P b (OutQ P nt h ι w o) a w
def TaskS (P : Program) (t : Task) (h : AHeap) (o : Out) : Prop :=
  match t with
  | .call f args => ∃ v h', o = .done v h' ∧ CallS P f args h v h' ∧ EntS P f
  | .yld l args => ∃ v h', o = .done v h' ∧ YldS P l args h v h'
  | .loop rnd nt b e mk => LoopS P rnd nt b e mk h o
def RecS (P : Program) (rec : Task → AHeap → Out) : Prop := ∀ t h o, rec t h = o → o ≠ .fail → TaskS P t h o
def OrcS (P : Program) (orc : FuncId → List AVal → AHeap → Option (AVal × AHeap)) : Prop := ∀ f args h v h', orc f args h = some (v, h') → CfS P f args h v h'

theorem thenV_inv {o : Out} {k : AVal → AHeap → Out} {out : Out} (ht : Out.thenV o k = out) (hne : out ≠ .fail) : ∃ v h', o = .done v h' ∧ k v h' = out := by
  unfold Out.thenV at ht
  split at ht
  · exact ⟨_, _, rfl, ht⟩
  · exact absurd ht.symm hne

theorem stepOp_S {rec : Task → AHeap → Out} {orc : FuncId → List AVal → AHeap → Option (AVal × AHeap)} (hrec : RecS P rec) (horc : OrcS P orc) {o : Oper} {env : Env} {k : AVal → AHeap → Out} {out : Out}
    (ho : stepOp P orc rec env h o.op k = out) (hne : out ≠ .fail) : ∃ v h', k v h' = out ∧ ∀ (r : Option Nat) (ι : Emb) (w : World) (a : Act) (next : Act → World → Prop) (Q : Exit → Act → World → Prop),
      St P ι h w → (∀ x ∈ o.op.operands, VR ι (evalO P env x) (a.eval x)) → (∀ u ι' w', VR ι' v u → St P ι' h' w' → Fr h ι w h' ι' w' → next (a.put o.dst u) w') → o.wpIn (Fw r) 0 P a w next Q := by
  have hsem : ∀ (r : Option Nat) (a : Act), (∀ c, o.op ≠ .defer c) → o.semAt (Fw r).round a.eval = execOp a.eval o := fun r a hd => by rw [Oper.semAt_eq _ _ _ hd]
  unfold stepOp at ho
  cases hop : aop P (evalO P env) h o.op with
  | val v h1 =>
    simp only [hop] at ho
    refine ⟨v, h1, ho, fun r ι w a next Q s he hk => ⟨fun f _ => Fw_fn r f, ?_⟩⟩
    have hd : ∀ c, o.op ≠ .defer c := fun c e => by rw [e] at hop; simp [aop] at hop
    obtain ⟨x, w', u, ι', hr, hx, hv, hs, hf⟩ := aop_val s (only_VR he) o (by rw [← only_aop]; exact hop)
    rw [hsem r a hd, hr]
    rcases hx with hx | ⟨hx, hu⟩
    · subst hx; exact hk _ _ _ hv hs hf
    · subst hx; subst hu; exact hk _ _ _ hv hs hf
  | call f args =>
    simp only [hop] at ho
    have hd : ∀ c, o.op ≠ .defer c := fun c e => by rw [e] at hop; simp [aop] at hop
    have key : ∀ v h', CfS P f args h v h' → ∀ (r : Option Nat) (ι : Emb) (w : World) (a : Act) (next : Act → World → Prop) (Q : Exit → Act → World → Prop),
        St P ι h w → (∀ x ∈ o.op.operands, VR ι (evalO P env x) (a.eval x)) → (∀ u ι' w', VR ι' v u → St P ι' h' w' → Fr h ι w h' ι' w' → next (a.put o.dst u) w') → o.wpIn (Fw r) 0 P a w next Q := by
      intro v h' hc r ι w a next Q s he hk
      obtain ⟨cargs, h1, h2⟩ := aop_call (P := P) (h := h) (w := w) (only_VR he) o (by rw [← only_aop]; exact hop)
      refine ⟨fun f _ => Fw_fn r f, ?_⟩
      rw [hsem r a hd, h2]
      exact hc o ι w cargs r a next Q s h1 hk
    cases hoc : orc f args h with
    | some x =>
      obtain ⟨v, h1⟩ := x
      simp only [hoc] at ho
      exact ⟨v, h1, ho, key v h1 (horc _ _ _ _ _ hoc)⟩
    | none =>
      simp only [hoc] at ho
      obtain ⟨v, h1, e, hk⟩ := thenV_inv ho hne
      obtain ⟨v', h1', e', hc, he⟩ := hrec (.call f args) h _ e (by simp)
      cases e'
      exact ⟨v, h1, hk, key v h1 (hc.cf he)⟩
  | yld l args =>
    simp only [hop] at ho
    have hd : ∀ c, o.op ≠ .defer c := fun c e => by rw [e] at hop; simp [aop] at hop
    obtain ⟨v, h1, e, hk⟩ := thenV_inv ho hne
    obtain ⟨v', h1', e', hc⟩ := hrec (.yld l args) h _ e (by simp)
    cases e'
    refine ⟨v, h1, hk, fun r ι w a next Q s he hk => ⟨fun f _ => Fw_fn r f, ?_⟩⟩
    obtain ⟨p, cargs, h0, h1, h2⟩ := aop_yld (P := P) (h := h) (w := w) (only_VR he) o (by rw [← only_aop]; exact hop)
    rw [hsem r a hd, h2]
    exact hc o ι w p cargs r a next Q s h0 h1 hk
  | fail => simp only [hop] at ho; exact absurd ho.symm hne

theorem guardOk_S {ops : Array Oper} {env : Env} {nt : Nat} {o : Oper} {b : Bool} {tmps : Array Value} (he : EnvR ι nt env tmps) (hg : guardOk ops env o.guard = some b) : Region.wanted o (yielded ops tmps) = b := by
  unfold guardOk at hg
  unfold Region.wanted
  split at hg
  · rename_i hg0; rw [hg0]; simpa using hg
  · rename_i j want hg0
    rw [hg0]
    simp only
    split at hg
    · cases hg
    · rename_i d hd
      split at hg
      · cases hg
        rename_i v hv
        obtain ⟨h1, h2⟩ := he.get _ _ hv
        have hb := h2.bool_inv
        have ht : tmps[d]? = some (.bool v) := by
          rw [Array.getD_eq_getD_getElem?] at hb
          cases hh : tmps[d]? with
          | none => rw [Array.getElem?_eq_none_iff, he.size] at hh; omega
          | some x => rw [hh] at hb; simp at hb; rw [hb]
        have hy : yielded ops tmps j = some v := by
          unfold yielded
          rw [hd]
          simp [ht]
        rw [hy]
        cases v <;> cases want <;> rfl
      · cases hg
        rename_i hv
        obtain ⟨h1, h2⟩ := he.get _ _ hv
        obtain ⟨cs, hc, _⟩ := h2.tuple_inv
        have hy : yielded ops tmps j = none := by
          unfold yielded
          rw [hd]
          rw [Array.getD_eq_getD_getElem?] at hc
          cases hh : tmps[d]? with
          | none => rw [Array.getElem?_eq_none_iff, he.size] at hh; omega
          | some x => rw [hh] at hc; simp at hc; simp [hh, hc]
        rw [hy]
        rfl
      · cases hg

theorem evOps_S {rec : Task → AHeap → Out} {orc : FuncId → List AVal → AHeap → Option (AVal × AHeap)} (hrec : RecS P rec) (horc : OrcS P orc) {ops : Array Oper} {nt : Nat} {mk : List Nat} {out : Out} (hne : out ≠ .fail) {Q : Exit → Act → World → Prop} {r : Option Nat} :
    ∀ (l : List Oper) (i : Nat) (env : Env) (h : AHeap) (ι : Emb) (w : World) (a : Act), (∀ j o, l[j]? = some o → ops[i + j]? = some o) → evOps P orc rec ops nt mk l env h = out → St P ι h w → EnvR ι nt env a.tmps →
      (∀ env' h' ι' a' w', out = .norm env' h' mk → St P ι' h' w' → EnvR ι' nt env' a'.tmps → Fr h ι w h' ι' w' → a'.defers = a.defers → Q .normal a' w') →
      wpOpsIn (Fw r) 0 P ops Q (List.range' i l.length) a w
  | [], i, env, h, ι, w, a, _, ho, s, he, hQ => by
    have ho : Out.norm env h mk = out := ho
    show Q .normal a w
    exact hQ env h ι a w ho.symm s he (Fr.refl _ _ _) rfl
  | o :: l, i, env, h, ι, w, a, hl, ho, s, he, hQ => by
    have hoi : ops[i]? = some o := by simpa using hl 0 o rfl
    have hl' : ∀ j o', l[j]? = some o' → ops[i + 1 + j]? = some o' := fun j o' hj => by
      have := hl (j + 1) o' (by simpa using hj)
      rwa [show i + (j + 1) = i + 1 + j by omega] at this
    have ho : (match guardOk ops env o.guard with
      | some true => stepOp P orc rec env h o.op fun v h => putE nt o.dst v env fun env => evOps P orc rec ops nt mk l env h
      | some false => putE nt o.dst undefA env fun env => evOps P orc rec ops nt mk l env h
      | none => .fail) = out := ho
    rw [List.length_cons, List.range'_succ]
    simp only [wpOpsIn, hoi]
    cases hg : guardOk ops env o.guard with
    | none => simp only [hg] at ho; exact absurd ho.symm hne
    | some b =>
      have hw := guardOk_S he hg
      rw [hw]
      cases b with
      | true =>
        simp only [hg] at ho
        rw [if_pos rfl]
        obtain ⟨v, h1, hk, hwp⟩ := stepOp_S hrec horc ho hne
        refine hwp r ι w a _ Q s (fun x _ => evalO_VR he s.glob x) fun u ι' w' hv s' hf => ?_
        obtain ⟨env', hk', he', hd⟩ := (he.mono hf.le).put (a := a) (dst := o.dst) hv hk hne
        exact evOps_S hrec horc hne l (i + 1) env' h1 ι' w' (a.put o.dst u) hl' hk' s' he' fun env2 h2 ι2 a2 w2 e2 s2 he2 hf2 hd2 =>
          hQ env2 h2 ι2 a2 w2 e2 s2 he2 (hf.trans hf2) (hd2.trans hd)
      | false =>
        simp only [hg] at ho
        rw [if_neg (by decide)]
        refine ⟨fun f _ => Fw_fn r f, ?_⟩
        obtain ⟨env', hk', he', hd⟩ := he.put (a := a) (dst := o.dst) undef_VR ho hne
        exact evOps_S hrec horc hne l (i + 1) env' h ι w (a.put o.dst undef) hl' hk' s he' fun env2 h2 ι2 a2 w2 e2 s2 he2 hf2 hd2 =>
          hQ env2 h2 ι2 a2 w2 e2 s2 he2 hf2 (hd2.trans hd)
end Ab

namespace Ab
open Go
variable {P : Program} {ι : Emb} {h h' : AHeap} {w : World}

theorem OutQ.trans {nt : Nat} {h1 : AHeap} {ι1 : Emb} {w1 : World} {o : Out} (hf : Fr h ι w h1 ι1 w1) {e : Exit} {a : Act} {w' : World} (hq : OutQ P nt h1 ι1 w1 o e a w') : OutQ P nt h ι w o e a w' := by
  cases e <;> simp only [OutQ] at hq ⊢
  all_goals
    obtain ⟨e, h2, mk, ι2, e1, s, he, hf2, hm⟩ := hq
    exact ⟨e, h2, mk, ι2, e1, s, he, hf.trans hf2, hm⟩

def NoGoto (Q : Exit → Act → World → Prop) : Exit → Act → World → Prop
  | .goto _, _, _ => False
  | e, a, w => Q e a w
theorem stepR_scope {b : Frame} {a : Act} {k : List Item} {cs : List Frame} {c : Code} : step P (lone (b.atR a (.code (.scope c) :: k)) cs w) = .next (lone (b.atR a (.code c :: .inScope c :: k)) cs w) :=
  step_lone_go (by simp [stepG, stepG.exec, Frame.atR])
theorem stepR_inScope {b : Frame} {a : Act} {k : List Item} {cs : List Frame} {c : Code} : step P (lone (b.atR a (.inScope c :: k)) cs w) = .next (lone (b.atR a k) cs w) :=
  step_lone_go (by simp [stepG, stepG.exec, Frame.atR])
theorem wpIn_scope {F : Fence} {n : Nat} {Q : Exit → Act → World → Prop} {a : Act} {c : Code} (hc : c.wpIn F n P (NoGoto Q) a w) : (Code.scope c).wpIn F n P Q a w := by
  intro b k cs hro hb hr
  have h0 : (lone (b.atR a (.code (.scope c) :: k)) cs w).fenced P F := fenced_calm hb hr rfl
  obtain ⟨e, a₁, w₁, hq, harr⟩ := hc b (.inScope c :: k) cs hro hb hr
  cases e with
  | normal => exact ⟨.normal, a₁, w₁, hq, .head h0 stepR_scope (StepsIn.trans harr (.one (fenced_calm hb hr rfl) stepR_inScope))⟩
  | exit id =>
    have hx : ∀ k, exitTo id (.inScope c :: k) = exitTo id k := fun k => by simp [exitTo]
    exact ⟨.exit id, a₁, w₁, hq, fun k' hk => .head h0 stepR_scope (harr.1 k' (by rw [hx]; exact hk)),
      fun hr' hk => let ⟨k₁, h1, h2⟩ := harr.2 hr' (by rw [hx]; exact hk); ⟨k₁, h1, .head h0 stepR_scope h2⟩⟩
  | goto l => exact hq.elim
  | ret => exact ⟨_, a₁, w₁, hq, .of_steps (.one h0 stepR_scope) harr⟩
  | panic ch => exact ⟨_, a₁, w₁, hq, .of_steps (.one h0 stepR_scope) harr⟩
  | outgrown => exact ⟨_, a₁, w₁, hq, .of_steps (.one h0 stepR_scope) harr⟩

theorem LoopWp.mono {F : Fence} {c : Code} {Q Q' : Exit → Act → World → Prop} {a : Act} (hl : LoopWp F P c Q a w) (hq : ∀ e a w, Q e a w → Q' e a w) : LoopWp F P c Q' a w :=
  fun b k cs hro hb hr => let ⟨e, a', w', q, r⟩ := hl b k cs hro hb hr; ⟨e, a', w', hq _ _ _ q, r⟩

/-- a region that draws its order -/
def DrawS (P : Program) (orc : FuncId → List AVal → AHeap → Option (AVal × AHeap)) (rec : Task → AHeap → Out) : Prop :=
  ∀ (ops : Array Oper) (nt : Nat) (mk : List Nat) (e : Env) (h : AHeap) (out : Out), drawOk ops = true →
    evDraw P orc rec ops (Region.before ops) nt h.next mk ops.toList 0 e { next := h.next + ops.size, t := h.t } ⟨[], [], []⟩ = out → out ≠ .fail →
    ∀ (r : Option Nat) (ι : Emb) (w : World) (a : Act) (Q : Exit → Act → World → Prop), St P ι h w → EnvR ι nt e a.tmps →
      (∀ env' h' ι' a' w', out = .norm env' h' mk → St P ι' h' w' → EnvR ι' nt env' a'.tmps → Fr h ι w h' ι' w' → a'.defers = a.defers → Q .normal a' w') →
      wpAnyIn (Fw r) 0 P .any ops Q ops.size (Array.replicate ops.size false) a { w with drawn := w.drawn + 1 }

theorem seq_inv {o : Out} {k : Env → AHeap → List Nat → Out} {out : Out} (hs : Out.seq o k = out) (hne : out ≠ .fail) :
    o ≠ .fail ∧ ((∃ e h mk, o = .norm e h mk ∧ k e h mk = out) ∨ (o = out ∧ ∀ e h mk, o ≠ .norm e h mk)) := by
  unfold Out.seq at hs
  split at hs
  · exact ⟨by simp, .inl ⟨_, _, _, rfl, hs⟩⟩
  · rename_i hn
    exact ⟨by rw [hs]; exact hne, .inr ⟨hs, fun e h mk => hn e h mk⟩⟩

theorem evRange_S {orc : FuncId → List AVal → AHeap → Option (AVal × AHeap)} {rec : Task → AHeap → Out} (hrec : RecS P rec) {rnd : Option Nat} {nt : Nat} {f : Operand} {ps : Array Tmp} {assign body : Code} {e : Env} {mk : List Nat} {out : Out}
    (ho : evRange P rec rnd nt f ps.toList assign body e h mk = out) (hne : out ≠ .fail) {r : Option Nat} {a : Act} (hr : rnd = none → r = none) (s : St P ι h w) (he : EnvR ι nt e a.tmps) (hm : MkR ι mk a.defers) :
    (Code.rangeFunc f ps assign body).wpIn (Fw r) 0 P (OutQ P nt h ι w out) a w := by
  unfold evRange at ho
  split at ho
  · exact absurd ho.symm hne
  · have := hr rfl
    subst this
    split at ho
    · rename_i g args hrf
      split at ho
      · rename_i v h' hcall
        obtain ⟨v', h1', e', hcs, hent⟩ := hrec (.call g args) _ _ hcall (by simp)
        cases e'
        -- the callee
        have hf := evalO_VR he s.glob f
        have hrf' : ∃ first cap, evalO P e f = .func (.func g) first cap ∧ args = first ++ [.func (.yield (h.next + 1)) [] []] ++ cap := by
          unfold rfCall at hrf
          split at hrf
          · cases hrf; rename_i first cap hh; exact ⟨first, cap, hh, rfl⟩
          · cases hrf
        obtain ⟨first, cap, e1, e2⟩ := hrf'
        rw [e1] at hf
        simp only [VR, FnR] at hf
        obtain ⟨fn', f', c', e3, e4, hv1, hv2⟩ := hf
        subst e4
        refine wpIn_rangeFunc fun fn _ => ?_
        -- the two blocks
        have hn1 := s.new (x := .defd false) (o := .deferred (some [])) 0 rfl (w' := { w with heap := w.heap.push (.deferred (some [])) }) rfl rfl rfl (by show _ = _; simp)
        generalize hw1 : ({ w with heap := w.heap.push (.deferred (some [])) } : World) = w1 at hn1
        generalize hi1 : ι.upd h.next 0 ⟨w.heap.size, 0⟩ = ι1 at hn1
        have hp1 : ι1 h.next 0 = some ⟨w.heap.size, 0⟩ := by rw [← hi1]; exact Emb.upd_self _ _ _ _
        have hsz : w1.heap.size = w.heap.size + 1 := by rw [← hw1]; simp
        have hle2 : ι1.le (ι1.upd (h.next + 1) 0 ⟨w1.heap.size, 0⟩) := Emb.le_upd (hn1.1.none_fresh (by simp [AHeap.new]))
        have hn2 := hn1.1.new (x := .loop .ready none nt e ps.toList assign body h.next) (o := .loop { state := .ready, pending := none, fn := fn, tmps := a.tmps, params := ps, assign := assign, body := body, defers := w.heap.size }) 0 rfl
          (w' := { w1 with heap := w1.heap.push (.loop { state := .ready, pending := none, fn := fn, tmps := a.tmps, params := ps, assign := assign, body := body, defers := w.heap.size }) }) rfl rfl rfl
          (show BR P _ _ _ _ _ from ⟨{ state := .ready, pending := none, fn := fn, tmps := a.tmps, params := ps, assign := assign, body := body, defers := w.heap.size }, ⟨w.heap.size, 0⟩, by simp, rfl, rfl, (he.mono hn1.2.le).mono hle2, rfl, rfl, rfl, hle2 _ _ _ hp1, rfl⟩)
        generalize hw2 : ({ w1 with heap := w1.heap.push (.loop { state := .ready, pending := none, fn := fn, tmps := a.tmps, params := ps, assign := assign, body := body, defers := w.heap.size }) } : World) = w2 at hn2
        have hnx : (h.new (.defd false)).next = h.next + 1 := rfl
        rw [hnx] at hn2
        generalize hi2 : ι1.upd (h.next + 1) 0 ⟨w1.heap.size, 0⟩ = ι2 at hn2 hle2
        have hp2 : ι2 (h.next + 1) 0 = some ⟨w1.heap.size, 0⟩ := by rw [← hi2]; exact Emb.upd_self _ _ _ _
        have hf02 : Fr h ι w ((h.new (.defd false)).new (.loop .ready none nt e ps.toList assign body h.next)) ι2 w2 := hn1.2.trans hn2.2
        have henter : (Instr.enterLoop fn a.tmps ps assign body (Fw none).round).run P w = .ok (w1.heap.size, [{ target := .collected w.heap.size, args := #[] }]) w2 := by
          rw [← hw2, ← hw1]
          simp [Instr.enterLoop, Fw_round, newObj, Sem.run_bind, Sem.run, Result.andThen]
          exact ⟨rfl, rfl, rfl⟩
        refine ⟨w1.heap.size, _, w2, { target := .fn (.func g) c', args := f' ++ #[.func (.yield w1.heap.size) #[] #[]] }, w2, g, f' ++ #[.func (.yield w1.heap.size) #[] #[]] ++ c', w2, henter, ?_, fun f' _ => Fw_fn none f', ?_,
          fun hd => (by rw [Fw_depth] at hd; cases hd), ?_⟩
        · simp [resolve, rangeCall, e3, Deferred.ofValue]
          rfl
        · show (callFunc g (f' ++ #[.func (.yield w1.heap.size) #[] #[]] ++ c')).run P w2 = _
          exact hent _ _
        · have hargs : VRs ι2 args (f' ++ #[Value.func (.yield w1.heap.size) #[] #[]] ++ c').toList := by
            rw [e2]
            have hy : VR ι2 (.func (.yield (h.next + 1)) [] []) (.func (.yield w1.heap.size) #[] #[]) := by
              simp only [VR, FnR]
              exact ⟨_, _, _, rfl, ⟨_, hp2, rfl⟩, VRs.nil, VRs.nil⟩
            have := ((VRs.mono hf02.le _ _ hv1).append (VRs.one hy)).append (VRs.mono hf02.le _ _ hv2)
            simpa using this
          refine CallsIn.mono (hcs ι2 w2 _ hn2.1 hargs) fun en w3 hR => ?_
          obtain ⟨u, ι3, e5, hv, s3, hf3⟩ := hR
          subst e5
          have hf03 := hf02.trans hf3
          have hp3 : ι3 (h.next + 1) 0 = some ⟨w1.heap.size, 0⟩ := hf3.le _ _ _ hp2
          have hmk3 : MkR ι3 (h.next :: mk) ([{ target := .collected w.heap.size, args := #[] }] ++ a.defers) := ⟨⟨w.heap.size, 0⟩, _, rfl, hf3.le _ _ _ (hle2 _ _ _ hp1), hm.mono hf03.le⟩
          -- what the record says
          have key : ∀ st pn nt' env' ps' as' b' d', h'.t.get (h.next + 1) = some (.loop st pn nt' env' ps' as' b' d') → st ≠ .busy →
              ∃ w4, (Instr.endLoop w1.heap.size).run P w3 = .ok pn w4 ∧ St P ι3 { next := h'.next, t := h'.t.set (h.next + 1) (.loop .exhausted pn nt' env' ps' as' b' d') } w4 ∧ Fr h ι w { next := h'.next, t := h'.t.set (h.next + 1) (.loop .exhausted pn nt' env' ps' as' b' d') } ι3 w4 := by
            intro st pn nt' env' ps' as' b' d' hg hb
            obtain ⟨q, hq, L, q2, g1, g2, g3, g4, g5, g6, g7, g8, g9⟩ := s3.blk _ _ hg
            simp only [ABlk.ep] at hq
            rw [hp3] at hq; cases hq
            simp only at g1
            have hput := s3.put (x' := .loop .exhausted pn nt' env' ps' as' b' d') (o := .loop { L with state := .exhausted }) hg hp3 rfl (w' := World.putB w3 w1.heap.size (.loop { L with state := .exhausted })) rfl rfl rfl
              ⟨_, q2, putB_self (Array.getElem?_eq_some_iff.1 g1).1, rfl, g3, g4, g5, g6, g7, g8, g9⟩
            refine ⟨_, ?_, hput.1, hf03.trans hput.2⟩
            have hbz : ¬ L.state = LoopState.busy := by rw [g2]; exact hb
            simp [Instr.endLoop, Instr.getLoop, getObj, setObj, Sem.run_bind, Sem.run, g1, Result.andThen, hbz, g3, World.putB]
          unfold rfEnd at ho
          split at ho
          · rename_i hg
            subst ho
            obtain ⟨w4, r1, r2, r3⟩ := key _ _ _ _ _ _ _ _ hg (by simp)
            exact ⟨none, w4, r1, ⟨e, _, _, ι3, rfl, r2, he.mono hf03.le, r3, hmk3⟩⟩
          · rename_i id _ _ _ _ _ _ hg
            subst ho
            obtain ⟨w4, r1, r2, r3⟩ := key _ _ _ _ _ _ _ _ hg (by simp)
            exact ⟨some (.exit id), w4, r1, wpIn_exit ⟨e, _, _, ι3, rfl, r2, he.mono hf03.le, r3, hmk3⟩⟩
          · rename_i hg
            subst ho
            obtain ⟨w4, r1, r2, r3⟩ := key _ _ _ _ _ _ _ _ hg (by simp)
            exact ⟨some .ret, w4, r1, wpIn_ret ⟨e, _, _, ι3, rfl, r2, he.mono hf03.le, r3, hmk3⟩⟩
          · exact absurd ho.symm hne
      · exact absurd ho.symm hne
    · exact absurd ho.symm hne

theorem evCode_S {orc : FuncId → List AVal → AHeap → Option (AVal × AHeap)} {rec : Task → AHeap → Out} (hrec : RecS P rec) (horc : OrcS P orc) (hdraw : DrawS P orc rec) (hmix : P.follows .mixedOrders = true) {rnd : Option Nat} {nt : Nat} :
    ∀ (c : Code) (e : Env) (h : AHeap) (mk : List Nat) (out : Out), evCode P orc rec rnd nt c e h mk = out → out ≠ .fail → ∀ (r : Option Nat) (ι : Emb) (w : World) (a : Act), (rnd = none → r = none) → St P ι h w → EnvR ι nt e a.tmps → MkR ι mk a.defers →
      c.wpIn (Fw r) 0 P (OutQ P nt h ι w out) a w := by
  intro c
  induction c with
  | skip =>
    intro e h mk out ho hne r ι w a hr s he hm
    have ho : Out.norm e h mk = out := ho
    subst ho
    exact wpIn_skip ⟨e, h, mk, ι, rfl, s, he, Fr.refl _ _ _, hm⟩
  | region id ops d =>
    intro e h mk out ho hne r ι w a hr s he hm
    have hQ : ∀ env' h' ι' a' w', out = .norm env' h' mk → St P ι' h' w' → EnvR ι' nt env' a'.tmps → Fr h ι w h' ι' w' → a'.defers = a.defers → OutQ P nt h ι w out .normal a' w' :=
      fun env' h' ι' a' w' e1 s1 he1 hf1 hd1 => ⟨env', h', mk, ι', e1, s1, he1, hf1, by rw [hd1]; exact hm.mono hf1.le⟩
    cases d with
    | false =>
      have ho : evOps P orc rec ops nt mk ops.toList e h = out := ho
      refine wpIn_region ?_
      have := evOps_S hrec horc (ops := ops) hne (Q := OutQ P nt h ι w out) (r := r) ops.toList 0 e h ι w a (fun j o hj => by simpa using hj) ho s he hQ
      rw [List.range_eq_range']
      simpa using this
    | true =>
      have ho : Bool.rec Out.fail (evDraw P orc rec ops (Region.before ops) nt h.next mk ops.toList 0 e { next := h.next + ops.size, t := h.t } ⟨[], [], []⟩) (drawOk ops) = out := ho
      cases hd : drawOk ops with
      | false => rw [hd] at ho; exact absurd ho.symm hne
      | true => rw [hd] at ho; exact wpIn_region_any hmix (hdraw ops nt mk e h out hd ho hne r ι w a _ s he hQ)
  | seq x y ihx ihy =>
    intro e h mk out ho hne r ι w a hr s he hm
    have ho : Out.seq (evCode P orc rec rnd nt x e h mk) (evCode P orc rec rnd nt y) = out := ho
    obtain ⟨hn1, hh⟩ := seq_inv ho hne
    refine wpIn_seq (wpIn_mono (ihx e h mk _ rfl hn1 r ι w a hr s he hm) fun ex a1 w1 hq => ?_)
    rcases hh with ⟨e1, h1, mk1, e2, hk⟩ | ⟨e2, hnn⟩
    · rw [e2] at hq
      cases ex <;> simp only [OutQ, Exit.then] at hq ⊢
      case normal =>
        obtain ⟨e3, h3, mk3, ι3, e4, s3, he3, hf3, hm3⟩ := hq
        cases e4
        exact wpIn_mono (ihy e1 h1 mk1 out hk hne r ι3 w1 a1 hr s3 he3 hm3) fun ex2 a2 w2 hq2 => hq2.trans hf3
      all_goals (obtain ⟨_, _, _, _, e4, _⟩ := hq; cases e4)
    · rw [e2] at hq
      cases ex <;> simp only [OutQ, Exit.then] at hq ⊢
      case normal =>
        obtain ⟨e3, h3, mk3, ι3, e4, _⟩ := hq
        exact absurd (e2.trans e4) (hnn _ _ _)
      all_goals exact hq
  | cond c x y ihx ihy =>
    intro e h mk out ho hne r ι w a hr s he hm
    have ho : (match evalO P e c with
      | .bool true => evCode P orc rec rnd nt x e h mk
      | .bool false => evCode P orc rec rnd nt y e h mk
      | _ => .fail) = out := ho
    have hc := evalO_VR he s.glob c
    split at ho
    · rename_i e1; rw [e1] at hc
      exact wpIn_cond_true hc.bool_inv (ihx e h mk out ho hne r ι w a hr s he hm)
    · rename_i e1; rw [e1] at hc
      exact wpIn_cond_false hc.bool_inv (ihy e h mk out ho hne r ι w a hr s he hm)
    · exact absurd ho.symm hne
  | block id b ih =>
    intro e h mk out ho hne r ι w a hr s he hm
    have ho : Out.blk (evCode P orc rec rnd nt b e h mk) id = out := ho
    have hn1 : evCode P orc rec rnd nt b e h mk ≠ .fail := fun hh => by rw [hh] at ho; exact hne ho.symm
    refine wpIn_block (wpIn_mono (ih e h mk _ rfl hn1 r ι w a hr s he hm) fun ex a1 w1 hq => ?_)
    cases ex <;> simp only [OutQ, Exit.inBlock] at hq ⊢
    case normal =>
      obtain ⟨e3, h3, mk3, ι3, e4, hrest⟩ := hq
      rw [e4] at ho
      exact ⟨e3, h3, mk3, ι3, ho.symm, hrest⟩
    case exit id' =>
      obtain ⟨e3, h3, mk3, ι3, e4, hrest⟩ := hq
      rw [e4] at ho
      simp only [Out.blk] at ho
      by_cases hid : id' = id
      · rw [if_pos hid]
        rw [(beq_iff.2 hid : Nat.beq id' id = true)] at ho
        exact ⟨e3, h3, mk3, ι3, ho.symm, hrest⟩
      · rw [if_neg hid]
        have hb : Nat.beq id' id = false := by cases hh : Nat.beq id' id with
          | false => rfl
          | true => exact absurd (beq_iff.1 hh) hid
        rw [hb] at ho
        exact ⟨e3, h3, mk3, ι3, ho.symm, hrest⟩
    case ret =>
      obtain ⟨e3, h3, mk3, ι3, e4, hrest⟩ := hq
      rw [e4] at ho
      exact ⟨e3, h3, mk3, ι3, ho.symm, hrest⟩
  | loop b ih =>
    intro e h mk out ho hne r ι w a hr s he hm
    have ho : Out.seq (evCode P orc rec rnd nt b e h mk) (fun e h mk => rec (.loop rnd nt b e mk) h) = out := ho
    obtain ⟨hn1, hh⟩ := seq_inv ho hne
    refine LoopWp.loop (LoopWp.round (wpIn_mono (ih e h mk _ rfl hn1 r ι w a hr s he hm) fun ex a1 w1 hq => ?_))
    rcases hh with ⟨e1, h1, mk1, e2, hk⟩ | ⟨e2, hnn⟩
    · rw [e2] at hq
      cases ex <;> simp only [OutQ, Exit.then] at hq ⊢
      case normal =>
        obtain ⟨e3, h3, mk3, ι3, e4, s3, he3, hf3, hm3⟩ := hq
        cases e4
        exact (hrec (.loop rnd nt b e1 mk1) h1 out hk hne r ι3 w1 a1 hr s3 he3 hm3).mono fun ex2 a2 w2 hq2 => hq2.trans hf3
      all_goals (obtain ⟨_, _, _, _, e4, _⟩ := hq; cases e4)
    · rw [e2] at hq
      cases ex <;> simp only [OutQ, Exit.then] at hq ⊢
      case normal =>
        obtain ⟨e3, h3, mk3, ι3, e4, _⟩ := hq
        exact absurd (e2.trans e4) (hnn _ _ _)
      all_goals exact hq
  | rangeFunc f ps assign body _ _ =>
    intro e h mk out ho hne r ι w a hr s he hm
    exact evRange_S (orc := orc) hrec ho hne hr s he hm
  | exit id =>
    intro e h mk out ho hne r ι w a hr s he hm
    have ho : Out.exit id e h mk = out := ho
    subst ho
    exact wpIn_exit ⟨e, h, mk, ι, rfl, s, he, Fr.refl _ _ _, hm⟩
  | scope b ih =>
    intro e h mk out ho hne r ι w a hr s he hm
    have ho : evCode P orc rec rnd nt b e h mk = out := ho
    exact wpIn_scope (wpIn_mono (ih e h mk out ho hne r ι w a hr s he hm) fun ex a1 w1 hq => by cases ex <;> first | exact hq | exact hq.elim)
  | label l =>
    intro e h mk out ho hne r ι w a hr s he hm
    have ho : Out.norm e h mk = out := ho
    subst ho
    exact wpIn_label ⟨e, h, mk, ι, rfl, s, he, Fr.refl _ _ _, hm⟩
  | goto l =>
    intro e h mk out ho hne
    exact absurd (show Out.fail = out from ho).symm hne
  | ret =>
    intro e h mk out ho hne r ι w a hr s he hm
    have ho : Out.ret e h mk = out := ho
    subst ho
    exact wpIn_ret ⟨e, h, mk, ι, rfl, s, he, Fr.refl _ _ _, hm⟩
  | refuse l =>
    intro e h mk out ho hne
    exact absurd (show Out.fail = out from ho).symm hne
end Ab

namespace Ab
open Go
variable {P : Program} {ι : Emb} {h h' : AHeap} {w : World}

/-- no function of the program is the one that the machine answers itself -/
def noCount (P : Program) : Bool := P.funcs.all fun f => f.name != "runtime.NumGoroutine"
theorem entS_of (hP : noCount P = true) {f : FuncId} {c : Code} {nt : Nat} {rs : List ResultVar} (hf : fnInfo P f = some (c, nt, rs)) :
    EntS P f ∧ ∃ fn, P.funcs[f]? = some fn ∧ fn.body = some c ∧ fn.ntmps = nt ∧ fn.results.toList = rs := by
  unfold fnInfo at hf
  split at hf
  · rename_i fn hfn
    split at hf
    · rename_i c' hb
      cases hf
      refine ⟨fun cargs w => ?_, fn, hfn, hb, rfl, rfl⟩
      have hname : (fn.name == "runtime.NumGoroutine") = false := by
        have := Array.all_eq_true.1 hP f (Array.getElem?_eq_some_iff.1 hfn).1
        rw [(Array.getElem?_eq_some_iff.1 hfn).2] at this
        simpa using this
      have hname' : ¬ fn.name = "runtime.NumGoroutine" := by simpa using hname
      simp [callFunc, program, Sem.run_bind, Sem.run, Result.andThen, hfn, hname', hb]
    · cases hf
  · cases hf

theorem takeM_S {fn : Func} {tmps : Array Value} {R : Ending → World → Prop} {h0 : AHeap} {ι0 : Emb} {w0 : World} : ∀ (mk : List Nat) (ds : List Deferred) (h : AHeap) (ι : Emb) (w : World) (h' : AHeap), takeM mk h = some h' → St P ι h w → Fr h0 ι0 w0 h ι w → MkR ι mk ds →
    (∀ w', St P ι h' w' → Fr h0 ι0 w0 h' ι w' → LeavesIn Fence.wide 0 P fn tmps R [] .returning w') → LeavesInM Fence.wide 0 P fn tmps R ds .returning w
  | [], ds, h, ι, w, h', ht, s, hf, hm, hk => by
    simp only [MkR] at hm
    subst hm
    simp only [takeM, Option.some.injEq] at ht
    subst ht
    exact hk w s hf
  | d :: l, ds, h, ι, w, h', ht, s, hf, hm, hk => by
    obtain ⟨p, ds', e, hp, hm'⟩ := hm
    subst e
    simp only [takeM] at ht
    split at ht
    · rename_i hg
      obtain ⟨q, hq, hb⟩ := s.blk _ _ hg
      simp only [ABlk.ep] at hq
      rw [hp] at hq; cases hq
      have hb : w.heap[p.cb]? = some (.deferred (some [])) := by simpa [BR] using hb
      have hput := s.put (x' := .defd true) (o := .deferred none) hg hp rfl (w' := World.putB w p.cb (.deferred none)) rfl rfl rfl (by
        show _ = _
        simpa using putB_self (Array.getElem?_eq_some_iff.1 hb).1)
      refine ⟨by simp, .inl ⟨p.cb, World.putB w p.cb (.deferred none), rfl, ?_, ?_⟩⟩
      · simp [Instr.takeDeferred, getObj, setObj, Sem.run_bind, Sem.run, hb, Result.andThen, World.putB]
      · exact takeM_S l ds' _ ι _ h' ht hput.1 (hf.trans hput.2) hm' hk
    · cases ht

theorem resVs_S {nt : Nat} {e : Env} {a : Act} (s : St P ι h w) (he : EnvR ι nt e a.tmps) : ∀ (rs : List ResultVar) (vs : List AVal), resVs P e h rs = some vs →
    ∃ us : List Value, (rs.mapM (m := Sem) fun
      | .tmp t => pure (a.tmps.getD t undef)
      | .cell c t => do loadVar t (← asAddr (a.tmps.getD c undef))).run P w = .ok us w ∧ VRs ι vs us
  | [], vs, hr => by
    simp only [resVs, Option.some.injEq] at hr
    subst hr
    exact ⟨[], by simp, VRs.nil⟩
  | r :: rs, vs, hr => by
    simp only [resVs] at hr
    split at hr
    · rename_i v vs' hv hvs
      cases hr
      obtain ⟨us, h1, h2⟩ := resVs_S s he rs vs' hvs
      have hone : ∃ u, (match r with
        | .tmp t => (pure (a.tmps.getD t undef) : Sem Value)
        | .cell c t => do loadVar t (← asAddr (a.tmps.getD c undef))).run P w = .ok u w ∧ VR ι v u := by
        cases r with
        | tmp t =>
          simp only [resV, Option.some.injEq] at hv
          refine ⟨a.tmps.getD t undef, by simp, ?_⟩
          cases ht : e.get t with
          | none => rw [ht] at hv; simp at hv; subst hv; simp [VR]
          | some x => rw [ht] at hv; simp at hv; subst hv; exact (he.get t x ht).2
        | cell c t =>
          simp only [resV] at hv
          split at hv
          · rename_i x hx
            obtain ⟨_, hx'⟩ := he.get c _ hx
            obtain ⟨p, hp, e1⟩ := hx'.ptr_inv
            obtain ⟨u, h3, h4⟩ := loadT_S s hp hv
            refine ⟨u, ?_, h4⟩
            simp only [e1]
            simp [asAddr, Sem.run_bind, Result.andThen, h3]
          · cases hv
      obtain ⟨u, h3, h4⟩ := hone
      refine ⟨u :: us, ?_, VRs.cons h4 h2⟩
      rw [List.mapM_cons]
      simp only [Sem.run_bind]
      cases r <;> simp only [] at h3 ⊢ <;> rw [h3] <;> simp only [Result.andThen] <;> rw [h1] <;> simp [Result.andThen]
    · cases hr

theorem leave_S {fn : Func} {mk : List Nat} {e : Env} {v : AVal} {nt : Nat} {a : Act} {h0 : AHeap} {ι0 : Emb} {w0 : World} (hl : leave P fn.results.toList e h mk = .done v h') (s : St P ι h w) (hf : Fr h0 ι0 w0 h ι w) (he : EnvR ι nt e a.tmps) (hm : MkR ι mk a.defers) :
    LeavesInM Fence.wide 0 P fn a.tmps (RetR P h0 ι0 w0 v h') a.defers .returning w := by
  unfold leave at hl
  split at hl
  · cases hl
  · rename_i h1 ht
    refine takeM_S mk a.defers h ι w h1 ht s hf hm fun w' s' hf' => ?_
    have key : ∀ vs, resVs P e h1 fn.results.toList = some vs → ∃ us : Array Value, VRs ι vs us.toList ∧ (results fn a.tmps).run P w' = .ok (if hh : us.size = 1 then us[0] else .tuple us) w' := by
      intro vs hv
      obtain ⟨us, h2, h3⟩ := resVs_S s' he _ _ hv
      refine ⟨us.toArray, by simpa using h3, ?_⟩
      have hmap : ∀ (s : Sem (List Value)) (us : List Value), s.run P w' = .ok us w' → (List.toArray <$> s).run P w' = .ok us.toArray w' := by
        intro s us hs
        rw [show (List.toArray <$> s) = (s >>= fun a => pure a.toArray) from rfl, Sem.run_bind, hs]
        rfl
      unfold results
      rw [Array.mapM_eq_mapM_toList, Sem.run_bind]
      exact congrArg (fun r => Result.andThen r fun (a : Array Value) w' => Sem.run P (pure (if h : a.size = 1 then a[0] else Value.tuple a)) w') (hmap _ us h2)
    split at hl
    · rename_i v1 hv
      cases hl
      obtain ⟨us, h2, h3⟩ := key _ hv
      obtain ⟨u, e1, h4⟩ := one_get h2 rfl
      subst e1
      exact ⟨_, h3, u, ι, rfl, h4, s', hf'⟩
    · rename_i vs hn hv
      cases hl
      obtain ⟨us, h2, h3⟩ := key _ hv
      refine ⟨_, h3, .tuple us, ι, ?_, ?_, s', hf'⟩
      · have hne : us.size ≠ 1 := by
          intro hh
          have hlen := h2.length
          have h1 : vs.length = 1 := by simp at hlen; omega
          obtain ⟨x, hx⟩ := List.length_eq_one_iff.1 h1
          exact hn x hx
        rw [dif_neg hne]
      · simp only [VR]; exact ⟨us, rfl, h2⟩
    · cases hl

theorem args_EnvR {nt : Nat} {args : List AVal} {cargs : Array Value} (ha : VRs ι args cargs.toList) (hn : args.length ≤ nt) : EnvR ι nt (T.setL args 0 .leaf) (cargs ++ Array.replicate (nt - cargs.size) undef) := by
  have hlen := ha.length
  simp at hlen
  refine ⟨by simp; omega, fun t v ht => ?_⟩
  rw [get_setL] at ht
  by_cases hh : 0 ≤ t ∧ t < 0 + args.length
  · rw [if_pos hh] at ht
    obtain ⟨u, hu, hr⟩ := ha.get _ _ ht
    refine ⟨by omega, ?_⟩
    rw [Array.getD_eq_getD_getElem?, Array.getElem?_append_left (by omega)]
    simp at hu
    rw [hu]
    exact hr
  · rw [if_neg hh] at ht
    simp at ht

theorem setPs_S {nt : Nat} : ∀ (ps : List Tmp) (args : List AVal) (us : List Value) (e e' : Env) (tmps : Array Value), setPs ps args nt e = some e' → VRs ι args us → EnvR ι nt e tmps →
    ps.length = us.length ∧ EnvR ι nt e' ((ps.zip us).foldl (fun tmps (t, a) => tmps.setIfInBounds t a) tmps)
  | [], [], us, e, e', tmps, hs, ha, he => by
    have := ha.nil_inv; subst this
    simp only [setPs, Option.some.injEq] at hs
    subst hs
    exact ⟨rfl, by simpa using he⟩
  | t :: ps, v :: args, us, e, e', tmps, hs, ha, he => by
    obtain ⟨u, us', e1, h1, h2⟩ := ha.cons_inv
    subst e1
    simp only [setPs] at hs
    cases hb : Nat.blt t nt with
    | false => simp [hb] at hs
    | true =>
      simp only [hb, cond_true] at hs
      obtain ⟨g1, g2⟩ := setPs_S ps args us' _ e' (tmps.setIfInBounds t u) hs h2 (he.set (blt_iff.1 hb) h1)
      exact ⟨by simp [g1], by simpa using g2⟩
  | [], _ :: _, _, _, _, _, hs, _, _ => by simp [setPs] at hs
  | _ :: _, [], _, _, _, _, hs, _, _ => by simp [setPs] at hs

theorem endRnd_S {l : Nat} {p : Place} {jump : Option Code} {v : AVal} (s : St P ι h w) (hp : ι l 0 = some p) (ho : endRnd l jump h = .done v h') :
    ∃ u w', (Instr.endRound p.cb jump).run P w = .ok u w' ∧ VR ι v u ∧ St P ι h' w' ∧ Fr h ι w h' ι w' := by
  unfold endRnd at ho
  split at ho
  · rename_i st pn nt env ps a b d hg
    cases ho
    obtain ⟨q, hq, L, q2, g1, g2, g3, g4, g5, g6, g7, g8, g9⟩ := s.blk _ _ hg
    simp only [ABlk.ep] at hq
    rw [hp] at hq; cases hq
    have key : ∀ st', st' = (if jump.isNone = true then LoopState.ready else LoopState.done) → ∃ u w', (Instr.endRound p.cb jump).run P w = .ok u w' ∧ VR ι (.bool jump.isNone) u ∧
        St P ι { next := h.next, t := h.t.set l (.loop st' jump nt env ps a b d) } w' ∧ Fr h ι w { next := h.next, t := h.t.set l (.loop st' jump nt env ps a b d) } ι w' := by
      intro st' hst'
      have hput := s.put (x' := .loop st' jump nt env ps a b d) (o := .loop { L with state := if jump.isNone then .ready else .done, pending := jump }) hg hp rfl
        (w' := World.putB w p.cb (.loop { L with state := if jump.isNone then .ready else .done, pending := jump })) rfl rfl rfl
        ⟨_, q2, putB_self (Array.getElem?_eq_some_iff.1 g1).1, hst'.symm, rfl, g4, g5, g6, g7, g8, g9⟩
      refine ⟨.bool jump.isNone, _, ?_, by simp [VR], hput.1, hput.2⟩
      simp [Instr.endRound, Instr.getLoop, getObj, setObj, Sem.run_bind, Sem.run, g1, Result.andThen, World.putB]
    exact key _ (by cases jump <;> rfl)
  · cases ho

theorem yld_S {orc : FuncId → List AVal → AHeap → Option (AVal × AHeap)} {rec : Task → AHeap → Out} (hrec : RecS P rec) (horc : OrcS P orc) (hdraw : DrawS P orc rec) (hmix : P.follows .mixedOrders = true) {l : Nat} {args : List AVal} {out : Out}
    (ho : evTask P orc rec (.yld l args) h = out) (hne : out ≠ .fail) : TaskS P (.yld l args) h out := by
  simp only [evTask] at ho
  split at ho
  · rename_i pn nt env ps assign body d hg
    split at ho
    · rename_i env' hsp
      split at ho
      · rename_i e1 h1 hassign
        unfold rndBody at ho
        split at ho
        · rename_i pn2 nt2 env2 ps2 as2 b2 d2 hg2
          have hres : ∃ v h', out = .done v h' := by
            have hend : ∀ jump hh, endRnd l jump hh = out → ∃ v h', out = .done v h' := by
              intro jump hh he
              unfold endRnd at he
              split at he
              · exact ⟨_, _, he.symm⟩
              · exact absurd he.symm hne
            split at ho
            · exact hend _ _ ho
            · exact hend _ _ ho
            · exact hend _ _ ho
            · exact absurd ho.symm hne
          obtain ⟨v, h', hout⟩ := hres
          subst hout
          refine ⟨v, h', rfl, ?_⟩
          intro o ι w p cargs r a next Q s hp ha hk
          obtain ⟨q, hq, L, q2, g1, g2, g3, g4, g5, g6, g7, g8, g9⟩ := s.blk _ _ hg
          simp only [ABlk.ep] at hq
          rw [hp] at hq; cases hq
          obtain ⟨k1, k2⟩ := setPs_S ps args cargs.toList env env' L.tmps hsp ha g4
          have hsz : cargs.size = L.params.size := by rw [← g5] at k1; simp at k1; omega
          have hrun : (Instr.yield p.cb cargs).run P w = .ok (.round p.cb L.fn ((L.params.zip cargs).foldl (fun tmps (t, a) => tmps.setIfInBounds t a) L.tmps) assign body) w := by
            simp [Instr.yield, Instr.getLoop, getObj, Sem.run_bind, Sem.run, g1, Result.andThen, hsz, g6, g7]
          rw [hrun]
          have htm : (L.params.zip cargs).foldl (fun tmps (t, a) => tmps.setIfInBounds t a) L.tmps = (ps.zip cargs.toList).foldl (fun tmps (t, a) => tmps.setIfInBounds t a) L.tmps := by
            rw [← Array.foldl_toList, Array.toList_zip, g5]
          rw [htm]
          refine ⟨fun hd => (by rw [Fw_depth] at hd; cases hd), RoundIn.mono (Fw_round' (roundIn_of_wpIn (R := RetR P h ι w v h') trivial ?_)) fun en w' hR => ?_⟩
          · refine wpIn_mono (evCode_S hrec horc hdraw hmix assign env' h [] _ hassign (by simp) (some p.cb) ι w _ (by simp) s k2 rfl) fun ex a1 w1 hq => ?_
            cases ex <;> simp only [OutQ, Exit.then] at hq ⊢
            case normal =>
              obtain ⟨e2, h2, mk2, ι2, e3, s2, he2, hf2, hm2⟩ := hq
              cases e3
              have hp2 := hf2.le _ _ _ hp
              obtain ⟨q, hq, L2, q3, i1, i2, i3, i4, i5, i6, i7, i8, i9⟩ := s2.blk _ _ hg2
              simp only [ABlk.ep] at hq
              rw [hp2] at hq; cases hq
              have hput := s2.put (x' := .loop .busy pn2 nt2 env2 ps2 as2 b2 d2) (o := .loop { L2 with state := .busy }) hg2 hp2 rfl (w' := World.putB w1 p.cb (.loop { L2 with state := .busy })) rfl rfl rfl
                ⟨_, q3, putB_self (Array.getElem?_eq_some_iff.1 i1).1, rfl, i3, i4, i5, i6, i7, i8, i9⟩
              refine ⟨World.putB w1 p.cb (.loop { L2 with state := .busy }), ?_, ?_⟩
              · show (Instr.beginRound p.cb).run P w1 = .ok () (World.putB w1 p.cb (.loop { L2 with state := .busy }))
                simp [Instr.beginRound, Instr.getLoop, getObj, setObj, Sem.run_bind, Sem.run, i1, Result.andThen, World.putB, i2]
              · have hbody : ∀ ob, evCode P orc rec (some l) nt body e1 { next := h1.next, t := h1.t.set l (.loop .busy pn2 nt2 env2 ps2 as2 b2 d2) } [] = ob → ob ≠ .fail →
                    body.wpIn (Fw (some p.cb)) 0 P (OutQ P nt { next := h1.next, t := h1.t.set l (.loop .busy pn2 nt2 env2 ps2 as2 b2 d2) } ι2 (World.putB w1 p.cb (.loop { L2 with state := .busy })) ob) a1 (World.putB w1 p.cb (.loop { L2 with state := .busy })) :=
                  fun ob hob hn => evCode_S hrec horc hdraw hmix body e1 _ [] ob hob hn (some p.cb) ι2 _ a1 (by simp) hput.1 he2 hm2
                have fin : ∀ (jump : Option Code) (h3 : AHeap) (ι3 : Emb) (w3 : World), endRnd l jump h3 = .done v h' → St P ι3 h3 w3 → Fr { next := h1.next, t := h1.t.set l (.loop .busy pn2 nt2 env2 ps2 as2 b2 d2) } ι2 (World.putB w1 p.cb (.loop { L2 with state := .busy })) h3 ι3 w3 →
                    ∃ u w4, (Instr.endRound p.cb jump).run P w3 = .ok u w4 ∧ RetR P h ι w v h' (.returned u) w4 := by
                  intro jump h3 ι3 w3 he3 s3 hf3
                  obtain ⟨u, w4, j1, j2, j3, j4⟩ := endRnd_S s3 (hf3.le _ _ _ (hput.2.le _ _ _ hp2)) he3
                  exact ⟨u, w4, j1, u, ι3, rfl, j2, j3, ((hf2.trans hput.2).trans hf3).trans j4⟩
                split at ho
                · rename_i hb
                  refine wpIn_mono (hbody _ hb (by simp)) fun ex a3 w3 hq3 => ?_
                  cases ex <;> simp only [OutQ, roundPost] at hq3 ⊢
                  case normal => obtain ⟨_, _, _, ι3, e4, s3, _, hf3, _⟩ := hq3; cases e4; exact fin none _ ι3 w3 ho s3 hf3
                  all_goals (obtain ⟨_, _, _, _, e4, _⟩ := hq3; cases e4)
                · rename_i hb
                  refine wpIn_mono (hbody _ hb (by simp)) fun ex a3 w3 hq3 => ?_
                  cases ex <;> simp only [OutQ, roundPost] at hq3 ⊢
                  case exit => obtain ⟨_, _, _, ι3, e4, s3, _, hf3, _⟩ := hq3; cases e4; exact fin _ _ ι3 w3 ho s3 hf3
                  all_goals (obtain ⟨_, _, _, _, e4, _⟩ := hq3; cases e4)
                · rename_i hb
                  refine wpIn_mono (hbody _ hb (by simp)) fun ex a3 w3 hq3 => ?_
                  cases ex <;> simp only [OutQ, roundPost] at hq3 ⊢
                  case ret => obtain ⟨_, _, _, ι3, e4, s3, _, hf3, _⟩ := hq3; cases e4; exact fin _ _ ι3 w3 ho s3 hf3
                  all_goals (obtain ⟨_, _, _, _, e4, _⟩ := hq3; cases e4)
                · cases ho
            all_goals (obtain ⟨_, _, _, _, e4, _⟩ := hq; cases e4)
          · obtain ⟨u, ι', e5, hv, s', hf⟩ := hR
            subst e5
            exact hk u ι' w' hv s' hf
        · exact absurd ho.symm hne
      · exact absurd ho.symm hne
    · exact absurd ho.symm hne
  · exact absurd ho.symm hne

theorem task_S {orc : FuncId → List AVal → AHeap → Option (AVal × AHeap)} {rec : Task → AHeap → Out} (hrec : RecS P rec) (horc : OrcS P orc) (hdraw : DrawS P orc rec) (hmix : P.follows .mixedOrders = true) (hno : noCount P = true) : RecS P (evTask P orc rec) := by
  intro t h out ho hne
  cases t with
  | yld l args => exact yld_S hrec horc hdraw hmix ho hne
  | loop rnd nt b e mk =>
    intro r ι w a hr s he hm
    simp only [evTask] at ho
    obtain ⟨hn1, hh⟩ := seq_inv ho hne
    refine LoopWp.round (wpIn_mono (evCode_S hrec horc hdraw hmix b e h mk _ rfl hn1 r ι w a hr s he hm) fun ex a1 w1 hq => ?_)
    rcases hh with ⟨e1, h1, mk1, e2, hk⟩ | ⟨e2, hnn⟩
    · rw [e2] at hq
      cases ex <;> simp only [OutQ, Exit.then] at hq ⊢
      case normal =>
        obtain ⟨e3, h3, mk3, ι3, e4, s3, he3, hf3, hm3⟩ := hq
        cases e4
        exact (hrec (.loop rnd nt b e1 mk1) h1 out hk hne r ι3 w1 a1 hr s3 he3 hm3).mono fun ex2 a2 w2 hq2 => hq2.trans hf3
      all_goals (obtain ⟨_, _, _, _, e4, _⟩ := hq; cases e4)
    · rw [e2] at hq
      cases ex <;> simp only [OutQ, Exit.then] at hq ⊢
      case normal =>
        obtain ⟨e3, h3, mk3, ι3, e4, _⟩ := hq
        exact absurd (e2.trans e4) (hnn _ _ _)
      all_goals exact hq
  | call f args =>
    simp only [evTask] at ho
    split at ho
    · rename_i c nt rs hfi
      obtain ⟨hent, fn, hfn, hbody, hnt, hrs⟩ := entS_of hno hfi
      subst hnt; subst hrs
      cases hle : Nat.ble args.length fn.ntmps with
      | false => simp [hle] at ho; exact absurd ho.symm hne
      | true =>
        simp only [hle, cond_true] at ho
        have hlv : ∃ v h', out = .done v h' := by
          have : ∀ e h mk, leave P fn.results.toList e h mk = out → ∃ v h', out = .done v h' := by
            intro e h mk hl
            unfold leave at hl
            split at hl
            · exact absurd hl.symm hne
            · split at hl
              · exact ⟨_, _, hl.symm⟩
              · exact ⟨_, _, hl.symm⟩
              · exact absurd hl.symm hne
          split at ho
          · exact this _ _ _ ho
          · exact this _ _ _ ho
          · exact absurd ho.symm hne
        obtain ⟨v, h', hout⟩ := hlv
        subst hout
        refine ⟨v, h', rfl, fun ι w cargs s ha => ?_, hent⟩
        refine callsIn_of_wp_marks hfn hbody trivial ?_
        have hcode : ∀ ob, evCode P orc rec none fn.ntmps c (T.setL args 0 .leaf) h [] = ob → ob ≠ .fail → c.wpIn (Fw none) 0 P (OutQ P fn.ntmps h ι w ob) { tmps := cargs ++ Array.replicate (fn.ntmps - cargs.size) undef, defers := [] } w :=
          fun ob hob hn => evCode_S hrec horc hdraw hmix c _ h [] ob hob hn none ι w _ (fun _ => rfl) s (args_EnvR ha (ble_iff.1 hle)) rfl
        split at ho
        · rename_i hb
          refine wpIn_mono (hcode _ hb (by simp)) fun ex a1 w1 hq => ?_
          cases ex <;> simp only [OutQ, bodyPostM] at hq ⊢
          case normal => obtain ⟨_, _, _, ι3, e4, s3, he3, hf3, hm3⟩ := hq; cases e4; exact leave_S ho s3 hf3 he3 hm3
          all_goals (obtain ⟨_, _, _, _, e4, _⟩ := hq; cases e4)
        · rename_i hb
          refine wpIn_mono (hcode _ hb (by simp)) fun ex a1 w1 hq => ?_
          cases ex <;> simp only [OutQ, bodyPostM] at hq ⊢
          case ret => obtain ⟨_, _, _, ι3, e4, s3, he3, hf3, hm3⟩ := hq; cases e4; exact leave_S ho s3 hf3 he3 hm3
          all_goals (obtain ⟨_, _, _, _, e4, _⟩ := hq; cases e4)
        · cases ho
    · exact absurd ho.symm hne

theorem ev_S {orc : FuncId → List AVal → AHeap → Option (AVal × AHeap)} (horc : OrcS P orc) (hdraw : ∀ rec, RecS P rec → DrawS P orc rec) (hmix : P.follows .mixedOrders = true) (hno : noCount P = true) : ∀ n, RecS P (ev P orc n) := by
  intro n
  induction n with
  | zero =>
    intro t h out ho hne
    exact absurd (show Out.fail = out from ho).symm hne
  | succ n ih =>
    intro t h out ho hne
    have ho : evTask P orc (ev P orc n) t h = out := ho
    exact task_S ih horc (hdraw _ ih) hmix hno t h out ho hne
end Ab

namespace Ab
open Go
variable {P : Program} {ι : Emb} {h h' : AHeap} {w : World}

def Sub (a b : AHeap) : Prop := a.next = b.next ∧ ∀ i x, a.t.get i = some x → b.t.get i = some x
theorem Sub.refl (a : AHeap) : Sub a a := ⟨rfl, fun _ _ hx => hx⟩
theorem St.sub {a b : AHeap} (s : St P ι b w) (hs : Sub a b) : St P ι a w :=
  ⟨fun i x hx => s.blk i x (hs.2 i x hx), fun i j x y p q hx hy => s.inj i j x y p q (hs.2 i x hx) (hs.2 j y hy), fun i x e p hx => s.eps i x e p (hs.2 i x hx),
   fun i e p hp => by rw [hs.1]; exact s.fresh i e p hp, s.glob⟩

/-- a step on a part of the heap leaves the rest as it lay -/
theorem around {S S' a : AHeap} {ι' : Emb} {w' : World} (s : St P ι S w) (hsub : Sub a S) (s' : St P ι' h' w') (f : Fr a ι w h' ι' w') (hn : S'.next = h'.next)
    (hS : ∀ i x, S'.t.get i = some x → h'.t.get i = some x ∨ (S.t.get i = some x ∧ a.t.get i = none)) : St P ι' S' w' ∧ Fr S ι w S' ι' w' := by
  have hex : ∀ i x, S.t.get i = some x → a.t.get i = none → ∃ p, ι i x.ep = some p ∧ ι' i x.ep = some p ∧ BR P ι i x p w ∧ p.cb < w.heap.size ∧ ¬ Img a ι p.cb := by
    intro i x hx ha
    obtain ⟨p, hp, hb⟩ := s.blk i x hx
    refine ⟨p, hp, f.le _ _ _ hp, hb, hb.lt, ?_⟩
    intro ⟨b, y, q, hy, hq, he⟩
    have := s.inj b i y x q p (hsub.2 b y hy) hx hq hp he
    subst this
    rw [ha] at hy; cases hy
  refine ⟨⟨?_, ?_, ?_, ?_, s'.glob⟩, ⟨f.le, f.size, ?_, ?_, ?_, ?_, ?_, f.os, f.output⟩⟩
  · intro i x hx
    rcases hS i x hx with hh | ⟨hh, ha⟩
    · exact s'.blk i x hh
    · obtain ⟨p, hp, hp', hb, hlt, hni⟩ := hex i x hh ha
      exact ⟨p, hp', hb.mono f.le (f.keep _ hlt hni)⟩
  · intro i j x y p q hx hy hp hq he
    rcases hS i x hx with hi | ⟨hi, hai⟩ <;> rcases hS j y hy with hj | ⟨hj, haj⟩
    · exact s'.inj i j x y p q hi hj hp hq he
    · exfalso
      obtain ⟨q', _, hq', _, hlt, hni⟩ := hex j y hj haj
      rw [hq'] at hq; cases hq
      exact hni (f.img _ hlt ⟨i, x, p, hi, hp, he⟩)
    · exfalso
      obtain ⟨p', _, hp', _, hlt, hni⟩ := hex i x hi hai
      rw [hp'] at hp; cases hp
      exact hni (f.img _ hlt ⟨j, y, q, hj, hq, he.symm⟩)
    · obtain ⟨p', h1, hp', _⟩ := hex i x hi hai
      obtain ⟨q', h2, hq', _⟩ := hex j y hj haj
      rw [hp'] at hp; cases hp
      rw [hq'] at hq; cases hq
      exact s.inj i j x y _ _ hi hj h1 h2 he
  · intro i x e p hx hp
    rcases hS i x hx with hi | ⟨hi, hai⟩
    · exact s'.eps i x e p hi hp
    · rcases f.dom i e p hp with h1 | h1 | ⟨y, h1⟩
      · exact s.eps i x e p hi h1
      · obtain ⟨p', h2, _⟩ := hex i x hi hai
        have := s.fresh _ _ _ h2
        rw [hsub.1] at h1
        omega
      · rw [hai] at h1; cases h1
  · intro i e p hp; rw [hn]; exact s'.fresh i e p hp
  · intro cb hc hni
    exact f.keep cb hc fun ⟨b, y, q, hy, hq, he⟩ => hni ⟨b, y, q, hsub.2 b y hy, hq, he⟩
  · intro cb hc ⟨i, x, p, hx, hp, he⟩
    rcases hS i x hx with hi | ⟨hi, hai⟩
    · obtain ⟨b, y, q, hy, hq, he'⟩ := f.img cb hc ⟨i, x, p, hi, hp, he⟩
      exact ⟨b, y, q, hsub.2 b y hy, hq, he'⟩
    · obtain ⟨p', h1, hp', _⟩ := hex i x hi hai
      rw [hp'] at hp; cases hp
      exact ⟨i, x, _, hi, h1, he⟩
  · rw [hn, ← hsub.1]; exact f.next
  · intro i x hx
    rcases hS i x hx with hi | ⟨hi, hai⟩
    · rcases f.live i x hi with h1 | ⟨y, h1⟩
      · exact .inl (by rw [← hsub.1]; exact h1)
      · exact .inr ⟨y, hsub.2 i y h1⟩
    · exact .inr ⟨x, hi⟩
  · intro i e p hp
    rcases f.dom i e p hp with h1 | h1 | ⟨y, h1⟩
    · exact .inl h1
    · exact .inr (.inl (by rw [← hsub.1]; exact h1))
    · exact .inr (.inr ⟨y, hsub.2 i y h1⟩)

/-- a new block at a place that was kept free for it -/
theorem newAt {h0 : AHeap} {ι0 : Emb} {w0 w' : World} (s : St P ι h w) (f : Fr h0 ι0 w0 h ι w) {b0 : Nat} (hb1 : h0.next ≤ b0) (hb2 : b0 < h.next) (hb3 : ∀ e, ι b0 e = none) {x : ABlk} {o : Obj} (n : Nat) (hx : x.ep = 0)
    (hw : w'.heap = w.heap.push o) (ho : w'.os = w.os) (hp : w'.output = w.output)
    (hb : BR P (ι.upd b0 0 ⟨w.heap.size, n⟩) b0 x ⟨w.heap.size, n⟩ w') :
    St P (ι.upd b0 0 ⟨w.heap.size, n⟩) { next := h.next, t := h.t.set b0 x } w' ∧ Fr h0 ι0 w0 { next := h.next, t := h.t.set b0 x } (ι.upd b0 0 ⟨w.heap.size, n⟩) w' := by
  have hle : ι.le (ι.upd b0 0 ⟨w.heap.size, n⟩) := Emb.le_upd (hb3 0)
  have hold : ∀ cb, cb < w.heap.size → w'.heap[cb]? = w.heap[cb]? := fun cb hc => by rw [hw, Array.getElem?_push_lt hc, Array.getElem?_eq_getElem hc]
  have hget : ∀ b y, T.get (h.t.set b0 x) b = some y → (b = b0 ∧ y = x) ∨ (b ≠ b0 ∧ h.t.get b = some y) := by
    intro b y hy
    rw [get_set] at hy
    by_cases e : b0 = b
    · rw [if_pos e] at hy; cases hy; exact .inl ⟨e.symm, rfl⟩
    · rw [if_neg e] at hy; exact .inr ⟨fun e' => e e'.symm, hy⟩
  have hupd : ∀ b e, b ≠ b0 → ι.upd b0 0 ⟨w.heap.size, n⟩ b e = ι b e := fun b e hne => Emb.upd_ne _ _ fun hh => hne hh.1
  refine ⟨⟨?_, ?_, ?_, ?_, ?_⟩, ⟨Emb.le_trans f.le hle, ?_, ?_, ?_, f.next, ?_, ?_, ho.trans f.os, hp.trans f.output⟩⟩
  · intro b y hy
    rcases hget b y hy with ⟨e1, e2⟩ | ⟨e1, e2⟩
    · subst e1; subst e2; exact ⟨_, by rw [hx]; exact Emb.upd_self _ _ _ _, hb⟩
    · obtain ⟨p, hp, hbr⟩ := s.blk b y e2
      exact ⟨p, by rw [hupd b _ e1]; exact hp, hbr.mono hle (hold _ hbr.lt)⟩
  · intro b b' y y' p p' hy hy' hq hq' he
    have old : ∀ c z r, c ≠ b0 → h.t.get c = some z → ι.upd b0 0 ⟨w.heap.size, n⟩ c z.ep = some r → r.cb < w.heap.size := by
      intro c z r hc hz hr
      rw [hupd c _ hc] at hr
      obtain ⟨r', hr', hbr⟩ := s.blk c z hz
      rw [hr'] at hr; cases hr; exact hbr.lt
    have new' : ∀ z r, z = x → ι.upd b0 0 ⟨w.heap.size, n⟩ b0 z.ep = some r → r.cb = w.heap.size := by
      intro z r hz hr
      subst hz; rw [hx, Emb.upd_self] at hr; cases hr; rfl
    rcases hget b y hy with ⟨e1, e2⟩ | ⟨e1, e2⟩ <;> rcases hget b' y' hy' with ⟨f1, f2⟩ | ⟨f1, f2⟩
    · rw [e1, f1]
    · subst e1; have a := new' y p e2 hq; have b := old b' y' p' f1 f2 hq'; omega
    · subst f1; have a := new' y' p' f2 hq'; have b := old b y p e1 e2 hq; omega
    · rw [hupd b _ e1] at hq; rw [hupd b' _ f1] at hq'; exact s.inj b b' y y' p p' e2 f2 hq hq' he
  · intro b y e p hy hq
    rcases hget b y hy with ⟨e1, e2⟩ | ⟨e1, e2⟩
    · subst e1; subst e2
      by_cases e0 : e = 0
      · rw [e0]; exact Nat.zero_le _
      · rw [Emb.upd_ne _ _ (fun hh => e0 hh.2), hb3 e] at hq; cases hq
    · rw [hupd b e e1] at hq; exact s.eps b y e p e2 hq
  · intro b e p hq
    by_cases e' : b = b0
    · subst e'; exact hb2
    · rw [hupd b e e'] at hq; exact s.fresh _ _ _ hq
  · intro g hg
    obtain ⟨p, hp, e⟩ := s.glob g hg
    exact ⟨p, hle _ _ _ hp, e⟩
  · rw [hw]; have := f.size; simp; omega
  · intro cb hc hn
    rw [hold cb (Nat.lt_of_lt_of_le hc f.size)]; exact f.keep cb hc hn
  · intro cb hc ⟨b, y, p, hy, hq, he⟩
    have := f.size
    rcases hget b y hy with ⟨e1, e2⟩ | ⟨e1, e2⟩
    · subst e1; subst e2; rw [hx, Emb.upd_self] at hq; cases hq; simp at he; omega
    · rw [hupd b _ e1] at hq; exact f.img cb hc ⟨b, y, p, e2, hq, he⟩
  · intro b y hy
    rcases hget b y hy with ⟨e1, e2⟩ | ⟨e1, e2⟩
    · exact .inl (by rw [e1]; exact hb1)
    · exact f.live b y e2
  · intro b e p hq
    by_cases e' : b = b0
    · exact .inr (.inl (by rw [e']; exact hb1))
    · rw [hupd b e e'] at hq; exact f.dom b e p hq

/-! what the kinds of operations promise -/
theorem pure_any {ρ : Operand → AVal} {op : Op} {v : AVal} {h1 : AHeap} (hc : clsOf op = .pure) (ho : aop P ρ h op = .val v h1) : h1 = h ∧ ∀ h2, aop P ρ h2 op = .val v h2 := by
  have ofO : ∀ (o : Option AVal) (v : AVal) (h h1 : AHeap), Res.ofO o h = .val v h1 → h1 = h ∧ ∀ h2, Res.ofO o h2 = .val v h2 := by
    intro o v h h1 hh
    cases o with
    | none => cases hh
    | some x => cases hh; exact ⟨rfl, fun _ => rfl⟩
  cases op <;> simp only [clsOf] at hc <;> first | (cases hc; done) | skip
  case move x => cases ho; exact ⟨rfl, fun _ => rfl⟩
  case assign x => cases ho; exact ⟨rfl, fun _ => rfl⟩
  case pick c x y =>
    simp only [aop, opPick] at ho ⊢
    split at ho <;> cases ho <;> rename_i e <;> exact ⟨rfl, fun _ => by first | rfl | rw [e] | simp only [e]⟩
  case build t ps =>
    simp only [aop, opBuild] at ho ⊢
    split at ho
    · split at ho
      · cases ho; rename_i e; exact ⟨rfl, fun _ => by first | rfl | rw [e] | simp only [e]⟩
      · cases ho
    · cases ho
  case nilCheck x =>
    simp only [aop, opNilCheck] at ho ⊢
    split at ho <;> cases ho <;> rename_i e <;> exact ⟨rfl, fun _ => by first | rfl | rw [e] | simp only [e]⟩
  case unOp op t x =>
    simp only [aop, opUn] at ho ⊢
    split at ho <;> cases ho <;> rename_i e <;> exact ⟨rfl, fun _ => by first | rfl | rw [e] | simp only [e]⟩
  case makeInterface t x =>
    simp only [aop, opMakeIface] at ho ⊢
    cases hu : P.underlying t with
    | none => simp only [hu] at ho; cases ho
    | some d =>
      simp only [hu] at ho ⊢
      cases d <;> first | (cases ho; exact ⟨rfl, fun _ => rfl⟩) | (cases ho; done)
  case makeFunc fn first cap =>
    simp only [aop, opMakeFunc] at ho ⊢
    split at ho
    · cases ho
    · cases ho
      exact ⟨rfl, fun h2 => by first | rfl | (split <;> rfl)⟩
  case slice t x lo hi mx =>
    simp only [aop, opSlice] at ho ⊢
    split at ho
    · rename_i s e
      try rw [e]
      try simp only
      split at ho
      · rename_i e1 e2 e3 e4
        simp only [Bool.cond_eq_ite] at ho ⊢
        split at ho
        · cases ho
          rename_i hc
          refine ⟨rfl, fun h2 => ?_⟩
          first | rfl | (simp only [e1, e2, e3, e4]; rw [if_pos hc]) | rw [if_pos hc]
        · cases ho
      · cases ho
    · rename_i a len cap ex e
      try rw [e]
      try simp only
      split at ho
      · rename_i e1 e2 e3 e4
        simp only [Bool.cond_eq_ite] at ho ⊢
        split at ho
        · cases ho
          rename_i hc
          refine ⟨rfl, fun h2 => ?_⟩
          first | rfl | (simp only [e1, e2, e3, e4]; rw [if_pos hc]) | rw [if_pos hc]
        · cases ho
      · cases ho
    · cases ho
  case fieldAddr s x f =>
    simp only [aop, opFieldAddr] at ho ⊢
    split at ho
    · cases ho; rename_i e1 e2; exact ⟨rfl, fun _ => by first | rfl | rw [e1, e2] | simp only [e1, e2]⟩
    · cases ho
  case field s x f =>
    simp only [aop, opField] at ho ⊢
    split at ho
    · rename_i e1 e2
      obtain ⟨a, b⟩ := ofO _ _ _ _ ho
      exact ⟨a, fun h2 => by first | exact b h2 | (rw [e1, e2]; exact b h2)⟩
    · cases ho
  case indexAddr t x ix =>
    simp only [aop, opIndexAddr] at ho ⊢
    split at ho
    · rename_i e1
      try rw [e1]
      try simp only
      split at ho
      · rename_i e2
        try rw [e2]
        try simp only
        split at ho
        · rename_i e3
          try rw [e3]
          simp only [Bool.cond_eq_ite] at ho ⊢
          split at ho
          · cases ho; rename_i hc; exact ⟨rfl, fun h2 => by first | rfl | rw [if_pos hc]⟩
          · cases ho
        · cases ho
      · rename_i e2
        try rw [e2]
        try simp only
        split at ho
        · rename_i e3
          try rw [e3]
          simp only [Bool.cond_eq_ite] at ho ⊢
          split at ho
          · cases ho; rename_i hc; exact ⟨rfl, fun h2 => by first | rfl | rw [if_pos hc]⟩
          · cases ho
        · cases ho
      · cases ho
    · cases ho
  case index t x ix =>
    simp only [aop, opIndex] at ho ⊢
    split at ho
    · rename_i e1
      try rw [e1]
      try simp only
      split at ho
      · rename_i e2
        try rw [e2]
        try simp only
        split at ho
        · cases ho; rename_i e3 e4; exact ⟨rfl, fun h2 => by first | rfl | rw [e3, e4] | simp only [e3, e4]⟩
        · cases ho
      · rename_i e2
        try rw [e2]
        try simp only
        split at ho
        · rename_i e3
          try rw [e3]
          simp only [Bool.cond_eq_ite] at ho ⊢
          split at ho
          · rename_i hc
            obtain ⟨a, b⟩ := ofO _ _ _ _ ho
            exact ⟨a, fun h2 => by first | exact b h2 | (rw [if_pos hc]; exact b h2)⟩
          · cases ho
        · cases ho
      · cases ho
    · cases ho
  case extract x i =>
    simp only [aop, opExtract] at ho ⊢
    split at ho
    · rename_i e1
      exact ofO _ _ _ _ ho
    · cases ho
  case call c =>
    obtain ⟨callee, args, ts⟩ := c
    simp only [aop, opCall] at ho ⊢
    cases callee with
    | value f => simp at hc
    | invoke r n => simp at hc
    | builtin b =>
      simp only at ho hc ⊢
      cases b <;> simp only [clsB] at hc <;> first | (cases hc; done) | skip
      case cap =>
        have key : ∀ t x, biCap P h t x = .val v h1 → h1 = h ∧ ∀ h2, biCap P h2 t x = .val v h2 := by
          intro t x ho
          unfold biCap at ho ⊢
          split at ho
          · cases ho; exact ⟨rfl, fun h2 => by first | rfl | simp_all⟩
          · cases ho
        simp only [builtinA] at ho ⊢
        split at ho
        all_goals first | contradiction | (cases ho; done) | exact key _ _ ho
      case max =>
        simp only [builtinA] at ho ⊢
        exact ofO _ _ _ _ ho
      case min =>
        simp only [builtinA] at ho ⊢
        exact ofO _ _ _ _ ho

theorem read_same {ρ : Operand → AVal} {op : Op} {v : AVal} {h1 : AHeap} (hc : clsOf op = .read) (ho : aop P ρ h op = .val v h1) : h1 = h := by
  have ofO : ∀ (o : Option AVal) (v : AVal) (h h1 : AHeap), Res.ofO o h = .val v h1 → h1 = h := by
    intro o v h h1 hh
    cases o with
    | none => cases hh
    | some x => cases hh; rfl
  cases op <;> simp only [clsOf] at hc <;> first | (cases hc; done) | skip
  case load t a =>
    simp only [aop, opLoad] at ho
    split at ho
    · exact ofO _ _ _ _ ho
    · cases ho
  case binOp op t x y z => exact ofO _ _ _ _ ho
  case convert a b x =>
    simp only [aop, opConvert] at ho
    split at ho
    · cases ho; rfl
    · cases ho; rfl
    · simp only [toUns, Bool.cond_eq_ite] at ho
      split at ho
      · split at ho
        · cases ho; rfl
        · cases ho
      · cases ho
    · simp only [fromUns, Bool.cond_eq_ite] at ho
      split at ho
      · split at ho
        · cases ho; rfl
        · cases ho
      · cases ho
    · cases ho
  case lookup t x ix ok =>
    simp only [aop, opLookup, Bool.cond_eq_ite] at ho
    split at ho
    · cases ho
    · split at ho
      · split at ho
        · cases ho
        · split at ho
          · split at ho
            · cases ho; rfl
            · cases ho
          · split at ho
            · cases ho; rfl
            · cases ho
          · cases ho
      · cases ho
  case call c =>
    obtain ⟨callee, args, ts⟩ := c
    simp only [aop, opCall] at ho
    cases callee with
    | value f => simp at hc
    | invoke r n => simp at hc
    | builtin b =>
      simp only at ho hc
      cases b <;> simp only [clsB] at hc <;> first | (cases hc; done) | skip
      simp only [builtinA] at ho
      split at ho
      all_goals first | contradiction | (cases ho; done) | skip
      all_goals
        unfold biLen at ho
        split at ho
        all_goals first | (cases ho; rfl) | (cases ho; done) | skip
        all_goals
          split at ho
          · cases ho; rfl
          · cases ho
end Ab

namespace Ab
open Go
variable {P : Program} {ι : Emb} {h h' : AHeap} {w : World}

/-- an operation that lays one new block, wherever its name may be kept -/
def AllocS (P : Program) (ι : Emb) (w : World) (N : Nat) (v : AVal) (blk : ABlk) (s : Sem Value) : Prop :=
  ∃ (obj : Obj) (n : Nat) (u : Value), s.run P w = .ok u { w with heap := w.heap.push obj } ∧ blk.ep = 0 ∧ ∀ ι' : Emb, ι.le ι' → ι' N 0 = some ⟨w.heap.size, n⟩ →
    VR ι' v u ∧ ∀ w' : World, w'.heap[w.heap.size]? = some obj → BR P ι' N blk ⟨w.heap.size, n⟩ w'

theorem row_BR {N : Nat} {cs : List AVal} {us : Array Value} (hv : VRs ι cs us.toList) (e : TypeId) {ι' : Emb} (hl : ι.le ι') {w' : World} (hw : w'.heap[w.heap.size]? = some (.cells us e)) :
    BR P ι' N (.cells (T.setL cs 0 .leaf) cs.length e 0 0) ⟨w.heap.size, us.size⟩ w' :=
  ⟨us, (0, 0), hw, rfl, by have := hv.length; simp at this; simp [this], fun i v hi hg => by
    rw [get_setL] at hg
    rw [if_pos (by omega)] at hg
    obtain ⟨u, hu, hr⟩ := hv.get _ _ hg
    exact ⟨u, by simpa using hu, VR.mono hl _ _ hr⟩, rfl⟩

theorem alloc_alloc {N : Nat} {T0 : T ABlk} {t : TypeId} {v : AVal} (ho : opAlloc P ⟨N, T0⟩ t = .val v h') : ∃ blk, h' = AHeap.new ⟨N, T0⟩ blk ∧ AllocS P ι w N v blk (Instr.alloc t true (.tuple #[])) := by
  unfold opAlloc at ho
  split at ho
  · rename_i z hz
    cases hc : allOne z.cells with
    | false => simp [hc] at ho
    | true =>
      simp only [hc, cond_true, Res.val.injEq] at ho
      obtain ⟨e1, e2⟩ := ho
      subst e1; subst e2
      obtain ⟨u, hr, hov, _⟩ := run_zero (P := P) w hz
      have hcs := (ofValue_VR (ι := ι) hov).cells hc
      refine ⟨_, rfl, .cells u.cells t, u.cells.size, .pointer (some ⟨w.heap.size, 0, none⟩), ?_, rfl, fun ι' hl hp => ⟨?_, fun w' hw => row_BR hcs t hl hw⟩⟩
      · simp [Instr.alloc, newVar, Sem.run_bind, Result.andThen, hr, run_newRow w]
      · simp only [VR]; exact ⟨_, hp, rfl⟩
  · cases ho

theorem alloc_box {N : Nat} {T0 : T ABlk} {t : TypeId} {x v : AVal} {cx : Value} (hx : VR ι x cx) (ho : opBox P ⟨N, T0⟩ t x = .val v h') : ∃ blk, h' = AHeap.new ⟨N, T0⟩ blk ∧ AllocS P ι w N v blk (Instr.box t cx) := by
  unfold opBox at ho
  split at ho
  · cases hc : allOne x.cells with
    | false => simp [hc] at ho
    | true =>
      simp only [hc, cond_true, Res.val.injEq] at ho
      obtain ⟨e1, e2⟩ := ho
      subst e1; subst e2
      refine ⟨_, rfl, .cells cx.cells t, cx.cells.size, .pointer (some ⟨w.heap.size, 0, none⟩), ?_, rfl, fun ι' hl hp => ⟨?_, fun w' hw => row_BR (hx.cells hc) t hl hw⟩⟩
      · simp [Instr.box, newVar, Sem.run_bind, Result.andThen, run_newRow w]
      · simp only [VR]; exact ⟨_, hp, rfl⟩
  · cases ho

theorem alloc_makeMap {N : Nat} {T0 : T ABlk} {t : TypeId} {r : Option Operand} {ρ' : Operand → Value} {v : AVal} (ho : opMakeMap ⟨N, T0⟩ r = .val v h') : ∃ blk, h' = AHeap.new ⟨N, T0⟩ blk ∧ AllocS P ι w N v blk (Instr.makeMap t (r.map ρ')) := by
  unfold opMakeMap at ho
  split at ho
  · cases ho
    refine ⟨_, rfl, .map #[] 0, 0, .map (some w.heap.size), ?_, rfl, fun ι' hl hp => ⟨?_, fun w' hw => ⟨#[], 0, hw, EsR.nil, Births.nil⟩⟩⟩
    · simp [Instr.makeMap, newObj, Sem.run_bind, Sem.run, Result.andThen]
    · simp only [VR]; exact ⟨_, hp, rfl⟩
  · cases ho

theorem alloc_buildSlice {N : Nat} {T0 : T ABlk} {ρ : Operand → AVal} {ρ' : Operand → Value} (hρ : ∀ x, VR ι (ρ x) (ρ' x)) {t : TypeId} {len : Nat} {ps : Array (Nat × Operand)} {v : AVal}
    (ho : opBuildSlice P ρ ⟨N, T0⟩ t len ps.toList = .val v h') : ∃ blk, h' = AHeap.new ⟨N, T0⟩ blk ∧ AllocS P ι w N v blk (Instr.buildSlice t len (ps.map fun (i, x) => (i, ρ' x))) := by
  unfold opBuildSlice at ho
  split at ho
  · rename_i e n hs
    obtain ⟨hu, hsz⟩ := tySlice_inv hs
    split at ho
    · rename_i z hz
      cases hb : (Nat.ble (len * n) 16777216 && Nat.beq z.cells.length n) with
      | false => simp [hb] at ho
      | true =>
        simp only [hb, cond_true] at ho
        simp only [Bool.and_eq_true, ble_iff, beq_iff] at hb
        obtain ⟨b1, b2⟩ := hb
        split at ho
        · rename_i cs hf
          cases hc : allOne cs with
          | false => simp [hc] at ho
          | true =>
            simp only [hc, cond_true, Res.val.injEq] at ho
            obtain ⟨e1, e2⟩ := ho
            subst e1; subst e2
            obtain ⟨u, hr, hov, _⟩ := run_zero (P := P) w hz
            have hzr := ofValue_cells (ι := ι) hov
            have hlz := hzr.length
            have hcz : u.cells.size = n := by simp at hlz; omega
            have hin : VRs ι (repL len z.cells) ((Array.range (len * n)).map fun i => u.cells[i % u.cells.size]!).toList := by
              rw [← hcz, zeros_list]; exact repL_S hzr len
            obtain ⟨cr, h1, h2⟩ := fill_S hρ (fun i => some (i * n, n)) ps.toList _ _ cs hin hf
            have hps : (ps.map fun (i, x) => (i, ρ' x)).toList = ps.toList.map fun (i, x) => (i, ρ' x) := by simp
            refine ⟨_, rfl, .cells cr e, cr.size, .slice (some ⟨w.heap.size, 0, none⟩) len len, ?_, rfl, fun ι' hl hp => ⟨?_, fun w' hw => row_BR h2 e hl hw⟩⟩
            · unfold Instr.buildSlice
              simp only [Sem.run_bind, run_und w hu, Result.andThen, run_sizeOf w hsz]
              rw [if_neg (by omega)]
              by_cases h0 : len * n = 0
              · have : ((Array.range (len * n)).map fun i => u.cells[i % u.cells.size]!) = ((Array.range (len * n)).map fun i => (#[] : Array Value)[i % (#[] : Array Value).size]!) := by
                  rw [h0]; simp
                rw [this] at h1
                simp only [h0, if_true, Sem.run_pure, Sem.run_bind, Result.andThen]
                rw [h0] at h1
                rw [hps, h1]
                simp only [Sem.run_bind, run_newRow w, Result.andThen, Sem.run_pure]
              · simp only [h0, if_false, Sem.run_bind, hr, Result.andThen, Sem.run_pure]
                rw [hps, h1]
                simp only [Sem.run_bind, run_newRow w, Result.andThen, Sem.run_pure]
            · simp only [VR]
              exact ⟨_, 0, _, hp, rfl, Nat.le_refl _, .inl rfl, fun _ => rfl, fun hh => absurd rfl hh⟩
        · cases ho
    · cases ho
  · cases ho

theorem alloc_makeSlice {N : Nat} {T0 : T ABlk} {t : TypeId} {l c v : AVal} {cl cc : Value} (hl : VR ι l cl) (hc : VR ι c cc) (ho : opMakeSlice P ⟨N, T0⟩ t l c = .val v h') : ∃ blk, h' = AHeap.new ⟨N, T0⟩ blk ∧ AllocS P ι w N v blk (Instr.makeSlice t cl cc) := by
  unfold opMakeSlice at ho
  split at ho
  · rename_i e n kl l kc c hs
    obtain ⟨hu, hsz⟩ := tySlice_inv hs
    have := hl.int_inv; have := hc.int_inv; subst_vars
    cases hb : (Nat.ble l c && Nat.ble c 1048576) with
    | false => simp [hb] at ho
    | true =>
      simp only [hb, cond_true] at ho
      simp only [Bool.and_eq_true, ble_iff] at hb
      obtain ⟨b1, b2⟩ := hb
      split at ho
      · rename_i z i hz hi
        cases hall : (allOne z.cells && Nat.ble i.bytes 65536 && Nat.beq z.cells.length n) with
        | false => simp [hall] at ho
        | true =>
          simp only [hall, cond_true, Res.val.injEq] at ho
          obtain ⟨e1, e2⟩ := ho
          subst e1; subst e2
          simp only [Bool.and_eq_true, ble_iff, beq_iff] at hall
          obtain ⟨⟨a1, a2⟩, a3⟩ := hall
          obtain ⟨u, hr, hov, _⟩ := run_zero (P := P) w hz
          have hzr := ofValue_cells (ι := ι) hov
          have hlz := hzr.length
          have hcz : u.cells.size = n := by simp at hlz; omega
          have hin : VRs ι (repL c z.cells) ((Array.range (c * n)).map fun i => u.cells[i % u.cells.size]!).toList := by
            rw [← hcz, zeros_list]; exact repL_S hzr c
          refine ⟨_, rfl, .cells ((Array.range (c * n)).map fun i => u.cells[i % u.cells.size]!) e, ((Array.range (c * n)).map fun i => u.cells[i % u.cells.size]!).size, .slice (some ⟨w.heap.size, 0, none⟩) l c, ?_, rfl,
            fun ι' hl hp => ⟨?_, fun w' hw => row_BR hin e hl hw⟩⟩
          · have hmul : i.bytes * c ≤ 65536 * 1048576 := Nat.mul_le_mul a2 b2
            have hmul' : c * i.bytes ≤ 65536 * 1048576 := by rw [Nat.mul_comm]; exact hmul
            have hc1 : IntKind.i64.wrap (Int.ofNat c) = (c : Int) := wrap64_id (by omega)
            have hl1 : IntKind.i64.wrap (Int.ofNat l) = (l : Int) := wrap64_id (by omega)
            have t1 : ¬ ((c : Int) < 0 ∨ (i.bytes : Int) * (c : Int) > 2 ^ 48) := by
              have : ((i.bytes * c : Nat) : Int) = (i.bytes : Int) * (c : Int) := by simp
              omega
            have t2 : ¬ ((l : Int) < 0) := by omega
            have t3 : ¬ ((l : Int) > (c : Int)) := by omega
            simp only [Instr.makeSlice, Sem.run_bind, run_und w hu, Result.andThen, asInt, asIntOf, run_typeInfo w hi, Sem.run_pure, hc1, hl1]
            rw [if_neg (by simp only [Bool.or_eq_true, decide_eq_true_eq]; omega)]
            have hroom : ((askRoom (c * i.bytes)).run P w) = .ok () w := by simp
            simp only [Sem.run_bind, Result.andThen, Sem.run_pure, hroom, run_sizeOf w hsz, Int.toNat_natCast]
            by_cases h0 : c * n = 0
            · have : ((Array.range (c * n)).map fun i => u.cells[i % u.cells.size]!) = ((Array.range (c * n)).map fun i => (#[] : Array Value)[i % (#[] : Array Value).size]!) := by
                rw [h0]; simp
              rw [this]
              simp only [h0, if_true, Sem.run_pure, Sem.run_bind, Result.andThen, run_newRow w]
            · simp only [h0, if_false, Sem.run_bind, hr, Result.andThen, Sem.run_pure, run_newRow w]
          · simp only [VR]
            exact ⟨_, 0, _, hp, rfl, b1, .inl rfl, fun _ => rfl, fun hh => absurd rfl hh⟩
      · cases ho
  · cases ho

theorem alloc_S {N : Nat} {T0 : T ABlk} {ρ : Operand → AVal} {ρ' : Operand → Value} (hρ : ∀ x, VR ι (ρ x) (ρ' x)) (o : Oper) {v : AVal} (hc : clsOf o.op = .alloc) (ho : aop P ρ ⟨N, T0⟩ o.op = .val v h') :
    ∃ blk, h' = AHeap.new ⟨N, T0⟩ blk ∧ ∃ s : Sem Value, execOp ρ' o = (do pure (.value (← s))) ∧ AllocS P ι w N v blk s := by
  cases hop : o.op with
  | alloc t => rw [hop] at ho; obtain ⟨blk, e, ha⟩ := alloc_alloc (ι := ι) (w := w) ho; exact ⟨blk, e, _, by simp only [execOp, hop], ha⟩
  | box t x => rw [hop] at ho; obtain ⟨blk, e, ha⟩ := alloc_box (w := w) (hρ x) ho; exact ⟨blk, e, _, by simp only [execOp, hop], ha⟩
  | buildSlice t l ps => rw [hop] at ho; obtain ⟨blk, e, ha⟩ := alloc_buildSlice (w := w) hρ ho; exact ⟨blk, e, _, by simp only [execOp, hop], ha⟩
  | makeMap t r => rw [hop] at ho; obtain ⟨blk, e, ha⟩ := alloc_makeMap (ι := ι) (w := w) (t := t) (ρ' := ρ') ho; exact ⟨blk, e, _, by simp only [execOp, hop], ha⟩
  | makeSlice t l c => rw [hop] at ho; obtain ⟨blk, e, ha⟩ := alloc_makeSlice (w := w) (hρ l) (hρ c) ho; exact ⟨blk, e, _, by simp only [execOp, hop], ha⟩
  | call c =>
    rw [hop] at hc
    obtain ⟨callee, args, ts⟩ := c
    cases callee with
    | builtin b => cases b <;> simp [clsOf, clsB] at hc
    | value f => simp [clsOf] at hc
    | invoke r n => simp [clsOf] at hc
  | _ => rw [hop] at hc; simp [clsOf] at hc
end Ab

namespace Ab
open Go
variable {P : Program} {ι : Emb} {h h' : AHeap} {w : World}

/-! 'before' -/
def bmask (acc : Array Nat) (o : Oper) : Nat := o.after.foldl (fun s e => if Region.binds .any e then s ||| 2 ^ e.on ||| acc.getD e.on 0 else s) 0
theorem mask_fold (acc : Array Nat) (j : Nat) : ∀ (es : List Edge) (s0 : Nat), Nat.testBit (es.foldl (fun s e => if Region.binds .any e then s ||| 2 ^ e.on ||| acc.getD e.on 0 else s) s0) j = true ↔
    (Nat.testBit s0 j = true ∨ ∃ e ∈ es, Region.binds .any e = true ∧ (e.on = j ∨ Nat.testBit (acc.getD e.on 0) j = true))
  | [], s0 => by simp
  | e :: es, s0 => by
    rw [List.foldl_cons, mask_fold acc j es]
    by_cases hb : Region.binds .any e = true
    · rw [if_pos hb]
      simp only [Nat.testBit_or, Nat.testBit_two_pow, Bool.or_eq_true, decide_eq_true_eq, List.mem_cons, exists_eq_or_imp, hb, true_and]
      constructor
      · rintro (((h | h) | h) | h)
        · exact .inl h
        · exact .inr (.inl (.inl h))
        · exact .inr (.inl (.inr h))
        · exact .inr (.inr h)
      · rintro (h | ((h | h) | h))
        · exact .inl (.inl (.inl h))
        · exact .inl (.inl (.inr h))
        · exact .inl (.inr h)
        · exact .inr h
    · rw [if_neg hb]
      simp only [List.mem_cons, exists_eq_or_imp]
      constructor
      · rintro (h | h)
        · exact .inl h
        · exact .inr (.inr h)
      · rintro (h | ⟨hb', _⟩ | h)
        · exact .inl h
        · exact absurd hb' hb
        · exact .inr h
theorem bmask_iff (acc : Array Nat) (o : Oper) (j : Nat) : Nat.testBit (bmask acc o) j = true ↔ ∃ e ∈ o.after, Region.binds .any e = true ∧ (e.on = j ∨ Nat.testBit (acc.getD e.on 0) j = true) := by
  unfold bmask
  rw [← Array.foldl_toList, mask_fold]
  simp
theorem before_fold : ∀ (l : List Oper) (acc : Array Nat), (∀ k, k < acc.size → (l.foldl (fun acc o => acc.push (bmask acc o)) acc).getD k 0 = acc.getD k 0) ∧ (l.foldl (fun acc o => acc.push (bmask acc o)) acc).size = acc.size + l.length ∧
    ∀ k o, l[k]? = some o → ∃ acc' : Array Nat, (∀ m, m < acc.size + k → acc'.getD m 0 = (l.foldl (fun acc o => acc.push (bmask acc o)) acc).getD m 0) ∧ (∀ m, acc.size + k ≤ m → acc'.getD m 0 = 0) ∧
      (l.foldl (fun acc o => acc.push (bmask acc o)) acc).getD (acc.size + k) 0 = bmask acc' o
  | [], acc => ⟨fun _ _ => rfl, by simp, fun k o hk => by simp at hk⟩
  | o :: l, acc => by
    obtain ⟨h1, h2, h3⟩ := before_fold l (acc.push (bmask acc o))
    rw [List.foldl_cons]
    have hs : (acc.push (bmask acc o)).size = acc.size + 1 := by simp
    have hk0 : ∀ k, k < acc.size → (acc.push (bmask acc o)).getD k 0 = acc.getD k 0 := by
      intro k hk
      rw [Array.getD_eq_getD_getElem?, Array.getD_eq_getD_getElem?, Array.getElem?_push_lt hk, Array.getElem?_eq_getElem hk]
    refine ⟨fun k hk => (h1 k (by omega)).trans (hk0 k hk), by rw [h2, hs, List.length_cons]; omega, fun k o' hk => ?_⟩
    cases k with
    | zero =>
      simp at hk
      subst hk
      refine ⟨acc, fun m hm => ?_, fun m hm => ?_, ?_⟩
      · rw [h1 m (by omega), hk0 m (by omega)]
      · rw [Array.getD_eq_getD_getElem?, Array.getElem?_eq_none (by omega)]; rfl
      · rw [h1 _ (by omega)]
        rw [Array.getD_eq_getD_getElem?]
        simp
    | succ k =>
      obtain ⟨acc', g1, g2, g3⟩ := h3 k o' (by simpa using hk)
      refine ⟨acc', fun m hm => g1 m (by omega), fun m hm => g2 m (by omega), ?_⟩
      rw [← g3]
      congr 1
      omega
theorem before_eq (ops : Array Oper) : Region.before ops = ops.toList.foldl (fun acc o => acc.push (bmask acc o)) #[] := by
  unfold Region.before
  rw [← Array.foldl_toList]
  rfl
theorem before_iff {ops : Array Oper} {i : Nat} {o : Oper} (hi : ops[i]? = some o) (j : Nat) : Nat.testBit ((Region.before ops).getD i 0) j = true ↔
    ∃ e ∈ o.after, Region.binds .any e = true ∧ (e.on = j ∨ (e.on < i ∧ Nat.testBit ((Region.before ops).getD e.on 0) j = true)) := by
  obtain ⟨_, _, h3⟩ := before_fold ops.toList #[]
  obtain ⟨acc', g1, g2, g3⟩ := h3 i o (by simpa using hi)
  rw [← before_eq] at g1 g3
  simp only [List.size_toArray, List.length_nil, Nat.zero_add] at g1 g2 g3
  rw [g3, bmask_iff]
  constructor
  · rintro ⟨e, he, hb, h | h⟩
    · exact ⟨e, he, hb, .inl h⟩
    · by_cases hlt : e.on < i
      · exact ⟨e, he, hb, .inr ⟨hlt, by rw [← g1 _ hlt]; exact h⟩⟩
      · rw [g2 _ (by omega)] at h; simp at h
  · rintro ⟨e, he, hb, h | ⟨hlt, h⟩⟩
    · exact ⟨e, he, hb, .inl h⟩
    · exact ⟨e, he, hb, .inr (by rw [g1 _ hlt]; exact h)⟩

/-! pending blocks -/
theorem get_addP : ∀ (l : Pend) (t : T ABlk) (b : Nat), T.get (addP l t) b = match l.find? (fun p => p.2.1 == b) with | some p => some p.2.2 | none => T.get t b
  | [], t, b => rfl
  | (i, c, x) :: l, t, b => by
    rw [addP, get_set, List.find?_cons]
    by_cases e : c = b
    · rw [if_pos e]; simp [e]
    · rw [if_neg e, get_addP l t b]
      have : (c == b) = false := by simpa using e
      simp [this]
theorem mem_needP {m : Nat} {p : Nat × Nat × ABlk} : ∀ {l : Pend}, p ∈ needP m l ↔ p ∈ l ∧ Nat.testBit m p.1 = true
  | [] => by simp [needP]
  | x :: l => by
    unfold needP
    cases hb : Nat.testBit m x.1 with
    | true =>
      simp only [cond_true, List.mem_cons, mem_needP (l := l)]
      constructor
      · rintro (h | h)
        · subst h; exact ⟨.inl rfl, hb⟩
        · exact ⟨.inr h.1, h.2⟩
      · rintro ⟨h | h, h2⟩
        · exact .inl h
        · exact .inr ⟨h, h2⟩
    | false =>
      simp only [cond_false, List.mem_cons, mem_needP (l := l)]
      constructor
      · rintro ⟨h, h2⟩; exact ⟨.inr h, h2⟩
      · rintro ⟨h | h, h2⟩
        · subst h; rw [hb] at h2; cases h2
        · exact ⟨h, h2⟩
theorem mem_keepP {m : Nat} {p : Nat × Nat × ABlk} : ∀ {l : Pend}, p ∈ keepP m l ↔ p ∈ l ∧ Nat.testBit m p.1 = false
  | [] => by simp [keepP]
  | x :: l => by
    unfold keepP
    cases hb : Nat.testBit m x.1 with
    | false =>
      simp only [cond_false, List.mem_cons, mem_keepP (l := l)]
      constructor
      · rintro (h | h)
        · subst h; exact ⟨.inl rfl, hb⟩
        · exact ⟨.inr h.1, h.2⟩
      · rintro ⟨h | h, h2⟩
        · exact .inl h
        · exact .inr ⟨h, h2⟩
    | true =>
      simp only [cond_true, List.mem_cons, mem_keepP (l := l)]
      constructor
      · rintro ⟨h, h2⟩; exact ⟨.inr h, h2⟩
      · rintro ⟨h | h, h2⟩
        · subst h; rw [hb] at h2; cases h2
        · exact ⟨h, h2⟩

/-! readings again -/
theorem addr_eq {a b : AAddr} (h1 : Nat.beq a.block b.block = true) (h2 : Nat.beq a.epoch b.epoch = true) (h3 : Nat.beq a.off b.off = true) : a = b := by
  cases a; cases b
  simp only at h1 h2 h3
  rw [beq_iff] at h1 h2 h3
  subst h1; subst h2; subst h3; rfl
theorem eqI_iff {a b : Int} : eqI a b = true ↔ a = b := by
  rw [eqI_eq]; simp
theorem eqB_iff {x y : List UInt8} : eqB x y = true ↔ x = y := by rw [eqB_eq]; simp
theorem sameP_eq : ∀ {x y : List AVal}, sameA.sameP x y = true → x = y
  | [], [], _ => rfl
  | .ptr (some a) :: x, .ptr (some b) :: y, hs => by
    simp only [sameA.sameP, Bool.and_eq_true] at hs
    obtain ⟨⟨⟨h1, h2⟩, h3⟩, h4⟩ := hs
    rw [addr_eq h1 h2 h3, sameP_eq h4]
theorem sameA_eq {x y : AVal} (hs : sameA x y = true) : x = y := by
  unfold sameA at hs
  split at hs
  case h_1 => simp at hs; rw [hs]
  case h_2 => simp only [Bool.and_eq_true, eqI_iff, eqK, decide_eq_true_eq] at hs; rw [hs.1, hs.2]
  case h_3 => simp only [Bool.and_eq_true, beq_iff, decide_eq_true_eq] at hs; rw [hs.1, hs.2]
  case h_4 => rw [eqB_iff] at hs; rw [hs]
  case h_5 => rfl
  case h_6 => simp only [Bool.and_eq_true] at hs; rw [addr_eq hs.1.1 hs.1.2 hs.2]
  case h_7 => simp only [Bool.and_eq_true, beq_iff] at hs; rw [hs.1.1, hs.1.2, hs.2]
  case h_8 =>
    simp only [Bool.and_eq_true] at hs
    obtain ⟨⟨⟨⟨⟨h1, h2⟩, h3⟩, h4⟩, h5⟩, h6⟩ := hs
    rw [beq_iff] at h4 h5 h6
    rw [addr_eq h1 h2 h3, h4, h5, h6]
  case h_9 => rfl
  case h_10 => rw [beq_iff] at hs; rw [hs]
  case h_11 => rfl
  case h_12 => rfl
  case h_13 => simp only [Bool.and_eq_true, beq_iff] at hs; rw [hs.1, sameP_eq hs.2]
  case h_14 => cases hs
theorem sameL_eq : ∀ {x y : List AVal}, sameL x y = true → x = y
  | [], [], _ => rfl
  | a :: x, b :: y, hs => by
    simp only [sameL, Bool.and_eq_true] at hs
    rw [sameA_eq hs.1, sameL_eq hs.2]
theorem sameV_eq {x y : AVal} (hs : sameV x y = true) : x = y := by
  unfold sameV at hs
  split at hs
  · rw [sameL_eq hs]
  · rw [sameL_eq hs]
  · exact sameA_eq hs
theorem rdAt_iff {pd : Pend} {r : Rd} (hr : rdAt P pd h r = true) : ∃ h1, aop P (evalO P r.env) { next := h.next, t := addP (needP r.m pd) h.t } r.op = .val r.v h1 := by
  unfold rdAt at hr
  split at hr
  · rename_i v h1 ho
    exact ⟨h1, by rw [ho, sameV_eq hr]⟩
  · cases hr
theorem rdsAt_mem {m : Nat} {pd : Pend} : ∀ {l : List Rd}, rdsAt P m pd h l = true → ∀ r ∈ l, Nat.testBit m r.idx = false → rdAt P pd h r = true
  | [], _, r, hr, _ => by cases hr
  | x :: l, hs, r, hr, hb => by
    simp only [rdsAt, Bool.and_eq_true, Bool.or_eq_true] at hs
    rcases List.mem_cons.1 hr with e | hr
    · subst e; exact hs.1.resolve_left (by rw [hb]; simp)
    · exact rdsAt_mem hs.2 r hr hb
theorem prevAt_mem {pd : Pend} {r : Rd} : ∀ {l : List (Nat × AHeap)}, prevAt P pd r l = true → ∀ p ∈ l, Nat.testBit r.m p.1 = false → rdAt P pd p.2 r = true
  | [], _, p, hp, _ => by cases hp
  | x :: l, hs, p, hp, hb => by
    simp only [prevAt, Bool.and_eq_true, Bool.or_eq_true] at hs
    rcases List.mem_cons.1 hp with e | hp
    · subst e; exact hs.1.resolve_left (by rw [hb]; simp)
    · exact prevAt_mem hs.2 p hp hb
end Ab
