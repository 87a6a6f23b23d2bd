/- Proves that what one run of the abstract machine was seen to do may be used in another, under other names of blocks, and that a run to true proves a closed law, for any program that follows mixed orders and has no goroutine counter. -/
import Derived.Test.YtjhmgeegnilbpaaGreatDoorAb5
import Derived.Lib.Bytealg
import Derived.ProofKit
import Derived.OpenShut
set_option linter.all false
noncomputable section
namespace Ab
open Go

/-- other names for blocks: below n0 by a table, from n0 on n1, n1+1, .. -/
structure Ren where
  r : T Nat
  n0 : Nat
  n1 : Nat
def Ren.m (R : Ren) (b : Nat) : Nat :=
  bif Nat.ble R.n0 b then Nat.add R.n1 (Nat.sub b R.n0) else match R.r.get b with
    | some c => c
    | none => 0
def mtP (R : Ren) (a b : AAddr) : Bool := Nat.beq (R.m a.block) b.block && Nat.beq a.epoch b.epoch && Nat.beq a.off b.off
def mtB (R : Ren) : AVal → AVal → Bool
  | .bool a, .bool b => a == b
  | .int k a, .int k' b => eqK k k' && eqI a b
  | .float k a, .float k' b => decide (k = k') && Nat.beq a b
  | .str a, .str b => eqB a b
  | .ptr none, .ptr none => true
  | .ptr (some a), .ptr (some b) => mtP R a b
  | .slice none l c e, .slice none l' c' e' => Nat.beq l l' && Nat.beq c c' && Nat.beq e e'
  | .slice (some a) l c e, .slice (some b) l' c' e' => mtP R a b && Nat.beq l l' && Nat.beq c c' && Nat.beq e e'
  | .map none, .map none => true
  | .map (some a), .map (some b) => Nat.beq (R.m a) b
  | .nilFunc, .nilFunc => true
  | .nilIface, .nilIface => true
  | _, _ => false
def mtBs (R : Ren) : List AVal → List AVal → Bool
  | [], [] => true
  | a :: x, b :: y => mtB R a b && mtBs R x y
  | _, _ => false
def mtJ (R : Ren) : AVal → AVal → Bool
  | .agg x, .agg y => mtBs R x y
  | x, y => mtB R x y
def mtF (R : Ren) : AVal → AVal → Bool
  | .func (.func f) a c, .func (.func g) b d => Nat.beq f g && mtBs R a b && mtBs R c d
  | .iface t x, .iface t' y => Nat.beq t t' && mtJ R x y
  | x, y => mtB R x y
def mtFs (R : Ren) : List AVal → List AVal → Bool
  | [], [] => true
  | a :: x, b :: y => mtF R a b && mtFs R x y
  | _, _ => false
def mtA (R : Ren) : AVal → AVal → Bool
  | .agg x, .agg y => mtFs R x y
  | x, y => mtF R x y
def mtAs (R : Ren) : List AVal → List AVal → Bool
  | [], [] => true
  | a :: x, b :: y => mtA R a b && mtAs R x y
  | _, _ => false
def mtV (R : Ren) : AVal → AVal → Bool
  | .tuple x, .tuple y => mtAs R x y
  | x, y => mtA R x y
def mtVs (R : Ren) : List AVal → List AVal → Bool
  | [], [] => true
  | a :: x, b :: y => mtV R a b && mtVs R x y
  | _, _ => false
def mtO (R : Ren) : Option AVal → Option AVal → Bool
  | none, none => true
  | some a, some b => mtV R a b
  | _, _ => false
def mtT (R : Ren) : T AVal → T AVal → Bool
  | .leaf, .leaf => true
  | .node l v r, .node l' v' r' => mtO R v v' && mtT R l l' && mtT R r r'
  | _, _ => false
def mtEs (R : Ren) : List (AVal × AVal) → List (AVal × AVal) → Bool
  | [], [] => true
  | a :: x, b :: y => mtV R a.1 b.1 && mtV R a.2 b.2 && mtEs R x y
  | _, _ => false
def mtK (R : Ren) : ABlk → ABlk → Bool
  | .cells c sz e ep fz, .cells c' sz' e' ep' fz' => Nat.beq sz sz' && Nat.beq e e' && Nat.beq ep ep' && Nat.beq fz fz' && mtT R c c'
  | .map es, .map es' => mtEs R es es'
  | .striter s p, .striter s' p' => eqB s s' && Nat.beq p p'
  | _, _ => false

def rnP (R : Ren) (a : AAddr) : AAddr := ⟨R.m a.block, a.epoch, a.off⟩
def rnB (R : Ren) : AVal → AVal
  | .ptr (some a) => .ptr (some (rnP R a))
  | .slice (some a) l c e => .slice (some (rnP R a)) l c e
  | .map (some a) => .map (some (R.m a))
  | .func _ _ _ => .top
  | .iface _ _ => .top
  | .agg _ => .top
  | .tuple _ => .top
  | x => x
def rnBs (R : Ren) : List AVal → List AVal
  | [] => []
  | x :: l => rnB R x :: rnBs R l
def rnJ (R : Ren) : AVal → AVal
  | .agg x => .agg (rnBs R x)
  | x => rnB R x
def rnF (R : Ren) : AVal → AVal
  | .func (.func f) a c => .func (.func f) (rnBs R a) (rnBs R c)
  | .iface t x => .iface t (rnJ R x)
  | x => rnB R x
def rnFs (R : Ren) : List AVal → List AVal
  | [] => []
  | x :: l => rnF R x :: rnFs R l
def rnA (R : Ren) : AVal → AVal
  | .agg x => .agg (rnFs R x)
  | x => rnF R x
def rnAs (R : Ren) : List AVal → List AVal
  | [] => []
  | x :: l => rnA R x :: rnAs R l
def rnV (R : Ren) : AVal → AVal
  | .tuple x => .tuple (rnAs R x)
  | x => rnA R x
def rnT (R : Ren) : T AVal → T AVal
  | .leaf => .leaf
  | .node l v r => .node (rnT R l) (match v with | some v => some (rnV R v) | none => none) (rnT R r)
def rnEs (R : Ren) : List (AVal × AVal) → List (AVal × AVal)
  | [] => []
  | e :: l => (rnV R e.1, rnV R e.2) :: rnEs R l
def rnK (R : Ren) : ABlk → ABlk
  | .cells c sz e ep fz => .cells (rnT R c) sz e ep fz
  | .map es => .map (rnEs R es)
  | x => x
def plainK : ABlk → Bool
  | .cells .. => true
  | .map _ => true
  | .striter _ _ => true
  | _ => false

/- learning the table -/
def lnI (b c : Nat) (r : T Nat) : T Nat := match r.get b with
  | some _ => r
  | none => r.set b c
def lnB : AVal → AVal → T Nat → T Nat
  | .ptr (some a), .ptr (some b), r => lnI a.block b.block r
  | .slice (some a) _ _ _, .slice (some b) _ _ _, r => lnI a.block b.block r
  | .map (some a), .map (some b), r => lnI a b r
  | _, _, r => r
def lnBs : List AVal → List AVal → T Nat → T Nat
  | a :: x, b :: y, r => lnBs x y (lnB a b r)
  | _, _, r => r
def lnJ : AVal → AVal → T Nat → T Nat
  | .agg x, .agg y, r => lnBs x y r
  | x, y, r => lnB x y r
def lnF : AVal → AVal → T Nat → T Nat
  | .func _ a c, .func _ b d, r => lnBs c d (lnBs a b r)
  | .iface _ x, .iface _ y, r => lnJ x y r
  | x, y, r => lnB x y r
def lnFs : List AVal → List AVal → T Nat → T Nat
  | a :: x, b :: y, r => lnFs x y (lnF a b r)
  | _, _, r => r
def lnA : AVal → AVal → T Nat → T Nat
  | .agg x, .agg y, r => lnFs x y r
  | x, y, r => lnF x y r
def lnAs : List AVal → List AVal → T Nat → T Nat
  | a :: x, b :: y, r => lnAs x y (lnA a b r)
  | _, _, r => r
def lnV : AVal → AVal → T Nat → T Nat
  | .tuple x, .tuple y, r => lnAs x y r
  | x, y, r => lnA x y r
def lnVs : List AVal → List AVal → T Nat → T Nat
  | a :: x, b :: y, r => lnVs x y (lnV a b r)
  | _, _, r => r
def lnO : Option AVal → Option AVal → T Nat → T Nat
  | some a, some b, r => lnV a b r
  | _, _, r => r
def lnT : T AVal → T AVal → T Nat → T Nat
  | .node l v q, .node l' v' q', r => lnT q q' (lnT l l' (lnO v v' r))
  | _, _, r => r
def lnEs : List (AVal × AVal) → List (AVal × AVal) → T Nat → T Nat
  | a :: x, b :: y, r => lnEs x y (lnV a.2 b.2 (lnV a.1 b.1 r))
  | _, _, r => r
def lnK : ABlk → ABlk → T Nat → T Nat
  | .cells c .., .cells c' .., r => lnT c c' r
  | .map es, .map es', r => lnEs es es' r
  | _, _, r => r
def lnPre (t : T ABlk) : List (Nat × ABlk) → T Nat → T Nat
  | [], r => r
  | (b, x) :: l, r => lnPre t l (match r.get b with
    | some c => match t.get c with
      | some y => lnK x y r
      | none => r
    | none => r)
def lnG : Nat → T Nat → T Nat
  | 0, r => r
  | g + 1, r => lnG g (r.set g g)

/- what a call was seen to do -/
structure Entry where
  f : FuncId
  args : List AVal
  n0 : Nat
  pre : List (Nat × ABlk)
  v : AVal
  nx : Nat
  upd : List (Nat × Option ABlk)
def mtPre (R : Ren) (t : T ABlk) : List (Nat × ABlk) → Bool
  | [] => true
  | (b, x) :: l => (match t.get (R.m b) with
    | some y => mtK R x y
    | none => false) && mtPre R t l
def injP (R : Ren) : List (Nat × ABlk) → T Nat → Bool
  | [], _ => true
  | (b, _) :: l, u => match u.get (R.m b) with
    | some _ => false
    | none => injP R l (u.set (R.m b) 0)
def globP (R : Ren) : Nat → Bool
  | 0 => true
  | g + 1 => Nat.beq (R.m g) g && globP R g
def applyU (R : Ren) : List (Nat × Option ABlk) → T ABlk → T ABlk
  | [], t => t
  | (b, some x) :: l, t => applyU R l (t.set (R.m b) (rnK R x))
  | (b, none) :: l, t => applyU R l (t.del (R.m b))
def applyE : List (Nat × Option ABlk) → T ABlk → T ABlk
  | [], t => t
  | (b, some x) :: l, t => applyE l (t.set b x)
  | (b, none) :: l, t => applyE l (t.del b)
def setP : List (Nat × ABlk) → T ABlk → T ABlk
  | [], t => t
  | (b, x) :: l, t => setP l (t.set b x)
def Entry.h0 (E : Entry) : AHeap := { next := E.n0, t := setP E.pre .leaf }
def Entry.h1 (E : Entry) : AHeap := { next := E.nx, t := applyE E.upd (setP E.pre .leaf) }
def Entry.ren (E : Entry) (ng : Nat) (args : List AVal) (h : AHeap) : Ren := ⟨lnPre h.t E.pre (lnVs E.args args (lnG ng .leaf)), E.n0, h.next⟩
def Entry.fits (E : Entry) (ng : Nat) (R : Ren) (args : List AVal) (h : AHeap) : Bool :=
  mtVs R E.args args && mtPre R h.t E.pre && injP R E.pre .leaf && globP R ng
def Entry.gives (E : Entry) (R : Ren) (h : AHeap) : AVal × AHeap :=
  (rnV R E.v, { next := Nat.add h.next (Nat.sub E.nx E.n0), t := applyU R E.upd h.t })
def Entry.use (E : Entry) (ng : Nat) (args : List AVal) (h : AHeap) : Option (AVal × AHeap) :=
  bif E.fits ng (E.ren ng args h) args h then some (E.gives (E.ren ng args h) h) else none
def orcL (ng : Nat) : List Entry → FuncId → List AVal → AHeap → Option (AVal × AHeap)
  | [], _, _, _ => none
  | E :: l, f, args, h => bif Nat.beq E.f f then
      match E.use ng args h with
      | some r => some r
      | none => orcL ng l f args h
    else orcL ng l f args h

/- is an entry's text in order; does a run give it -/
def updOk (n0 : Nat) (t : T ABlk) : List (Nat × Option ABlk) → Bool
  | [] => true
  | (b, o) :: l => (Nat.ble n0 b || (t.get b).isSome) && (match o with
    | some x => plainK x
    | none => true) && updOk n0 t l
def preOk (n0 : Nat) : List (Nat × ABlk) → Bool
  | [] => true
  | (b, x) :: l => Nat.blt b n0 && plainK x && preOk n0 l
def idRen : Ren := ⟨.leaf, 0, 0⟩
def ranP (t1 t : T ABlk) : List Nat → Bool
  | [] => true
  | b :: l => (match t1.get b with
    | none => true
    | some x => match t.get b with
      | some y => mtK idRen x y
      | none => false) && ranP t1 t l
def idsP : List (Nat × ABlk) → List Nat
  | [] => []
  | (b, _) :: l => b :: idsP l
def idsU : List (Nat × Option ABlk) → List Nat
  | [] => []
  | (b, _) :: l => b :: idsU l
def Entry.ok (E : Entry) : Bool := Nat.ble E.n0 E.nx && preOk E.n0 E.pre && updOk E.n0 E.h0.t E.upd
def Entry.ran (E : Entry) (o : Out) : Bool :=
  match o with
  | .done v h => Nat.beq h.next E.nx && mtV idRen E.v v && ranP E.h1.t h.t (idsP E.pre ++ idsU E.upd)
  | _ => false
end Ab
end

namespace Ab
open Go
variable {P : Program} {R : Ren} {a b : Emb}

/-- what a stands for, b stands for, under the other names -/
def Fwd (R : Ren) (a b : Emb) : Prop := ∀ i e p, a i e = some p → b (R.m i) e = some p
def Bwd (R : Ren) (a b : Emb) : Prop := ∀ i e p, b (R.m i) e = some p → a i e = some p

theorem mtP_iff {x y : AAddr} (h : mtP R x y = true) : R.m x.block = y.block ∧ x.epoch = y.epoch ∧ x.off = y.off := by
  simp only [mtP, Bool.and_eq_true, beq_iff] at h
  exact ⟨h.1.1, h.1.2, h.2⟩

theorem mtB_fw (hf : Fwd R a b) {x y : AVal} {v : Value} (h : mtB R x y = true) (hx : VR a x v) : VR b y v := by
  unfold mtB at h
  split at h
  case h_1 => simp at h; subst h; exact hx
  case h_2 => simp only [Bool.and_eq_true, eqI_iff, eqK, decide_eq_true_eq] at h; obtain ⟨rfl, rfl⟩ := h; exact hx
  case h_3 => simp only [Bool.and_eq_true, beq_iff, decide_eq_true_eq] at h; obtain ⟨rfl, rfl⟩ := h; exact hx
  case h_4 => rw [eqB_iff] at h; subst h; simpa only [VR] using hx
  case h_5 => exact hx
  case h_6 =>
    obtain ⟨h1, h2, h3⟩ := mtP_iff h
    simp only [VR] at hx ⊢
    obtain ⟨p, hp, e⟩ := hx
    exact ⟨p, by rw [← h1, ← h2]; exact hf _ _ _ hp, by rw [← h3]; exact e⟩
  case h_7 =>
    simp only [Bool.and_eq_true, beq_iff] at h
    obtain ⟨⟨rfl, rfl⟩, rfl⟩ := h
    exact hx
  case h_8 =>
    simp only [Bool.and_eq_true, beq_iff] at h
    obtain ⟨⟨⟨h0, rfl⟩, rfl⟩, rfl⟩ := h
    obtain ⟨h1, h2, h3⟩ := mtP_iff h0
    simp only [VR] at hx ⊢
    obtain ⟨p, off, c', hp, e, h4, h5, h6⟩ := hx
    exact ⟨p, off, c', by rw [← h1, ← h2]; exact hf _ _ _ hp, e, h4, by rw [← h3]; exact h5, h6⟩
  case h_9 => exact hx
  case h_10 =>
    rw [beq_iff] at h
    simp only [VR] at hx ⊢
    obtain ⟨p, hp, e⟩ := hx
    exact ⟨p, by rw [← h]; exact hf _ _ _ hp, e⟩
  case h_11 => exact hx
  case h_12 => exact hx
  case h_13 => cases h
theorem mtB_bw (hf : Bwd R a b) {x y : AVal} {v : Value} (h : mtB R x y = true) (hx : VR b y v) : VR a x v := by
  unfold mtB at h
  split at h
  case h_1 => simp at h; subst h; exact hx
  case h_2 => simp only [Bool.and_eq_true, eqI_iff, eqK, decide_eq_true_eq] at h; obtain ⟨rfl, rfl⟩ := h; exact hx
  case h_3 => simp only [Bool.and_eq_true, beq_iff, decide_eq_true_eq] at h; obtain ⟨rfl, rfl⟩ := h; exact hx
  case h_4 => rw [eqB_iff] at h; subst h; simpa only [VR] using hx
  case h_5 => exact hx
  case h_6 =>
    obtain ⟨h1, h2, h3⟩ := mtP_iff h
    simp only [VR] at hx ⊢
    obtain ⟨p, hp, e⟩ := hx
    exact ⟨p, hf _ _ _ (by rw [h1, h2]; exact hp), by rw [h3]; exact e⟩
  case h_7 =>
    simp only [Bool.and_eq_true, beq_iff] at h
    obtain ⟨⟨rfl, rfl⟩, rfl⟩ := h
    exact hx
  case h_8 =>
    simp only [Bool.and_eq_true, beq_iff] at h
    obtain ⟨⟨⟨h0, rfl⟩, rfl⟩, rfl⟩ := h
    obtain ⟨h1, h2, h3⟩ := mtP_iff h0
    simp only [VR] at hx ⊢
    obtain ⟨p, off, c', hp, e, h4, h5, h6⟩ := hx
    exact ⟨p, off, c', hf _ _ _ (by rw [h1, h2]; exact hp), e, h4, by rw [h3]; exact h5, h6⟩
  case h_9 => exact hx
  case h_10 =>
    rw [beq_iff] at h
    simp only [VR] at hx ⊢
    obtain ⟨p, hp, e⟩ := hx
    exact ⟨p, hf _ _ _ (by rw [h]; exact hp), e⟩
  case h_11 => exact hx
  case h_12 => exact hx
  case h_13 => cases h

/-- both ways at once: a kind of matching that carries -/
def Carries (a b : Emb) (m : AVal → AVal → Bool) : Prop := ∀ x y v, m x y = true → VR a x v → VR b y v
theorem carryL {m : AVal → AVal → Bool} {ms : List AVal → List AVal → Bool} (hnil : ∀ y, ms [] y = true → y = []) (hcons : ∀ x l y, ms (x :: l) y = true → ∃ z k, y = z :: k ∧ m x z = true ∧ ms l k = true)
    (hc : Carries a b m) : ∀ (x y : List AVal) (vs : List Value), ms x y = true → VRs a x vs → VRs b y vs
  | [], y, vs, h, hx => by
    have := hnil y h; subst this
    simpa only [VRs] using hx
  | x :: l, y, vs, h, hx => by
    obtain ⟨z, k, rfl, h1, h2⟩ := hcons x l y h
    obtain ⟨v, vs', rfl, h3, h4⟩ := VRs.cons_inv hx
    exact VRs.cons (hc x z v h1 h3) (carryL hnil hcons hc l k vs' h2 h4)
theorem carryLb {m : AVal → AVal → Bool} {ms : List AVal → List AVal → Bool} (hnil : ∀ y, ms [] y = true → y = []) (hcons : ∀ x l y, ms (x :: l) y = true → ∃ z k, y = z :: k ∧ m x z = true ∧ ms l k = true)
    (hc : ∀ x y v, m x y = true → VR b y v → VR a x v) : ∀ (x y : List AVal) (vs : List Value), ms x y = true → VRs b y vs → VRs a x vs
  | [], y, vs, h, hx => by
    have := hnil y h; subst this
    simpa only [VRs] using hx
  | x :: l, y, vs, h, hx => by
    obtain ⟨z, k, rfl, h1, h2⟩ := hcons x l y h
    obtain ⟨v, vs', rfl, h3, h4⟩ := VRs.cons_inv hx
    exact VRs.cons (hc x z v h1 h3) (carryLb hnil hcons hc l k vs' h2 h4)
theorem mtBs_nil (y : List AVal) (h : mtBs R [] y = true) : y = [] := by cases y <;> first | rfl | cases h
theorem mtBs_cons (x : AVal) (l y : List AVal) (h : mtBs R (x :: l) y = true) : ∃ z k, y = z :: k ∧ mtB R x z = true ∧ mtBs R l k = true := by
  cases y with
  | nil => cases h
  | cons z k => simp only [mtBs, Bool.and_eq_true] at h; exact ⟨z, k, rfl, h⟩
theorem mtFs_nil (y : List AVal) (h : mtFs R [] y = true) : y = [] := by cases y <;> first | rfl | cases h
theorem mtFs_cons (x : AVal) (l y : List AVal) (h : mtFs R (x :: l) y = true) : ∃ z k, y = z :: k ∧ mtF R x z = true ∧ mtFs R l k = true := by
  cases y with
  | nil => cases h
  | cons z k => simp only [mtFs, Bool.and_eq_true] at h; exact ⟨z, k, rfl, h⟩
theorem mtAs_nil (y : List AVal) (h : mtAs R [] y = true) : y = [] := by cases y <;> first | rfl | cases h
theorem mtAs_cons (x : AVal) (l y : List AVal) (h : mtAs R (x :: l) y = true) : ∃ z k, y = z :: k ∧ mtA R x z = true ∧ mtAs R l k = true := by
  cases y with
  | nil => cases h
  | cons z k => simp only [mtAs, Bool.and_eq_true] at h; exact ⟨z, k, rfl, h⟩
theorem mtVs_nil (y : List AVal) (h : mtVs R [] y = true) : y = [] := by cases y <;> first | rfl | cases h
theorem mtVs_cons (x : AVal) (l y : List AVal) (h : mtVs R (x :: l) y = true) : ∃ z k, y = z :: k ∧ mtV R x z = true ∧ mtVs R l k = true := by
  cases y with
  | nil => cases h
  | cons z k => simp only [mtVs, Bool.and_eq_true] at h; exact ⟨z, k, rfl, h⟩

theorem mtBs_fw (hf : Fwd R a b) {x y : List AVal} {v : List Value} (h : mtBs R x y = true) (hx : VRs a x v) : VRs b y v :=
  carryL mtBs_nil mtBs_cons (fun _ _ _ => mtB_fw hf) x y v h hx
theorem mtBs_bw (hf : Bwd R a b) {x y : List AVal} {v : List Value} (h : mtBs R x y = true) (hx : VRs b y v) : VRs a x v :=
  carryLb mtBs_nil mtBs_cons (fun _ _ _ => mtB_bw hf) x y v h hx
theorem mtJ_fw (hf : Fwd R a b) {x y : AVal} {v : Value} (h : mtJ R x y = true) (hx : VR a x v) : VR b y v := by
  unfold mtJ at h
  split at h
  · simp only [VR] at hx ⊢; obtain ⟨cs, e, hc⟩ := hx; exact ⟨cs, e, mtBs_fw hf h hc⟩
  · exact mtB_fw hf h hx
theorem mtJ_bw (hf : Bwd R a b) {x y : AVal} {v : Value} (h : mtJ R x y = true) (hx : VR b y v) : VR a x v := by
  unfold mtJ at h
  split at h
  · simp only [VR] at hx ⊢; obtain ⟨cs, e, hc⟩ := hx; exact ⟨cs, e, mtBs_bw hf h hc⟩
  · exact mtB_bw hf h hx
theorem mtF_fw (hf : Fwd R a b) {x y : AVal} {v : Value} (h : mtF R x y = true) (hx : VR a x v) : VR b y v := by
  unfold mtF at h
  split at h
  · simp only [Bool.and_eq_true, beq_iff] at h
    obtain ⟨⟨rfl, h1⟩, h2⟩ := h
    simp only [VR] at hx ⊢
    obtain ⟨fn', f', c', e, h3, h4, h5⟩ := hx
    exact ⟨fn', f', c', e, h3, mtBs_fw hf h1 h4, mtBs_fw hf h2 h5⟩
  · simp only [Bool.and_eq_true, beq_iff] at h
    obtain ⟨rfl, h1⟩ := h
    simp only [VR] at hx ⊢
    obtain ⟨y, e, h3⟩ := hx
    exact ⟨y, e, mtJ_fw hf h1 h3⟩
  · exact mtB_fw hf h hx
theorem mtF_bw (hf : Bwd R a b) {x y : AVal} {v : Value} (h : mtF R x y = true) (hx : VR b y v) : VR a x v := by
  unfold mtF at h
  split at h
  · simp only [Bool.and_eq_true, beq_iff] at h
    obtain ⟨⟨rfl, h1⟩, h2⟩ := h
    simp only [VR] at hx ⊢
    obtain ⟨fn', f', c', e, h3, h4, h5⟩ := hx
    exact ⟨fn', f', c', e, h3, mtBs_bw hf h1 h4, mtBs_bw hf h2 h5⟩
  · simp only [Bool.and_eq_true, beq_iff] at h
    obtain ⟨rfl, h1⟩ := h
    simp only [VR] at hx ⊢
    obtain ⟨y, e, h3⟩ := hx
    exact ⟨y, e, mtJ_bw hf h1 h3⟩
  · exact mtB_bw hf h hx
theorem mtFs_fw (hf : Fwd R a b) {x y : List AVal} {v : List Value} (h : mtFs R x y = true) (hx : VRs a x v) : VRs b y v :=
  carryL mtFs_nil mtFs_cons (fun _ _ _ => mtF_fw hf) x y v h hx
theorem mtFs_bw (hf : Bwd R a b) {x y : List AVal} {v : List Value} (h : mtFs R x y = true) (hx : VRs b y v) : VRs a x v :=
  carryLb mtFs_nil mtFs_cons (fun _ _ _ => mtF_bw hf) x y v h hx
theorem mtA_fw (hf : Fwd R a b) {x y : AVal} {v : Value} (h : mtA R x y = true) (hx : VR a x v) : VR b y v := by
  unfold mtA at h
  split at h
  · simp only [VR] at hx ⊢; obtain ⟨cs, e, hc⟩ := hx; exact ⟨cs, e, mtFs_fw hf h hc⟩
  · exact mtF_fw hf h hx
theorem mtAs_fw (hf : Fwd R a b) {x y : List AVal} {v : List Value} (h : mtAs R x y = true) (hx : VRs a x v) : VRs b y v :=
  carryL mtAs_nil mtAs_cons (fun _ _ _ => mtA_fw hf) x y v h hx
theorem mtV_fw (hf : Fwd R a b) {x y : AVal} {v : Value} (h : mtV R x y = true) (hx : VR a x v) : VR b y v := by
  unfold mtV at h
  split at h
  · simp only [VR] at hx ⊢; obtain ⟨cs, e, hc⟩ := hx; exact ⟨cs, e, mtAs_fw hf h hc⟩
  · exact mtA_fw hf h hx
theorem mtA_bw (hf : Bwd R a b) {x y : AVal} {v : Value} (h : mtA R x y = true) (hx : VR b y v) : VR a x v := by
  unfold mtA at h
  split at h
  · simp only [VR] at hx ⊢; obtain ⟨cs, e, hc⟩ := hx; exact ⟨cs, e, mtFs_bw hf h hc⟩
  · exact mtF_bw hf h hx
theorem mtAs_bw (hf : Bwd R a b) {x y : List AVal} {v : List Value} (h : mtAs R x y = true) (hx : VRs b y v) : VRs a x v :=
  carryLb mtAs_nil mtAs_cons (fun _ _ _ => mtA_bw hf) x y v h hx
theorem mtV_bw (hf : Bwd R a b) {x y : AVal} {v : Value} (h : mtV R x y = true) (hx : VR b y v) : VR a x v := by
  unfold mtV at h
  split at h
  · simp only [VR] at hx ⊢; obtain ⟨cs, e, hc⟩ := hx; exact ⟨cs, e, mtAs_bw hf h hc⟩
  · exact mtA_bw hf h hx
theorem mtVs_bw (hf : Bwd R a b) {x y : List AVal} {v : List Value} (h : mtVs R x y = true) (hx : VRs b y v) : VRs a x v :=
  carryLb mtVs_nil mtVs_cons (fun _ _ _ => mtV_bw hf) x y v h hx

theorem mtT_get : ∀ {p : List Bool} {c d : T AVal}, mtT R c d = true → mtO R (T.getP p c) (T.getP p d) = true
  | p, .leaf, .leaf, _ => by simp [mtO]
  | p, .leaf, .node _ _ _, h => by cases h
  | p, .node _ _ _, .leaf, h => by cases h
  | [], .node l v r, .node l' v' r', h => by simp only [mtT, Bool.and_eq_true] at h; simpa using h.1.1
  | b :: p, .node l v r, .node l' v' r', h => by
    simp only [mtT, Bool.and_eq_true] at h
    cases b
    · simpa using mtT_get (p := p) h.1.2
    · simpa using mtT_get (p := p) h.2
theorem mtT_fwd {c d : T AVal} (h : mtT R c d = true) {i : Nat} {y : AVal} (hd : d.get i = some y) : ∃ x, c.get i = some x ∧ mtV R x y = true := by
  have hm := mtT_get (R := R) (p := path i) h
  change mtO R (c.get i) (d.get i) = true at hm
  rw [hd] at hm
  cases hc : c.get i with
  | none => rw [hc] at hm; cases hm
  | some x => rw [hc] at hm; exact ⟨x, rfl, hm⟩
theorem mtT_bwd {c d : T AVal} (h : mtT R c d = true) {i : Nat} {x : AVal} (hd : c.get i = some x) : ∃ y, d.get i = some y ∧ mtV R x y = true := by
  have hm := mtT_get (R := R) (p := path i) h
  change mtO R (c.get i) (d.get i) = true at hm
  rw [hd] at hm
  cases hc : d.get i with
  | none => rw [hc] at hm; cases hm
  | some x => rw [hc] at hm; exact ⟨x, rfl, hm⟩
theorem mtEs_fw (hf : Fwd R a b) : ∀ {x y : List (AVal × AVal)} {l : List MapEntry}, mtEs R x y = true → EsR a x l → EsR b y l
  | [], [], _, _, hx => hx
  | [], _ :: _, _, h, _ => by cases h
  | _ :: _, [], _, h, _ => by cases h
  | (k, v) :: x, (k', v') :: y, l, h, hx => by
    simp only [mtEs, Bool.and_eq_true] at h
    simp only [EsR] at hx ⊢
    obtain ⟨e, l', e1, h1, h2, h3⟩ := hx
    exact ⟨e, l', e1, mtV_fw hf h.1.1 h1, mtV_fw hf h.1.2 h2, mtEs_fw hf h.2 h3⟩
theorem mtEs_bw (hf : Bwd R a b) : ∀ {x y : List (AVal × AVal)} {l : List MapEntry}, mtEs R x y = true → EsR b y l → EsR a x l
  | [], [], _, _, hx => hx
  | [], _ :: _, _, h, _ => by cases h
  | _ :: _, [], _, h, _ => by cases h
  | (k, v) :: x, (k', v') :: y, l, h, hx => by
    simp only [mtEs, Bool.and_eq_true] at h
    simp only [EsR] at hx ⊢
    obtain ⟨e, l', e1, h1, h2, h3⟩ := hx
    exact ⟨e, l', e1, mtV_bw hf h.1.1 h1, mtV_bw hf h.1.2 h2, mtEs_bw hf h.2 h3⟩
theorem mtK_ep {x y : ABlk} (h : mtK R x y = true) : x.ep = y.ep := by
  unfold mtK at h
  split at h
  · simp only [Bool.and_eq_true, beq_iff] at h; exact h.1.1.2
  · rfl
  · rfl
  · cases h
theorem mtK_fw (hf : Fwd R a b) {x y : ABlk} {i j : Nat} {p : Place} {w : World} (h : mtK R x y = true) (hx : BR P a i x p w) : BR P b j y p w := by
  unfold mtK at h
  split at h
  · simp only [Bool.and_eq_true, beq_iff] at h
    obtain ⟨⟨⟨⟨rfl, rfl⟩, rfl⟩, rfl⟩, h5⟩ := h
    obtain ⟨arr, z, h1, h2, h3, h4, h6⟩ := hx
    refine ⟨arr, z, h1, h2, h3, fun i v hi hv => ?_, h6⟩
    obtain ⟨x, hx, hm⟩ := mtT_fwd h5 hv
    obtain ⟨u, hu, hr⟩ := h4 i x hi hx
    exact ⟨u, hu, mtV_fw hf hm hr⟩
  · obtain ⟨l, cl, h1, h2, h3⟩ := hx
    exact ⟨l, cl, h1, mtEs_fw hf h h2, h3⟩
  · simp only [Bool.and_eq_true, beq_iff, eqB_iff] at h
    obtain ⟨rfl, rfl⟩ := h
    exact hx
  · cases h
theorem mtK_bw (hf : Bwd R a b) {x y : ABlk} {i j : Nat} {p : Place} {w : World} (h : mtK R x y = true) (hx : BR P b j y p w) : BR P a i x p w := by
  unfold mtK at h
  split at h
  · simp only [Bool.and_eq_true, beq_iff] at h
    obtain ⟨⟨⟨⟨rfl, rfl⟩, rfl⟩, rfl⟩, h5⟩ := h
    obtain ⟨arr, z, h1, h2, h3, h4, h6⟩ := hx
    refine ⟨arr, z, h1, h2, h3, fun i v hi hv => ?_, h6⟩
    obtain ⟨x, hx, hm⟩ := mtT_bwd h5 hv
    obtain ⟨u, hu, hr⟩ := h4 i x hi hx
    exact ⟨u, hu, mtV_bw hf hm hr⟩
  · obtain ⟨l, cl, h1, h2, h3⟩ := hx
    exact ⟨l, cl, h1, mtEs_bw hf h h2, h3⟩
  · simp only [Bool.and_eq_true, beq_iff, eqB_iff] at h
    obtain ⟨rfl, rfl⟩ := h
    exact hx
  · cases h

/-! renaming carries forward -/
theorem rnB_fw (hf : Fwd R a b) {x : AVal} {v : Value} (hx : VR a x v) : VR b (rnB R x) v := by
  unfold rnB
  split
  · simp only [VR, rnP] at hx ⊢; obtain ⟨p, hp, e⟩ := hx; exact ⟨p, hf _ _ _ hp, e⟩
  · simp only [VR, rnP] at hx ⊢; obtain ⟨p, off, c', hp, e⟩ := hx; exact ⟨p, off, c', hf _ _ _ hp, e⟩
  · simp only [VR] at hx ⊢; obtain ⟨p, hp, e⟩ := hx; exact ⟨p, hf _ _ _ hp, e⟩
  · simp [VR]
  · simp [VR]
  · simp [VR]
  · simp [VR]
  · rename_i h1 h2 h3 h4 h5 h6 h7
    cases x with
    | ptr o => cases o with
      | none => exact hx
      | some x => exact absurd rfl (h1 x)
    | slice o l c e => cases o with
      | none => exact hx
      | some x => exact absurd rfl (h2 x l c e)
    | map o => cases o with
      | none => exact hx
      | some x => exact absurd rfl (h3 x)
    | func f x y => exact absurd rfl (h4 f x y)
    | iface t y => exact absurd rfl (h5 t y)
    | agg l => exact absurd rfl (h6 l)
    | tuple l => exact absurd rfl (h7 l)
    | str s => simpa only [VR] using hx
    | top => simp [VR]
    | _ => exact hx
theorem rnBs_fw (hf : Fwd R a b) : ∀ {x : List AVal} {v : List Value}, VRs a x v → VRs b (rnBs R x) v
  | [], _, hx => by simpa only [VRs, rnBs] using hx
  | x :: l, _, hx => by
    obtain ⟨v, vs', rfl, h1, h2⟩ := VRs.cons_inv hx
    exact VRs.cons (rnB_fw hf h1) (rnBs_fw hf h2)
theorem rnJ_fw (hf : Fwd R a b) {x : AVal} {v : Value} (hx : VR a x v) : VR b (rnJ R x) v := by
  unfold rnJ
  split
  · simp only [VR] at hx ⊢; obtain ⟨cs, e, h⟩ := hx; exact ⟨cs, e, rnBs_fw hf h⟩
  · exact rnB_fw hf hx
theorem rnF_fw (hf : Fwd R a b) {x : AVal} {v : Value} (hx : VR a x v) : VR b (rnF R x) v := by
  unfold rnF
  split
  · simp only [VR] at hx ⊢
    obtain ⟨fn', f', c', e, h3, h4, h5⟩ := hx
    exact ⟨fn', f', c', e, h3, rnBs_fw hf h4, rnBs_fw hf h5⟩
  · simp only [VR] at hx ⊢
    obtain ⟨y, e, h⟩ := hx
    exact ⟨y, e, rnJ_fw hf h⟩
  · exact rnB_fw hf hx
theorem rnFs_fw (hf : Fwd R a b) : ∀ {x : List AVal} {v : List Value}, VRs a x v → VRs b (rnFs R x) v
  | [], _, hx => by simpa only [VRs, rnFs] using hx
  | x :: l, _, hx => by
    obtain ⟨v, vs', rfl, h1, h2⟩ := VRs.cons_inv hx
    exact VRs.cons (rnF_fw hf h1) (rnFs_fw hf h2)
theorem rnA_fw (hf : Fwd R a b) {x : AVal} {v : Value} (hx : VR a x v) : VR b (rnA R x) v := by
  unfold rnA
  split
  · simp only [VR] at hx ⊢; obtain ⟨cs, e, h⟩ := hx; exact ⟨cs, e, rnFs_fw hf h⟩
  · exact rnF_fw hf hx
theorem rnAs_fw (hf : Fwd R a b) : ∀ {x : List AVal} {v : List Value}, VRs a x v → VRs b (rnAs R x) v
  | [], _, hx => by simpa only [VRs, rnAs] using hx
  | x :: l, _, hx => by
    obtain ⟨v, vs', rfl, h1, h2⟩ := VRs.cons_inv hx
    exact VRs.cons (rnA_fw hf h1) (rnAs_fw hf h2)
theorem rnV_fw (hf : Fwd R a b) {x : AVal} {v : Value} (hx : VR a x v) : VR b (rnV R x) v := by
  unfold rnV
  split
  · simp only [VR] at hx ⊢; obtain ⟨cs, e, h⟩ := hx; exact ⟨cs, e, rnAs_fw hf h⟩
  · exact rnA_fw hf hx
theorem rnT_getP : ∀ (p : List Bool) (c : T AVal), T.getP p (rnT R c) = (T.getP p c).map (rnV R)
  | p, .leaf => by simp [rnT]
  | [], .node l v r => by cases v <;> simp [rnT]
  | b :: p, .node l v r => by
    cases b
    · simpa [rnT] using rnT_getP p l
    · simpa [rnT] using rnT_getP p r
theorem rnT_get (c : T AVal) (i : Nat) : (rnT R c).get i = (c.get i).map (rnV R) := rnT_getP (path i) c
theorem rnEs_fw (hf : Fwd R a b) : ∀ {x : List (AVal × AVal)} {l : List MapEntry}, EsR a x l → EsR b (rnEs R x) l
  | [], _, hx => hx
  | (k, v) :: x, l, hx => by
    simp only [EsR, rnEs] at hx ⊢
    obtain ⟨e, l', e1, h1, h2, h3⟩ := hx
    exact ⟨e, l', e1, rnV_fw hf h1, rnV_fw hf h2, rnEs_fw hf h3⟩
theorem rnK_ep {x : ABlk} : (rnK R x).ep = x.ep := by cases x <;> rfl
theorem rnK_fw (hf : Fwd R a b) {x : ABlk} {i j : Nat} {p : Place} {w : World} (hp : plainK x = true) (hx : BR P a i x p w) : BR P b j (rnK R x) p w := by
  cases x with
  | cells c sz e ep fz =>
    obtain ⟨arr, z, h1, h2, h3, h4, h6⟩ := hx
    refine ⟨arr, z, h1, h2, h3, fun i v hi hv => ?_, h6⟩
    rw [rnT_get] at hv
    cases hc : c.get i with
    | none => rw [hc] at hv; cases hv
    | some x =>
      rw [hc] at hv; cases hv
      obtain ⟨u, hu, hr⟩ := h4 i x hi hc
      exact ⟨u, hu, rnV_fw hf hr⟩
  | map es =>
    obtain ⟨l, cl, h1, h2, h3⟩ := hx
    exact ⟨l, cl, h1, rnEs_fw hf h2, h3⟩
  | striter s q => exact hx
  | loop => cases hp
  | defd => cases hp
end Ab

namespace Ab
open Go
variable {P : Program}

theorem get_del {α : Type} (t : T α) (n m : Nat) : T.get (T.del t n) m = if n = m then none else T.get t m := by
  by_cases h : n = m
  · subst h; simp only [T.get, T.del, getP_putP_eq, if_pos]
  · rw [if_neg h]; exact getP_putP_ne none _ _ t fun e => h (path_inj e)

/-! what a list of changes leaves at a place -/
def lastU : List (Nat × Option ABlk) → Nat → Option (Option ABlk)
  | [], _ => none
  | (b, o) :: l, i => match lastU l i with
    | some r => some r
    | none => if b = i then some o else none
theorem get_applyE : ∀ (l : List (Nat × Option ABlk)) (t : T ABlk) (i : Nat), (applyE l t).get i = (lastU l i).getD (t.get i)
  | [], t, i => rfl
  | (b, some x) :: l, t, i => by
    simp only [applyE, get_applyE l, lastU, get_set]
    cases hl : lastU l i with
    | some r => rfl
    | none => by_cases e : b = i <;> simp [e]
  | (b, none) :: l, t, i => by
    simp only [applyE, get_applyE l, lastU, get_del]
    cases hl : lastU l i with
    | some r => rfl
    | none => by_cases e : b = i <;> simp [e]
theorem get_applyU {R : Ren} : ∀ (l : List (Nat × Option ABlk)) (t : T ABlk) (i : Nat), (∀ b ∈ idsU l, R.m b = R.m i → b = i) → (applyU R l t).get (R.m i) = ((lastU l i).map (·.map (rnK R))).getD (t.get (R.m i))
  | [], t, i, _ => rfl
  | (b, some x) :: l, t, i, hi => by
    simp only [applyU, lastU]
    rw [get_applyU l _ i (fun c hc => hi c (by simp [idsU, hc])), get_set]
    cases hl : lastU l i with
    | some r => rfl
    | none =>
      by_cases e : b = i
      · subst e; simp
      · have : ¬ R.m b = R.m i := fun h => e (hi b (by simp [idsU]) h)
        simp [e, this]
  | (b, none) :: l, t, i, hi => by
    simp only [applyU, lastU]
    rw [get_applyU l _ i (fun c hc => hi c (by simp [idsU, hc])), get_del]
    cases hl : lastU l i with
    | some r => rfl
    | none =>
      by_cases e : b = i
      · subst e; simp
      · have : ¬ R.m b = R.m i := fun h => e (hi b (by simp [idsU]) h)
        simp [e, this]
theorem get_applyU_off {R : Ren} : ∀ (l : List (Nat × Option ABlk)) (t : T ABlk) (c : Nat), (∀ b ∈ idsU l, R.m b ≠ c) → (applyU R l t).get c = t.get c
  | [], t, c, _ => rfl
  | (b, some x) :: l, t, c, hi => by
    simp only [applyU]
    rw [get_applyU_off l _ c (fun d hd => hi d (by simp [idsU, hd])), get_set, if_neg (hi b (by simp [idsU]))]
  | (b, none) :: l, t, c, hi => by
    simp only [applyU]
    rw [get_applyU_off l _ c (fun d hd => hi d (by simp [idsU, hd])), get_del, if_neg (hi b (by simp [idsU]))]
theorem lastU_mem : ∀ {l : List (Nat × Option ABlk)} {i : Nat} {o : Option ABlk}, lastU l i = some o → (i, o) ∈ l
  | (b, o) :: l, i, o', h => by
    simp only [lastU] at h
    cases hl : lastU l i with
    | some r => rw [hl] at h; cases h; exact List.mem_cons_of_mem _ (lastU_mem hl)
    | none =>
      rw [hl] at h
      by_cases e : b = i
      · rw [if_pos e] at h; cases h; subst e; exact List.mem_cons_self
      · rw [if_neg e] at h; cases h
theorem mem_idsU : ∀ {l : List (Nat × Option ABlk)} {i : Nat}, i ∈ idsU l ↔ ∃ o, (i, o) ∈ l
  | [], i => by simp [idsU]
  | (b, o) :: l, i => by
    simp only [idsU, List.mem_cons, mem_idsU (l := l)]
    constructor
    · rintro (rfl | ⟨o, h⟩)
      · exact ⟨o, .inl rfl⟩
      · exact ⟨o, .inr h⟩
    · rintro ⟨o', h | h⟩
      · cases h; exact .inl rfl
      · exact .inr ⟨o', h⟩
theorem lastU_some : ∀ {l : List (Nat × Option ABlk)} {i : Nat}, i ∈ idsU l → ∃ o, lastU l i = some o
  | (b, o) :: l, i, h => by
    simp only [lastU]
    cases hl : lastU l i with
    | some r => exact ⟨r, rfl⟩
    | none =>
      simp only [idsU, List.mem_cons] at h
      rcases h with h | h
      · exact ⟨o, by simp [h]⟩
      · obtain ⟨o', h'⟩ := lastU_some h; rw [hl] at h'; cases h'
theorem setP_mem : ∀ {l : List (Nat × ABlk)} {t : T ABlk} {i : Nat} {x : ABlk}, (setP l t).get i = some x → (i, x) ∈ l ∨ t.get i = some x
  | [], t, i, x, h => .inr h
  | (b, y) :: l, t, i, x, h => by
    rcases setP_mem (l := l) h with h | h
    · exact .inl (List.mem_cons_of_mem _ h)
    · rw [get_set] at h
      by_cases e : b = i
      · rw [if_pos e] at h; cases h; subst e; exact .inl List.mem_cons_self
      · rw [if_neg e] at h; exact .inr h
theorem mem_setP : ∀ {l : List (Nat × ABlk)} {t : T ABlk} {i : Nat}, ((∃ x, (i, x) ∈ l) ∨ ∃ x, t.get i = some x) → ∃ x, (setP l t).get i = some x
  | [], t, i, h => by
    rcases h with ⟨x, h⟩ | h
    · cases h
    · exact h
  | (b, y) :: l, t, i, h => by
    apply mem_setP (l := l)
    rcases h with ⟨x, h⟩ | ⟨x, h⟩
    · cases h with
      | head => exact .inr ⟨_, by rw [get_set, if_pos rfl]⟩
      | tail _ h => exact .inl ⟨x, h⟩
    · right
      rw [get_set]
      by_cases e : b = i
      · exact ⟨y, by rw [if_pos e]⟩
      · exact ⟨x, by rw [if_neg e]; exact h⟩
theorem pre_mem {E : Entry} {i : Nat} {x : ABlk} (h : E.h0.t.get i = some x) : (i, x) ∈ E.pre := by
  rcases setP_mem h with h | h
  · exact h
  · simp at h
theorem mem_pre {E : Entry} {i : Nat} {x : ABlk} (h : (i, x) ∈ E.pre) : ∃ y, E.h0.t.get i = some y := mem_setP (.inl ⟨x, h⟩)
theorem mtPre_mem {R : Ren} {t : T ABlk} : ∀ {l : List (Nat × ABlk)}, mtPre R t l = true → ∀ i x, (i, x) ∈ l → ∃ y, t.get (R.m i) = some y ∧ mtK R x y = true
  | (b, x) :: l, h, i, y, hm => by
    simp only [mtPre, Bool.and_eq_true] at h
    cases hm with
    | head =>
      have h1 := h.1
      cases hg : t.get (R.m b) with
      | none => rw [hg] at h1; cases h1
      | some z => rw [hg] at h1; exact ⟨z, rfl, h1⟩
    | tail _ hm => exact mtPre_mem h.2 i y hm
theorem injP_spec {R : Ren} : ∀ {l : List (Nat × ABlk)} {u : T Nat}, injP R l u = true → (∀ i x, (i, x) ∈ l → u.get (R.m i) = none) ∧ ∀ i x j y, (i, x) ∈ l → (j, y) ∈ l → R.m i = R.m j → i = j
  | [], u, _ => ⟨fun _ _ h => (by cases h), fun _ _ _ _ h => (by cases h)⟩
  | (b, x) :: l, u, h => by
    simp only [injP] at h
    cases hg : u.get (R.m b) with
    | some z => rw [hg] at h; cases h
    | none =>
      rw [hg] at h
      obtain ⟨h1, h2⟩ := injP_spec (l := l) h
      have hne : ∀ i y, (i, y) ∈ l → R.m b ≠ R.m i := fun i y hi e => by
        have := h1 i y hi
        rw [get_set, if_pos e] at this; cases this
      refine ⟨fun i y hi => ?_, fun i y j z hi hj e => ?_⟩
      · cases hi with
        | head => exact hg
        | tail _ hi =>
          have := h1 i y hi
          rw [get_set, if_neg (hne i y hi)] at this; exact this
      · cases hi with
        | head => cases hj with
          | head => rfl
          | tail _ hj => exact absurd e (hne j z hj)
        | tail _ hi => cases hj with
          | head => exact absurd e.symm (hne i y hi)
          | tail _ hj => exact h2 i y j z hi hj e
theorem globP_spec {R : Ren} : ∀ {n : Nat}, globP R n = true → ∀ g, g < n → R.m g = g
  | n + 1, h, g, hg => by
    simp only [globP, Bool.and_eq_true, beq_iff] at h
    by_cases e : g = n
    · subst e; exact h.1
    · exact globP_spec h.2 g (by omega)
theorem preOk_mem {n0 : Nat} : ∀ {l : List (Nat × ABlk)}, preOk n0 l = true → ∀ i x, (i, x) ∈ l → i < n0 ∧ plainK x = true
  | (b, x) :: l, h, i, y, hm => by
    simp only [preOk, Bool.and_eq_true, blt_iff] at h
    cases hm with
    | head => exact h.1
    | tail _ hm => exact preOk_mem h.2 i y hm
theorem updOk_mem {n0 : Nat} {t : T ABlk} : ∀ {l : List (Nat × Option ABlk)}, updOk n0 t l = true → ∀ i o, (i, o) ∈ l → (n0 ≤ i ∨ ∃ x, t.get i = some x) ∧ (∀ x, o = some x → plainK x = true)
  | (b, o) :: l, h, i, o', hm => by
    simp only [updOk, Bool.and_eq_true, Bool.or_eq_true, ble_iff] at h
    cases hm with
    | head =>
      refine ⟨?_, fun x hx => ?_⟩
      · rcases h.1.1 with h | h
        · exact .inl h
        · exact .inr (Option.isSome_iff_exists.1 h)
      · subst hx; exact h.1.2
    | tail _ hm => exact updOk_mem h.2 i o' hm

theorem m_hi {R : Ren} {b : Nat} (h : R.n0 ≤ b) : R.m b = R.n1 + (b - R.n0) := by
  have : Nat.ble R.n0 b = true := ble_iff.2 h
  simp only [Ren.m, this, cond_true]
  rfl

/-- what is needed of an entry that fits -/
structure Fits (P : Program) (E : Entry) (R : Ren) (h : AHeap) : Prop where
  n0 : R.n0 = E.n0
  n1 : R.n1 = h.next
  pre : ∀ i x, (i, x) ∈ E.pre → ∃ y, h.t.get (R.m i) = some y ∧ mtK R x y = true
  inj : ∀ i x j y, (i, x) ∈ E.pre → (j, y) ∈ E.pre → R.m i = R.m j → i = j
  glob : ∀ g, g < P.globals.size → R.m g = g
  ok : E.ok = true

open Classical in
/-- what a block of the larger heap stands for, behind the call -/
noncomputable def back (E : Entry) (R : Ren) (a' b : Emb) : Emb := fun c e =>
  if h : ∃ i, R.m i = c ∧ (E.n0 ≤ i ∨ ∃ x, (i, x) ∈ E.pre) then a' h.choose e else b c e

variable {E : Entry} {R : Ren} {h : AHeap} {w w' : World} {ι a' : Emb}
/-- the entry's own view -/
noncomputable def view (R : Ren) (ι : Emb) : Emb := fun i e => ι (R.m i) e
theorem view_bwd : Bwd R (view R ι) ι := fun _ _ _ h => h
theorem view_fwd : Fwd R (view R ι) ι := fun _ _ _ h => h

theorem Fits.low (F : Fits P E R h) (s : St P ι h w) {i : Nat} {x : ABlk} (hm : (i, x) ∈ E.pre) : i < E.n0 ∧ R.m i < h.next := by
  have hok := F.ok
  simp only [Entry.ok, Bool.and_eq_true] at hok
  refine ⟨(preOk_mem hok.1.2 i x hm).1, ?_⟩
  obtain ⟨y, hy, _⟩ := F.pre i x hm
  obtain ⟨p, hp, _⟩ := s.blk _ _ hy
  exact s.fresh _ _ _ hp
theorem Fits.good (F : Fits P E R h) (s : St P ι h w) {i j : Nat} (hi : E.n0 ≤ i ∨ ∃ x, (i, x) ∈ E.pre) (hj : E.n0 ≤ j ∨ ∃ x, (j, x) ∈ E.pre) (e : R.m i = R.m j) : i = j := by
  have hi' : ∀ k, E.n0 ≤ k → R.m k = h.next + (k - E.n0) := fun k hk => by rw [m_hi (by rw [F.n0]; exact hk), F.n0, F.n1]
  rcases hi with hi | ⟨x, hi⟩ <;> rcases hj with hj | ⟨y, hj⟩
  · rw [hi' i hi, hi' j hj] at e; omega
  · have := (F.low s hj).2; rw [hi' i hi] at e; omega
  · have := (F.low s hi).2; rw [hi' j hj] at e; omega
  · exact F.inj i x j y hi hj e
theorem back_at (F : Fits P E R h) (s : St P ι h w) {i : Nat} (hi : E.n0 ≤ i ∨ ∃ x, (i, x) ∈ E.pre) (b : Emb) (e : Nat) : back E R a' b (R.m i) e = a' i e := by
  have hex : ∃ j, R.m j = R.m i ∧ (E.n0 ≤ j ∨ ∃ x, (j, x) ∈ E.pre) := ⟨i, rfl, hi⟩
  unfold back
  rw [dif_pos hex]
  have := hex.choose_spec
  rw [F.good s this.2 hi this.1]
theorem back_off {b : Emb} {c e : Nat} (hc : ¬ ∃ i, R.m i = c ∧ (E.n0 ≤ i ∨ ∃ x, (i, x) ∈ E.pre)) : back E R a' b c e = b c e := by
  unfold back; rw [dif_neg hc]

theorem Fits.view (F : Fits P E R h) (s : St P ι h w) : St P (view R ι) E.h0 w := by
  refine ⟨?_, ?_, ?_, ?_, ?_⟩
  · intro i x hx
    obtain ⟨y, hy, hm⟩ := F.pre i x (pre_mem hx)
    obtain ⟨p, hp, hb⟩ := s.blk _ _ hy
    exact ⟨p, by rw [mtK_ep hm]; exact hp, mtK_bw view_bwd hm hb⟩
  · intro i j x y p q hx hy hp hq he
    obtain ⟨x', hx', hm⟩ := F.pre i x (pre_mem hx)
    obtain ⟨y', hy', hn⟩ := F.pre j y (pre_mem hy)
    exact F.inj i x j y (pre_mem hx) (pre_mem hy) (s.inj _ _ x' y' p q hx' hy' (by rw [← mtK_ep hm]; exact hp) (by rw [← mtK_ep hn]; exact hq) he)
  · intro i x e p hx hp
    obtain ⟨y, hy, hm⟩ := F.pre i x (pre_mem hx)
    rw [mtK_ep hm]
    exact s.eps _ y e p hy hp
  · intro i e p hp
    have hlt := s.fresh _ _ _ hp
    apply Classical.byContradiction
    intro hn
    have hn' : E.n0 ≤ i := Nat.le_of_not_lt hn
    rw [m_hi (by rw [F.n0]; exact hn'), F.n1] at hlt
    omega
  · intro g hg
    obtain ⟨p, hp, e⟩ := s.glob g hg
    exact ⟨p, by show ι (R.m g) 0 = _; rw [F.glob g hg]; exact hp, e⟩

/-- an entry that fits: what its call comes to, in the larger heap -/
theorem Fits.carry (F : Fits P E R h) (s : St P ι h w) (s' : St P a' E.h1 w') (f : Fr E.h0 (Ab.view R ι) w E.h1 a' w') :
    Fwd R a' (back E R a' ι) ∧ St P (back E R a' ι) (E.gives R h).2 w' ∧ Fr h ι w (E.gives R h).2 (back E R a' ι) w' := by
  have hok := F.ok
  simp only [Entry.ok, Bool.and_eq_true, ble_iff] at hok
  obtain ⟨⟨hnn, hpre⟩, hupd⟩ := hok
  have hle : ι.le (back E R a' ι) := by
    intro c e p hp
    by_cases hc : ∃ i, R.m i = c ∧ (E.n0 ≤ i ∨ ∃ x, (i, x) ∈ E.pre)
    · obtain ⟨i, rfl, hi⟩ := hc
      rw [back_at F s hi]
      exact f.le _ _ _ hp
    · rw [back_off hc]; exact hp
  have hfw : Fwd R a' (back E R a' ι) := by
    intro i e p hp
    rcases f.dom i e p hp with h1 | h1 | ⟨x, h1⟩
    · exact hle _ _ _ h1
    · rw [back_at F s (.inl h1)]; exact hp
    · rw [back_at F s (.inr ⟨x, pre_mem h1⟩)]; exact hp
  -- the changed places are good ones
  have hug : ∀ i, i ∈ idsU E.upd → E.n0 ≤ i ∨ ∃ x, (i, x) ∈ E.pre := by
    intro i hi
    obtain ⟨o, ho⟩ := mem_idsU.1 hi
    rcases (updOk_mem hupd i o ho).1 with h1 | ⟨x, h1⟩
    · exact .inl h1
    · exact .inr ⟨x, pre_mem h1⟩
  have hinj : ∀ i, (E.n0 ≤ i ∨ ∃ x, (i, x) ∈ E.pre) → ∀ b ∈ idsU E.upd, R.m b = R.m i → b = i := fun i hi b hb e => F.good s (hug b hb) hi e
  have h1get : ∀ i, E.h1.t.get i = (lastU E.upd i).getD (E.h0.t.get i) := fun i => get_applyE _ _ _
  have hgget : ∀ i, (E.n0 ≤ i ∨ ∃ x, (i, x) ∈ E.pre) → (applyU R E.upd h.t).get (R.m i) = ((lastU E.upd i).map (·.map (rnK R))).getD (h.t.get (R.m i)) := fun i hi => get_applyU _ _ _ (hinj i hi)
  have hhi : ∀ i, E.n0 ≤ i → R.m i = h.next + (i - E.n0) := fun k hk => by rw [m_hi (by rw [F.n0]; exact hk), F.n0, F.n1]
  -- what lies at a place of the larger heap, behind
  have hat : ∀ c y, (applyU R E.upd h.t).get c = some y →
      (∃ i x, c = R.m i ∧ (E.n0 ≤ i ∨ ∃ x, (i, x) ∈ E.pre) ∧ E.h1.t.get i = some x ∧ x.ep = y.ep ∧ (∀ p, BR P a' i x p w' → BR P (back E R a' ι) c y p w')) ∨
      ((¬ ∃ i, R.m i = c ∧ (E.n0 ≤ i ∨ ∃ x, (i, x) ∈ E.pre)) ∧ h.t.get c = some y) := by
    intro c y hy
    by_cases hc : ∃ i, R.m i = c ∧ (E.n0 ≤ i ∨ ∃ x, (i, x) ∈ E.pre)
    · left
      obtain ⟨i, rfl, hi⟩ := hc
      rw [hgget i hi] at hy
      cases hl : lastU E.upd i with
      | some o =>
        rw [hl] at hy
        simp only [Option.map_some, Option.getD_some] at hy
        cases o with
        | none => cases hy
        | some x =>
          cases hy
          exact ⟨i, x, rfl, hi, by rw [h1get, hl]; rfl, rnK_ep.symm, fun p hb => rnK_fw hfw ((updOk_mem hupd i _ (lastU_mem hl)).2 x rfl) hb⟩
      | none =>
        rw [hl] at hy
        simp only [Option.map_none, Option.getD_none] at hy
        rcases hi with hi | ⟨x, hi⟩
        · exfalso
          have := s.no_fresh (b := R.m i) (by rw [hhi i hi]; omega)
          rw [this] at hy; cases hy
        · obtain ⟨x', hx'⟩ := mem_pre hi
          obtain ⟨z, hz, hm⟩ := F.pre i x' (pre_mem hx')
          rw [hy] at hz; cases hz
          exact ⟨i, x', rfl, .inr ⟨x, hi⟩, by rw [h1get, hl]; exact hx', mtK_ep hm, fun p hb => mtK_fw hfw hm hb⟩
    · right
      refine ⟨hc, ?_⟩
      rw [get_applyU_off _ _ _ fun b hb e => hc ⟨b, e, hug b hb⟩] at hy
      exact hy
  -- those that the entry does not know lie as they lay
  have hout : ∀ c y, (¬ ∃ i, R.m i = c ∧ (E.n0 ≤ i ∨ ∃ x, (i, x) ∈ E.pre)) → h.t.get c = some y → ∃ p, ι c y.ep = some p ∧ BR P ι c y p w ∧ p.cb < w.heap.size ∧ ¬ Img E.h0 (Ab.view R ι) p.cb := by
    intro c y hc hy
    obtain ⟨p, hp, hb⟩ := s.blk c y hy
    refine ⟨p, hp, hb, hb.lt, ?_⟩
    rintro ⟨i, x, q, hx, hq, he⟩
    obtain ⟨z, hz, hm⟩ := F.pre i x (pre_mem hx)
    have := s.inj _ _ z y q p hz hy (by rw [← mtK_ep hm]; exact hq) hp he
    exact hc ⟨i, this, .inr ⟨x, pre_mem hx⟩⟩
  have hblk1 : ∀ i x, E.h1.t.get i = some x → E.n0 ≤ i ∨ ∃ x, (i, x) ∈ E.pre := by
    intro i x hx
    rcases f.live i x hx with h1 | ⟨y, h1⟩
    · exact .inl h1
    · exact .inr ⟨y, pre_mem h1⟩
  have himg : ∀ cb, Img E.h0 (Ab.view R ι) cb → Img h ι cb := by
    rintro cb ⟨i, x, p, hx, hp, he⟩
    obtain ⟨y, hy, hm⟩ := F.pre i x (pre_mem hx)
    exact ⟨R.m i, y, p, hy, by rw [← mtK_ep hm]; exact hp, he⟩
  refine ⟨hfw, ⟨?_, ?_, ?_, ?_, ?_⟩, ⟨hle, f.size, ?_, ?_, ?_, ?_, ?_, f.os, f.output⟩⟩
  · intro c y hy
    rcases hat c y hy with ⟨i, x, rfl, hi, hx, hep, hbr⟩ | ⟨hc, hy'⟩
    · obtain ⟨p, hp, hb⟩ := s'.blk i x hx
      exact ⟨p, by rw [← hep]; exact hfw _ _ _ hp, hbr p hb⟩
    · obtain ⟨p, hp, hb, hlt, hni⟩ := hout c y hc hy'
      exact ⟨p, hle _ _ _ hp, hb.mono hle (f.keep _ hlt hni)⟩
  · intro c d y z p q hy hz hp hq he
    rcases hat c y hy with ⟨i, x, rfl, hi, hx, hep, _⟩ | ⟨hc, hy'⟩ <;> rcases hat d z hz with ⟨j, x', rfl, hj, hx', hep', _⟩ | ⟨hd, hz'⟩
    · rw [back_at F s hi] at hp; rw [back_at F s hj] at hq
      rw [s'.inj i j x x' p q hx hx' (by rw [hep]; exact hp) (by rw [hep']; exact hq) he]
    · exfalso
      obtain ⟨q', hq', _, hlt, hni⟩ := hout d z hd hz'
      rw [back_off hd, hq'] at hq; cases hq
      rw [back_at F s hi, ← hep] at hp
      exact hni (f.img _ hlt ⟨i, x, p, hx, hp, he⟩)
    · exfalso
      obtain ⟨p', hp', _, hlt, hni⟩ := hout c y hc hy'
      rw [back_off hc, hp'] at hp; cases hp
      rw [back_at F s hj, ← hep'] at hq
      exact hni (f.img _ hlt ⟨j, x', q, hx', hq, he.symm⟩)
    · rw [back_off hc] at hp; rw [back_off hd] at hq
      exact s.inj c d y z p q hy' hz' hp hq he
  · intro c y e p hy hp
    rcases hat c y hy with ⟨i, x, rfl, hi, hx, hep, _⟩ | ⟨hc, hy'⟩
    · rw [back_at F s hi] at hp
      rw [← hep]; exact s'.eps i x e p hx hp
    · rw [back_off hc] at hp
      exact s.eps c y e p hy' hp
  · intro c e p hp
    show c < Nat.add h.next (Nat.sub E.nx E.n0)
    have hnx : Nat.add h.next (Nat.sub E.nx E.n0) = h.next + (E.nx - E.n0) := rfl
    rw [hnx]
    by_cases hc : ∃ i, R.m i = c ∧ (E.n0 ≤ i ∨ ∃ x, (i, x) ∈ E.pre)
    · obtain ⟨i, rfl, hi⟩ := hc
      rw [back_at F s hi] at hp
      have hlt : i < E.nx := s'.fresh _ _ _ hp
      rcases hi with hi | ⟨x, hi⟩
      · rw [hhi i hi]; omega
      · have := (F.low s hi).2; omega
    · rw [back_off hc] at hp
      have := s.fresh _ _ _ hp; omega
  · intro g hg
    obtain ⟨p, hp, e⟩ := s.glob g hg
    exact ⟨p, hle _ _ _ hp, e⟩
  · intro cb hc hni
    exact f.keep cb hc fun hi => hni (himg cb hi)
  · rintro cb hcb ⟨c, y, p, hy, hp, he⟩
    rcases hat c y hy with ⟨i, x, rfl, hi, hx, hep, _⟩ | ⟨hc, hy'⟩
    · rw [back_at F s hi, ← hep] at hp
      exact himg cb (f.img cb hcb ⟨i, x, p, hx, hp, he⟩)
    · rw [back_off hc] at hp
      exact ⟨c, y, p, hy', hp, he⟩
  · exact Nat.le_add_right _ _
  · intro c y hy
    rcases hat c y hy with ⟨i, x, rfl, hi, hx, hep, _⟩ | ⟨hc, hy'⟩
    · rcases hi with hi | ⟨x', hi⟩
      · exact .inl (by rw [hhi i hi]; omega)
      · obtain ⟨z, hz, _⟩ := F.pre i x' hi
        exact .inr ⟨z, hz⟩
    · exact .inr ⟨y, hy'⟩
  · intro c e p hp
    by_cases hc : ∃ i, R.m i = c ∧ (E.n0 ≤ i ∨ ∃ x, (i, x) ∈ E.pre)
    · obtain ⟨i, rfl, hi⟩ := hc
      rcases hi with hi | ⟨x', hi⟩
      · exact .inr (.inl (by rw [hhi i hi]; omega))
      · obtain ⟨z, hz, _⟩ := F.pre i x' hi
        exact .inr (.inr ⟨z, hz⟩)
    · rw [back_off hc] at hp; exact .inl hp

/-- what an entry says -/
def Entry.Holds (P : Program) (E : Entry) : Prop := E.ok = true ∧ CfS P E.f E.args E.h0 E.v E.h1
theorem Entry.use_S (hE : E.Holds P) {args : List AVal} {v : AVal} {h' : AHeap} (hu : E.use P.globals.size args h = some (v, h')) : CfS P E.f args h v h' := by
  simp only [Entry.use] at hu
  cases hfit : E.fits P.globals.size (E.ren P.globals.size args h) args h with
  | false => rw [hfit] at hu; cases hu
  | true =>
    rw [hfit] at hu
    simp only [cond_true, Option.some.injEq] at hu
    generalize hR : E.ren P.globals.size args h = R at hfit hu
    simp only [Entry.fits, Bool.and_eq_true] at hfit
    obtain ⟨⟨⟨h1, h2⟩, h3⟩, h4⟩ := hfit
    have F : Fits P E R h := ⟨by rw [← hR]; rfl, by rw [← hR]; rfl, mtPre_mem h2, (injP_spec h3).2, globP_spec h4, hE.1⟩
    have hv : v = rnV R E.v := by rw [Entry.gives] at hu; exact (congrArg Prod.fst hu).symm
    have hh : h' = (E.gives R h).2 := (congrArg Prod.snd hu).symm
    intro o ι w cargs r a next Q s ha hk
    refine hE.2 o (view R ι) w cargs r a next Q (F.view s) (mtVs_bw view_bwd h1 ha) fun u a' w' hx s' f => ?_
    obtain ⟨c1, c2, c3⟩ := F.carry s s' f
    exact hk u _ w' (by rw [hv]; exact rnV_fw c1 hx) (by rw [hh]; exact c2) (by rw [hh]; exact c3)
theorem orcL_S : ∀ {l : List Entry}, (∀ E ∈ l, E.Holds P) → OrcS P (orcL P.globals.size l)
  | [], _, _, _, _, _, _, h => by cases h
  | E :: l, hl, f, args, h, v, h', ho => by
    simp only [orcL] at ho
    cases hf : Nat.beq E.f f with
    | false => rw [hf] at ho; exact orcL_S (fun E hE => hl E (List.mem_cons_of_mem _ hE)) f args h v h' ho
    | true =>
      rw [hf] at ho
      rw [beq_iff] at hf; subst hf
      simp only [cond_true] at ho
      cases hu : E.use P.globals.size args h with
      | some r => rw [hu] at ho; cases ho; exact Entry.use_S (hl E List.mem_cons_self) hu
      | none => rw [hu] at ho; exact orcL_S (fun E hE => hl E (List.mem_cons_of_mem _ hE)) _ args h v h' ho

/-- a run that gives what an entry says -/
theorem ran_done {E : Entry} {o : Out} (hr : E.ran o = true) : ∃ v h, o = .done v h ∧ h.next = E.nx ∧ mtV idRen E.v v = true ∧ ∀ i x, E.h1.t.get i = some x → ∃ y, h.t.get i = some y ∧ mtK idRen x y = true := by
  unfold Entry.ran at hr
  split at hr
  · rename_i v h
    simp only [Bool.and_eq_true, beq_iff] at hr
    obtain ⟨⟨h1, h2⟩, h3⟩ := hr
    refine ⟨v, h, rfl, h1, h2, ?_⟩
    have key : ∀ l : List Nat, ranP E.h1.t h.t l = true → ∀ i ∈ l, ∀ x, E.h1.t.get i = some x → ∃ y, h.t.get i = some y ∧ mtK idRen x y = true := by
      intro l
      induction l with
      | nil => intro _ i hi; cases hi
      | cons b l ih =>
        intro hl i hi x hx
        simp only [ranP, Bool.and_eq_true] at hl
        cases hi with
        | head =>
          have h1 := hl.1
          rw [hx] at h1
          simp only at h1
          cases hg : h.t.get b with
          | none => rw [hg] at h1; cases h1
          | some y => rw [hg] at h1; exact ⟨y, rfl, h1⟩
        | tail _ hi => exact ih hl.2 i hi x hx
    intro i x hx
    refine key _ h3 i ?_ x hx
    rw [List.mem_append]
    have hget : E.h1.t.get i = (lastU E.upd i).getD (E.h0.t.get i) := get_applyE _ _ _
    cases hl : lastU E.upd i with
    | some o => exact .inr (mem_idsU.2 ⟨o, lastU_mem hl⟩)
    | none =>
      rw [hget, hl] at hx
      have := pre_mem (E := E) hx
      left
      have ids : ∀ l : List (Nat × ABlk), (i, x) ∈ l → i ∈ idsP l := by
        intro l
        induction l with
        | nil => intro hm; cases hm
        | cons c l ih =>
          intro hm
          cases hm with
          | head => exact List.mem_cons_self
          | tail _ hm => exact List.mem_cons_of_mem _ (ih hm)
      exact ids _ this
  · cases hr
theorem idRen_m (b : Nat) : idRen.m b = b := by
  rw [m_hi (R := idRen) (Nat.zero_le b)]; show 0 + (b - 0) = b; omega
theorem id_bwd (ι : Emb) : Bwd idRen ι ι := fun i e p h => by rw [idRen_m] at h; exact h
theorem Entry.holds_of_run {E : Entry} {rec : Task → AHeap → Out} (hrec : RecS P rec) (hok : E.ok = true) (hr : E.ran (rec (.call E.f E.args) E.h0) = true) : E.Holds P := by
  refine ⟨hok, ?_⟩
  obtain ⟨v, h, ho, hn, hv, hb⟩ := ran_done hr
  obtain ⟨v', h', e, hc, he⟩ := hrec (.call E.f E.args) E.h0 _ ho (by simp)
  cases e
  have hcf := hc.cf he
  intro o ι w cargs r a next Q s ha hk
  refine hcf o ι w cargs r a next Q s ha fun u ι' w' hx s' f => ?_
  refine hk u ι' w' (mtV_bw (id_bwd ι') hv hx) ⟨?_, ?_, ?_, ?_, s'.glob⟩ ⟨f.le, f.size, f.keep, ?_, ?_, ?_, f.dom, f.os, f.output⟩
  · intro i x hx
    obtain ⟨y, hy, hm⟩ := hb i x hx
    obtain ⟨p, hp, hbr⟩ := s'.blk i y hy
    exact ⟨p, by rw [mtK_ep hm]; exact hp, mtK_bw (id_bwd ι') hm hbr⟩
  · intro i j x y p q hx hy hp hq he
    obtain ⟨x', hx', hm⟩ := hb i x hx
    obtain ⟨y', hy', hn⟩ := hb j y hy
    exact s'.inj i j x' y' p q hx' hy' (by rw [← mtK_ep hm]; exact hp) (by rw [← mtK_ep hn]; exact hq) he
  · intro i x e p hx hp
    obtain ⟨x', hx', hm⟩ := hb i x hx
    rw [mtK_ep hm]; exact s'.eps i x' e p hx' hp
  · intro i e p hp
    show i < E.nx
    rw [← hn]; exact s'.fresh i e p hp
  · rintro cb hcb ⟨i, x, p, hx, hp, he⟩
    obtain ⟨x', hx', hm⟩ := hb i x hx
    exact f.img cb hcb ⟨i, x', p, hx', by rw [← mtK_ep hm]; exact hp, he⟩
  · show E.n0 ≤ E.nx
    have := f.next
    rw [hn] at this; exact this
  · intro i x hx
    obtain ⟨x', hx', _⟩ := hb i x hx
    exact f.live i x' hx'
end Ab

namespace Ab
open Go
variable {P : Program}

/-- a function without a body, and what it answers -/
structure Ext where
  f : FuncId
  go : List AVal → Option AVal
def Ext.Holds (P : Program) (X : Ext) : Prop := ∀ args v h, X.go args = some v → CfS P X.f args h v h
theorem Ext.holds {X : Ext} {fn : Func} {e : Array Value → Sem Value} (hf : P.funcs[X.f]? = some fn) (hname : (fn.name == "runtime.NumGoroutine") = false)
    (hb : fn.body.isNone = true) (hn : Extern.findNext fn = none) (he : Extern.find fn = some e)
    (hg : ∀ args (cargs : Array Value) v (ι : Emb) (w : World), X.go args = some v → VRs ι args cargs.toList → ∃ u, (e cargs).run P w = .ok u w ∧ VR ι v u) : X.Holds P := by
  intro args v h hgo o ι w cargs r a next Q s ha hk
  obtain ⟨u, hu, hv⟩ := hg args cargs v ι w hgo ha
  rw [run_callFunc_extern hf hname hb hn he, hu]
  exact hk u ι w hv s (Fr.refl _ _ _)
def extL : List Ext → FuncId → List AVal → Option AVal
  | [], _, _ => none
  | X :: l, f, args => bif Nat.beq X.f f then X.go args else extL l f args
theorem extL_S : ∀ {l : List Ext}, (∀ X ∈ l, X.Holds P) → ∀ f args v h, extL l f args = some v → CfS P f args h v h
  | [], _, _, _, _, _, h => by cases h
  | X :: l, hl, f, args, v, h, ho => by
    simp only [extL] at ho
    cases hf : Nat.beq X.f f with
    | false => rw [hf] at ho; exact extL_S (fun E hE => hl E (List.mem_cons_of_mem _ hE)) f args v h ho
    | true => rw [hf] at ho; rw [beq_iff] at hf; subst hf; exact hl X List.mem_cons_self args v h ho
noncomputable def orcE (xs : List Ext) (ng : Nat) (es : List Entry) (f : FuncId) (args : List AVal) (h : AHeap) : Option (AVal × AHeap) :=
  match extL xs f args with
  | some v => some (v, h)
  | none => orcL ng es f args h
theorem orcE_S {xs : List Ext} {es : List Entry} {ng : Nat} (hng : P.globals.size = ng) (hx : ∀ X ∈ xs, X.Holds P) (he : ∀ E ∈ es, E.Holds P) : OrcS P (orcE xs ng es) := by
  intro f args h v h' ho
  unfold orcE at ho
  split at ho
  · rename_i u hu; cases ho; exact extL_S hx f args v h hu
  · subst hng; exact orcL_S he f args h v h' ho

/-- the program's law: what runs in it are the entries -/
theorem Entry.holds_of_ev {xs : List Ext} {es : List Entry} {ng : Nat} (hmix : P.follows .mixedOrders = true) (hno : noCount P = true) (hng : P.globals.size = ng)
    (hx : ∀ X ∈ xs, X.Holds P) (he : ∀ E ∈ es, E.Holds P) (n : Nat) (E : Entry) (hr : (E.ok && E.ran (ev P (orcE xs ng es) n (.call E.f E.args) E.h0)) = true) : E.Holds P := by
  simp only [Bool.and_eq_true] at hr
  exact Entry.holds_of_run (sound (orcE_S hng hx he) hmix hno n) hr.1 hr.2

def goBits : List AVal → Option AVal
  | [.float .f64 b] => some (.int .u64 (.ofNat b))
  | _ => none
theorem goBits_S (args : List AVal) (cargs : Array Value) (v : AVal) (ι : Emb) (w : World) (h : goBits args = some v) (ha : VRs ι args cargs.toList) :
    ∃ u, (Extern.MathFloatBits.float64bits cargs).run P w = .ok u w ∧ VR ι v u := by
  unfold goBits at h
  split at h
  · cases h
    obtain ⟨u, vs, e, h1, h2⟩ := VRs.cons_inv ha
    have h2 := VRs.nil_inv h2; subst h2
    obtain ⟨l⟩ := cargs
    simp only at e; subst e
    simp only [VR] at h1; subst h1
    exact ⟨_, rfl, by simp only [VR]; rfl⟩
  · cases h
def goFrom : List AVal → Option AVal
  | [.int .u64 (.ofNat b)] => some (.float .f64 b)
  | _ => none
theorem goFrom_S (args : List AVal) (cargs : Array Value) (v : AVal) (ι : Emb) (w : World) (h : goFrom args = some v) (ha : VRs ι args cargs.toList) :
    ∃ u, (Extern.MathFloatBits.float64frombits cargs).run P w = .ok u w ∧ VR ι v u := by
  unfold goFrom at h
  split at h
  · cases h
    obtain ⟨u, vs, e, h1, h2⟩ := VRs.cons_inv ha
    have h2 := VRs.nil_inv h2; subst h2
    obtain ⟨l⟩ := cargs
    simp only at e; subst e
    simp only [VR] at h1; subst h1
    exact ⟨_, rfl, by simp only [VR]; rfl⟩
  · cases h
def cmpF : List UInt8 → List UInt8 → Int
  | [], [] => .ofNat 0
  | [], _ :: _ => .negSucc 0
  | _ :: _, [] => .ofNat 1
  | a :: x, b :: y => bif Nat.blt a.toNat b.toNat then .negSucc 0 else bif Nat.blt b.toNat a.toNat then .ofNat 1 else cmpF x y
theorem cmpF_eq : ∀ x y, cmpF x y = Lib.compareBytes x y
  | [], [] => rfl
  | [], _ :: _ => rfl
  | _ :: _, [] => rfl
  | a :: x, b :: y => by
    simp only [cmpF, Lib.compareBytes, cmpF_eq x y]
    by_cases h : a < b
    · have : Nat.blt a.toNat b.toNat = true := blt_iff.2 (UInt8.lt_iff_toNat_lt.1 h)
      rw [this, if_pos h]; rfl
    · have : Nat.blt a.toNat b.toNat = false := by
        cases hb : Nat.blt a.toNat b.toNat with
        | false => rfl
        | true => exact absurd (UInt8.lt_iff_toNat_lt.2 (blt_iff.1 hb)) h
      rw [this, if_neg h]
      by_cases k : b < a
      · have : Nat.blt b.toNat a.toNat = true := blt_iff.2 (UInt8.lt_iff_toNat_lt.1 k)
        rw [this, if_pos k]; rfl
      · have : Nat.blt b.toNat a.toNat = false := by
          cases hb : Nat.blt b.toNat a.toNat with
          | false => rfl
          | true => exact absurd (UInt8.lt_iff_toNat_lt.2 (blt_iff.1 hb)) k
        rw [this, if_neg k]; rfl
def goCmp : List AVal → Option AVal
  | [.str a, .str b] => some (.int .i64 (cmpF a b))
  | _ => none
theorem goCmp_S (args : List AVal) (cargs : Array Value) (v : AVal) (ι : Emb) (w : World) (h : goCmp args = some v) (ha : VRs ι args cargs.toList) :
    ∃ u, (Extern.BytealgCompare.compare cargs).run P w = .ok u w ∧ VR ι v u := by
  unfold goCmp at h
  split at h
  · cases h
    obtain ⟨u, vs, e, h1, h2⟩ := VRs.cons_inv ha
    obtain ⟨u2, vs2, e2, h3, h4⟩ := VRs.cons_inv h2
    have h4 := VRs.nil_inv h4; subst h4; subst e2
    obtain ⟨l⟩ := cargs
    simp only at e; subst e
    simp only [VR] at h1 h3
    obtain ⟨b1, rfl, rfl⟩ := h1
    obtain ⟨b2, rfl, rfl⟩ := h3
    exact ⟨_, Lib.run_compareString b1 b2 w, by simp only [VR, cmpF_eq]⟩
  · cases h

def goSame : List AVal → Option AVal
  | [.ptr a] => some (.ptr a)
  | _ => none
theorem goSame_S (args : List AVal) (cargs : Array Value) (v : AVal) (ι : Emb) (w : World) (h : goSame args = some v) (ha : VRs ι args cargs.toList) :
    ∃ u, (Extern.AbiNoEscape.same cargs).run P w = .ok u w ∧ VR ι v u := by
  unfold goSame at h
  split at h
  · cases h
    obtain ⟨u, vs, e, h1, h2⟩ := VRs.cons_inv ha
    have h2 := VRs.nil_inv h2; subst h2
    obtain ⟨l⟩ := cargs
    simp only at e; subst e
    exact ⟨u, rfl, h1⟩
  · cases h

/-! short words for the entries' text -/
def pt (b e o : Nat) : AVal := .ptr (some ⟨b, e, o⟩)
def sl (b e o l c z : Nat) : AVal := .slice (some ⟨b, e, o⟩) l c z
noncomputable def ts (l : List AVal) : T AVal := T.setL l 0 .leaf
def bl : List Nat → List UInt8
  | [] => []
  | n :: l => UInt8.ofNat n :: bl l
end Ab

namespace Ab
open Go
variable {P : Program}

/-- the world, with more behind it -/
def More (w w' : World) : Prop := w'.os = w.os ∧ w'.output = w.output ∧ w.heap.size ≤ w'.heap.size ∧ ∀ i, i < w.heap.size → w'.heap[i]? = w.heap[i]?
theorem More.kept {w w' : World} (h : More w w') (may : MemPlace → Prop) : w.keptBut w' may := by
  refine ⟨h.1, h.2.1, fun i hi => ?_⟩
  rw [h.2.2.2 i hi]
  cases w.heap[i]? with
  | none => rfl
  | some o =>
    cases o with
    | cells c t fr => exact ⟨rfl, rfl, rfl, fun _ _ => rfl⟩
    | map es cl => exact .inr ⟨rfl, rfl⟩
    | _ => rfl
/-- nothing is known of the world but where the program's variables lie -/
theorem start_St (w : World) : St P (fun b e => if b < P.globals.size ∧ e = 0 then some ⟨b, 0⟩ else none) ⟨P.globals.size, .leaf⟩ w := by
  refine ⟨?_, ?_, ?_, ?_, ?_⟩
  · intro b x hx; simp at hx
  · intro b b' x x' p p' hx; simp at hx
  · intro b x e p hx; simp at hx
  · intro b e p hp
    by_cases h : b < P.globals.size ∧ e = 0
    · exact h.1
    · simp only [if_neg h] at hp; cases hp
  · intro g hg
    exact ⟨⟨g, 0⟩, by simp [hg], rfl⟩
theorem CallS.closed {f : FuncId} {v : AVal} {u : Value} {h' : AHeap} (hc : CallS P f [] ⟨P.globals.size, .leaf⟩ v h') (hu : ∀ ι u', VR ι v u' → u' = u) (w : World) :
    Calls P f #[] w fun e w' => e = .returned u ∧ More w w' := by
  have h := hc _ w #[] (start_St w) (by simp [VRs])
  refine callsIn_wide.1 (CallsIn.mono h ?_)
  rintro e w' ⟨u', ι', rfl, hv, _, hf⟩
  refine ⟨by rw [hu ι' u' hv], hf.os, hf.output, hf.size, fun i hi => hf.keep i hi ?_⟩
  rintro ⟨b, x, p, hx, _⟩
  simp at hx
/-- does a run come to true -/
def isTrue : Out → Bool
  | .done (.bool true) _ => true
  | _ => false
theorem walk_of_ev {xs : List Ext} {es : List Entry} {ng : Nat} (hmix : P.follows .mixedOrders = true) (hno : noCount P = true) (hng : P.globals.size = ng)
    (hx : ∀ X ∈ xs, X.Holds P) (he : ∀ E ∈ es, E.Holds P) (n : Nat) (f : FuncId) (hr : isTrue (ev P (orcE xs ng es) n (.call f []) ⟨ng, .leaf⟩) = true) (w : World) :
    Calls P f #[] w fun e w' => e = .returned (.bool true) ∧ More w w' := by
  subst hng
  have hs := sound (orcE_S rfl hx he) hmix hno n (.call f []) ⟨P.globals.size, .leaf⟩ _ rfl
  unfold isTrue at hr
  split at hr
  · rename_i h heq
    rw [heq] at hs
    obtain ⟨v, h', e, hc, _⟩ := hs (by simp)
    cases e
    exact hc.closed (fun ι u' hv => by simpa only [VR] using hv) w
  · cases hr
open Go.ChangeShapes Go.WideShapes Go.ChangeAt Go.RowKit
/-- a row's promise, of a function that leaves all as it was -/
theorem post_of_more {H : Type} {enc : TypeId × Value → H} {f : Func} {s : ChangeSpec} {apart fresh handsOn : Bool} {W W' : World} {args : Array Value} {v : Value} {ds gs : List (DataW H)} {before pa pv : List MemPlace}
    (hW : DataW.Whole enc P f.params.toList s.vars apart W args.toList ds gs before)
    (hres : ∀ (b : Nat) (sp : Nat → Bool) (hd : Bool), DataW.TrodAll enc P W' b sp hd f.resultTypes.toList (v.resultList f.resultTypes.size) (s.fn H (ds ++ gs)).results [])
    (hargs : ∀ sp : Nat → Bool, (∀ p ∈ before, sp p.block = true) → DataW.TrodAll enc P W' 0 sp true f.params.toList args.toList (s.fn H (ds ++ gs)).args pa)
    (hvars : ∀ sp : Nat → Bool, (∀ p ∈ before, sp p.block = true) → DataW.TrodVars enc P W' sp s.vars (s.fn H (ds ++ gs)).vars pv)
    (hps : before = pa ++ pv) (hk : More W W') : s.post enc P f apart fresh handsOn false W args v W' := by
  have hold : ∀ p ∈ before, (fun b => decide (b < W.heap.size)) p.block = true := fun p hp => by simpa using hW.lt p hp
  exact ⟨ds, gs, before, [], pa, pv, hW, hres _ _ _, hargs _ hold, hvars _ hold, hk.kept _, fun h => nomatch h⟩
end Ab

namespace Ab
open Go
/-- a new block, among others that the heap does not know -/
theorem St.add {P : Program} {ι : Emb} {h : AHeap} {w w' : World} (s : St P ι h w) {x : ABlk} {gb : Nat} (n : Nat) (hx : x.ep = 0)
    (hgb : w.heap.size ≤ gb) (hsize : w.heap.size ≤ w'.heap.size) (hold : ∀ cb, cb < w.heap.size → w'.heap[cb]? = w.heap[cb]?) (ho : w'.os = w.os) (hp : w'.output = w.output)
    (hb : BR P (ι.upd h.next 0 ⟨gb, n⟩) h.next x ⟨gb, n⟩ w') :
    St P (ι.upd h.next 0 ⟨gb, n⟩) (h.new x) w' ∧ Fr h ι w (h.new x) (ι.upd h.next 0 ⟨gb, n⟩) w' := by
  have hno : ∀ e, ι h.next e = none := fun e => s.none_fresh (Nat.le_refl _)
  have hle : ι.le (ι.upd h.next 0 ⟨gb, n⟩) := Emb.le_upd (hno 0)
  have hget : ∀ b y, (h.new x).t.get b = some y → (b = h.next ∧ y = x) ∨ (b ≠ h.next ∧ h.t.get b = some y) := by
    intro b y hy
    simp only [AHeap.new, get_set] at hy
    by_cases e : h.next = b
    · rw [if_pos e] at hy; cases hy; exact .inl ⟨e.symm, rfl⟩
    · rw [if_neg e] at hy; exact .inr ⟨fun e' => e e'.symm, hy⟩
  have hupd : ∀ b e, b ≠ h.next → ι.upd h.next 0 ⟨gb, n⟩ b e = ι b e := fun b e hne => Emb.upd_ne _ _ fun hh => hne hh.1
  have hfresh : ∀ b e p, ι.upd h.next 0 ⟨gb, n⟩ b e = some p → b < h.next + 1 := by
    intro b e p hq
    by_cases e' : b = h.next
    · omega
    · rw [hupd b e e'] at hq; have := s.fresh _ _ _ hq; omega
  refine ⟨⟨?_, ?_, ?_, hfresh, ?_⟩, ⟨hle, hsize, fun cb hc _ => hold cb hc, ?_, by simp [AHeap.new], ?_, ?_, ho, hp⟩⟩
  · intro b y hy
    rcases hget b y hy with ⟨e1, e2⟩ | ⟨e1, e2⟩
    · subst e1; subst e2; exact ⟨_, by rw [hx]; exact Emb.upd_self _ _ _ _, hb⟩
    · obtain ⟨p, hp, hbr⟩ := s.blk b y e2
      exact ⟨p, by rw [hupd b _ e1]; exact hp, hbr.mono hle (hold _ hbr.lt)⟩
  · intro b b' y y' p p' hy hy' hq hq' he
    have old : ∀ c z r, c ≠ h.next → h.t.get c = some z → ι.upd h.next 0 ⟨gb, n⟩ c z.ep = some r → r.cb < w.heap.size := by
      intro c z r hc hz hr
      rw [hupd c _ hc] at hr
      obtain ⟨r', hr', hbr⟩ := s.blk c z hz
      rw [hr'] at hr; cases hr; exact hbr.lt
    have new' : ∀ z r, z = x → ι.upd h.next 0 ⟨gb, n⟩ h.next z.ep = some r → r.cb = gb := by
      intro z r hz hr
      subst hz; rw [hx, Emb.upd_self] at hr; cases hr; rfl
    rcases hget b y hy with ⟨e1, e2⟩ | ⟨e1, e2⟩ <;> rcases hget b' y' hy' with ⟨f1, f2⟩ | ⟨f1, f2⟩
    · rw [e1, f1]
    · subst e1; have a := new' y p e2 hq; have b := old b' y' p' f1 f2 hq'; omega
    · subst f1; have a := new' y' p' f2 hq'; have b := old b y p e1 e2 hq; omega
    · rw [hupd b _ e1] at hq; rw [hupd b' _ f1] at hq'; exact s.inj b b' y y' p p' e2 f2 hq hq' he
  · intro b y e p hy hq
    rcases hget b y hy with ⟨e1, e2⟩ | ⟨e1, e2⟩
    · subst e1; subst e2
      by_cases e0 : e = 0
      · rw [e0]; exact Nat.zero_le _
      · rw [Emb.upd_ne _ _ (fun hh => e0 hh.2), hno e] at hq; cases hq
    · rw [hupd b e e1] at hq; exact s.eps b y e p e2 hq
  · intro g hg
    obtain ⟨p, hp, e⟩ := s.glob g hg
    exact ⟨p, hle _ _ _ hp, e⟩
  · intro cb hc ⟨b, y, p, hy, hq, he⟩
    rcases hget b y hy with ⟨e1, e2⟩ | ⟨e1, e2⟩
    · subst e1; subst e2; rw [hx, Emb.upd_self] at hq; cases hq; simp at he; omega
    · rw [hupd b _ e1] at hq; exact ⟨b, y, p, e2, hq, he⟩
  · intro b y hy
    rcases hget b y hy with ⟨e1, e2⟩ | ⟨e1, e2⟩
    · exact .inl (by omega)
    · exact .inr ⟨y, e2⟩
  · intro b e p hq
    by_cases e' : b = h.next
    · exact .inr (.inl (by omega))
    · rw [hupd b e e'] at hq; exact .inl hq

end Ab
