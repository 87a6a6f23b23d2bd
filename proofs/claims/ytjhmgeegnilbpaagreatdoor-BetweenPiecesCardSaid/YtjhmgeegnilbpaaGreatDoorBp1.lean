/- Proves, with no program in sight, that the cuts of a period, sorted and made single, give the pieces that going from end to end gives, for every list of instants and every period. -/
import Derived.Lib.SlicesCompact
set_option linter.all false
namespace Go.Proofs.Bp
open Go.Lib

def next (ends : List Int) (a to : Int) : Int := ends.foldl (fun t e => if a < e ∧ e < t then e else t) to
theorem next_spec (a : Int) : ∀ (ends : List Int) (to : Int), a < to → a < next ends a to ∧ next ends a to ≤ to ∧ (next ends a to = to ∨ next ends a to ∈ ends) ∧ ∀ e ∈ ends, a < e → next ends a to ≤ e
  | [], to, h => ⟨h, Int.le_refl _, .inl rfl, fun e he => by simp at he⟩
  | x :: l, to, h => by
    have e : next (x :: l) a to = next l a (if a < x ∧ x < to then x else to) := rfl
    rw [e]
    by_cases hx : a < x ∧ x < to
    · rw [if_pos hx]
      obtain ⟨h1, h2, h3, h4⟩ := next_spec a l x hx.1
      refine ⟨h1, by omega, ?_, ?_⟩
      · rcases h3 with h3 | h3
        · exact .inr (by rw [h3]; exact List.mem_cons_self)
        · exact .inr (List.mem_cons_of_mem _ h3)
      · intro y hy hay
        rcases List.mem_cons.1 hy with rfl | hy
        · exact h2
        · exact h4 y hy hay
    · rw [if_neg hx]
      obtain ⟨h1, h2, h3, h4⟩ := next_spec a l to h
      refine ⟨h1, h2, h3.imp id (List.mem_cons_of_mem _), ?_⟩
      intro y hy hay
      rcases List.mem_cons.1 hy with rfl | hy
      · have : ¬ y < to := fun h => hx ⟨hay, h⟩
        omega
      · exact h4 y hy hay
theorem next_take (ends : List Int) (a to : Int) (i : Nat) (h : i < ends.length) : next (ends.take (i + 1)) a to = if a < ends[i]! ∧ ends[i]! < next (ends.take i) a to then ends[i]! else next (ends.take i) a to := by
  have e : ends.take (i + 1) = ends.take i ++ [ends[i]!] := by
    rw [List.take_succ_eq_append_getElem h, getElem!_pos ends i h]
  rw [e]
  unfold next
  rw [List.foldl_append]
  rfl

def refP (ends : List Int) (T : Int) : Nat → Int → List (Int × Int)
  | 0, _ => []
  | n + 1, a => if a < T then (a, next ends a T) :: refP ends T n (next ends a T) else []
theorem refP_fuel (ends : List Int) (T : Int) : ∀ (n m : Nat) (a : Int), (T - a).toNat ≤ n → (T - a).toNat ≤ m → refP ends T n a = refP ends T m a
  | 0, 0, a, _, _ => rfl
  | 0, m + 1, a, h, _ => by
    have : ¬ a < T := by omega
    simp [refP, this]
  | n + 1, 0, a, _, h => by
    have : ¬ a < T := by omega
    simp [refP, this]
  | n + 1, m + 1, a, h1, h2 => by
    by_cases h : a < T
    · have hn := (next_spec a ends T h).1
      simp only [refP, if_pos h]
      rw [refP_fuel ends T n m _ (by omega) (by omega)]
    · simp [refP, h]
def refF (ends : List Int) (T a : Int) : List (Int × Int) := refP ends T (T - a).toNat a
theorem refF_step (ends : List Int) (T a : Int) (h : a < T) : refF ends T a = (a, next ends a T) :: refF ends T (next ends a T) := by
  have hn := (next_spec a ends T h).1
  obtain ⟨n, hk⟩ : ∃ n, (T - a).toNat = n + 1 := ⟨(T - a).toNat - 1, by omega⟩
  unfold refF
  rw [hk]
  simp only [refP, if_pos h]
  rw [refP_fuel ends T n (T - next ends a T).toNat _ (by omega) (Nat.le_refl _)]
theorem refF_end (ends : List Int) (T a : Int) (h : ¬ a < T) : refF ends T a = [] := by
  unfold refF
  cases (T - a).toNat with
  | zero => rfl
  | succ n => simp [refP, h]

def pairs : List Int → List (Int × Int)
  | [] => []
  | [_] => []
  | a :: b :: r => (a, b) :: pairs (b :: r)
theorem pairs_length : ∀ L : List Int, (pairs L).length = L.length - 1
  | [] => rfl
  | [_] => rfl
  | a :: b :: r => by simp [pairs, pairs_length (b :: r)]
theorem pairs_get : ∀ (L : List Int) (i : Nat), i + 1 < L.length → (pairs L)[i]? = some (L[i]!, L[i + 1]!)
  | [], i, h => by simp at h
  | [_], i, h => by simp at h
  | a :: b :: r, 0, _ => by simp [pairs]
  | a :: b :: r, i + 1, h => by
    have := pairs_get (b :: r) i (by simpa using h)
    simp only [pairs, List.getElem?_cons_succ]
    rw [this]
    simp
theorem pairs_take_succ (L : List Int) (i : Nat) (h : i + 1 < L.length) : (pairs L).take (i + 1) = (pairs L).take i ++ [(L[i]!, L[i + 1]!)] := by
  have hl := pairs_length L
  rw [List.take_succ, pairs_get L i h]
  rfl
theorem refF_pairs (ends : List Int) (T : Int) : ∀ (L : List Int) (a : Int), (a :: L).Pairwise (· < ·) → (∀ x, x ∈ L ↔ (x = T ∨ x ∈ ends) ∧ a < x ∧ x ≤ T) → refF ends T a = pairs (a :: L)
  | [], a, _, hm => by
    have h : ¬ a < T := fun h => by
      have := (hm T).2 ⟨.inl rfl, h, Int.le_refl _⟩
      simp at this
    rw [refF_end _ _ _ h]; rfl
  | b :: r, a, hp, hm => by
    have hb := (hm b).1 List.mem_cons_self
    have h : a < T := by omega
    obtain ⟨h1, h2, h3, h4⟩ := next_spec a ends T h
    have hp' := List.pairwise_cons.1 hp
    have hp2 := List.pairwise_cons.1 hp'.2
    have hnb : next ends a T = b := by
      have hmem := (hm (next ends a T)).2 ⟨h3, h1, h2⟩
      have hle : next ends a T ≤ b := by
        rcases hb.1 with h5 | h5
        · omega
        · exact h4 b h5 hb.2.1
      rcases List.mem_cons.1 hmem with h5 | h5
      · exact h5
      · have := hp2.1 _ h5; omega
    rw [refF_step _ _ _ h, hnb, refF_pairs ends T r b hp'.2 (fun x => ?_)]
    · rfl
    · constructor
      · intro hx
        have := (hm x).1 (List.mem_cons_of_mem _ hx)
        exact ⟨this.1, hp2.1 x hx, this.2.2⟩
      · rintro ⟨h5, h6, h7⟩
        rcases List.mem_cons.1 ((hm x).2 ⟨h5, by omega, h7⟩) with h8 | h8
        · omega
        · exact h8

theorem compact_sorted (d : Array Int) (hs : ∀ i j, i ≤ j → j < d.size → d[i]! ≤ d[j]!) : ∀ m, m ≤ d.size → (compactUpTo d m).Pairwise (· < ·) ∧ ∀ x, x ∈ compactUpTo d m ↔ ∃ j, j < m ∧ d[j]! = x
  | 0, _ => ⟨by simp [compactUpTo], fun x => by simp [compactUpTo]⟩
  | m + 1, hm => by
    obtain ⟨h1, h2⟩ := compact_sorted d hs m (by omega)
    rw [compactUpTo_succ]
    have hk : keeps d m = true ↔ (m = 0 ∨ d[m]! ≠ d[m - 1]!) := by simp [keeps]
    by_cases h : keeps d m = true
    · rw [if_pos h]
      refine ⟨List.pairwise_append.2 ⟨h1, by simp, fun a ha b hb => ?_⟩, fun x => ?_⟩
      · obtain ⟨j, hj, rfl⟩ := (h2 a).1 ha
        simp at hb; subst hb
        rcases hk.1 h with h0 | h0
        · omega
        · have a1 := hs j (m - 1) (by omega) (by omega)
          have a2 := hs (m - 1) m (by omega) (by omega)
          omega
      · rw [List.mem_append, h2 x]
        constructor
        · rintro (⟨j, hj, e⟩ | hx)
          · exact ⟨j, by omega, e⟩
          · simp at hx; exact ⟨m, by omega, hx.symm⟩
        · rintro ⟨j, hj, e⟩
          by_cases hjm : j = m
          · subst hjm; exact .inr (by simp [e])
          · exact .inl ⟨j, by omega, e⟩
    · rw [if_neg h, List.append_nil]
      have h0 : m ≠ 0 ∧ d[m]! = d[m - 1]! := by
        refine ⟨fun h5 => h (hk.2 (.inl h5)), ?_⟩
        by_cases h6 : d[m]! = d[m - 1]!
        · exact h6
        · exact absurd (hk.2 (.inr h6)) h
      refine ⟨h1, fun x => ?_⟩
      rw [h2 x]
      constructor
      · rintro ⟨j, hj, e⟩; exact ⟨j, by omega, e⟩
      · rintro ⟨j, hj, e⟩
        by_cases hjm : j = m
        · subst hjm; exact ⟨j - 1, by omega, by rw [← h0.2]; exact e⟩
        · exact ⟨j, by omega, e⟩

def inside (F T : Int) (ends : List Int) : List Int := ends.filter fun t => !(decide (t ≤ F) || decide (T ≤ t))
def cuts (F T : Int) (ends : List Int) : List Int := (inside F T ends ++ [F, T]).mergeSort fun x y => decide (x ≤ y)
def comp (F T : Int) (ends : List Int) : List Int := compactUpTo (cuts F T ends).toArray (cuts F T ends).length
theorem mem_cuts (F T : Int) (ends : List Int) (x : Int) : x ∈ cuts F T ends ↔ (x ∈ ends ∧ F < x ∧ x < T) ∨ x = F ∨ x = T := by
  unfold cuts inside
  rw [(List.mergeSort_perm _ _).mem_iff, List.mem_append, List.mem_filter]
  simp
theorem length_cuts (F T : Int) (ends : List Int) : (cuts F T ends).length ≤ ends.length + 2 := by
  unfold cuts inside
  have := List.length_filter_le (fun t : Int => !(decide (t ≤ F) || decide (T ≤ t))) ends
  simp only [List.length_mergeSort, List.length_append, List.length_cons, List.length_nil]
  omega
theorem sorted_cuts (F T : Int) (ends : List Int) : ∀ i j, i ≤ j → j < (cuts F T ends).toArray.size → (cuts F T ends).toArray[i]! ≤ (cuts F T ends).toArray[j]! := by
  have hp : (cuts F T ends).Pairwise fun x y => decide (x ≤ y) = true := by
    unfold cuts
    exact List.pairwise_mergeSort (fun a b c h1 h2 => by simp at h1 h2 ⊢; omega) (fun a b => by simp; omega) _
  intro i j hij hj
  have hj' : j < (cuts F T ends).length := by simpa using hj
  have e : ∀ k, k < (cuts F T ends).length → (cuts F T ends).toArray[k]! = (cuts F T ends)[k]! := fun k hk => by simp [hk]
  rw [e i (by omega), e j hj', getElem!_pos _ i (by omega), getElem!_pos _ j hj']
  by_cases h : i = j
  · subst h; exact Int.le_refl _
  · have := List.pairwise_iff_getElem.1 hp i j (by omega) hj' (by omega)
    simpa using this
theorem comp_spec (F T : Int) (ends : List Int) : (comp F T ends).Pairwise (· < ·) ∧ ∀ x, x ∈ comp F T ends ↔ (x ∈ ends ∧ F < x ∧ x < T) ∨ x = F ∨ x = T := by
  obtain ⟨h1, h2⟩ := compact_sorted _ (sorted_cuts F T ends) (cuts F T ends).length (by simp)
  refine ⟨h1, fun x => ?_⟩
  unfold comp
  rw [h2 x, ← mem_cuts]
  constructor
  · rintro ⟨j, hj, rfl⟩
    simp only [List.getElem!_toArray]
    rw [getElem!_pos _ j hj]
    exact List.getElem_mem _
  · intro hx
    obtain ⟨j, hj, rfl⟩ := List.getElem_of_mem hx
    exact ⟨j, hj, by simp [hj]⟩
theorem length_comp (F T : Int) (ends : List Int) : (comp F T ends).length ≤ ends.length + 2 := by
  unfold comp compactUpTo
  have := List.length_filter_le (keeps (cuts F T ends).toArray) (List.range (cuts F T ends).length)
  simp only [List.length_map]
  have h2 := length_cuts F T ends
  simp only [List.length_range] at this
  omega
/-- what the program's cuts come to is what the reference's rounds come to -/
theorem law (F T : Int) (ends : List Int) (h : F < T) : refF ends T F = pairs (comp F T ends) := by
  obtain ⟨h1, h2⟩ := comp_spec F T ends
  cases hc : comp F T ends with
  | nil =>
    have := (h2 F).2 (.inr (.inl rfl))
    rw [hc] at this; simp at this
  | cons a L =>
    rw [hc] at h1 h2
    have hp := List.pairwise_cons.1 h1
    have ha : a = F := by
      have hF := (h2 F).2 (.inr (.inl rfl))
      have hA := (h2 a).1 List.mem_cons_self
      rcases List.mem_cons.1 hF with e | e
      · exact e.symm
      · have := hp.1 _ e
        omega
    subst ha
    refine refF_pairs ends T L a h1 fun x => ?_
    constructor
    · intro hx
      have := hp.1 x hx
      have h5 := (h2 x).1 (List.mem_cons_of_mem _ hx)
      rcases h5 with h5 | h5 | h5
      · exact ⟨.inr h5.1, this, by omega⟩
      · omega
      · exact ⟨.inl h5, this, by omega⟩
    · rintro ⟨h5, h6, h7⟩
      have : x ∈ a :: L := (h2 x).2 (by
        rcases h5 with h5 | h5
        · exact .inr (.inr h5)
        · by_cases h8 : x = T
          · exact .inr (.inr h8)
          · exact .inl ⟨h5, h6, by omega⟩)
      rcases List.mem_cons.1 this with e | e
      · omega
      · exact e
end Go.Proofs.Bp
