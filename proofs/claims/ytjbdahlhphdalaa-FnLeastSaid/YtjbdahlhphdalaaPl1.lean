/- Plain law: ultimately periodic words and their least lassos. -/
import Derived.Test.YtjbdahlhphdalaaLa4
namespace Go.Proofs.Ytjbdahlhphdalaa
open Go Go.Sep

/-- The word has the period p from t on. -/
def Per (s l : List Int) (t p : Nat) : Prop := ∀ k, t ≤ k → letAt s l (k + p) = letAt s l k

theorem letAt_loop {s l : List Int} {k : Nat} (h : s.length ≤ k) : letAt s l k = l.getD ((k - s.length) % l.length) 0 := by
  simp [letAt, show ¬ k < s.length by omega]
theorem per_self (s l : List Int) : Per s l s.length l.length := by
  intro k hk
  rw [letAt_loop (by omega), letAt_loop hk, show k + l.length - s.length = (k - s.length) + l.length by omega, Nat.add_mod_right]
theorem Per.mul {s l : List Int} {t p : Nat} (h : Per s l t p) (c : Nat) : Per s l t (p * c) := by
  induction c with
  | zero => intro k _; rfl
  | succ c ih => intro k hk; rw [Nat.mul_succ, ← Nat.add_assoc, h _ (by omega), ih k hk]
theorem Per.later {s l : List Int} {t t' p : Nat} (h : Per s l t p) (ht : t ≤ t') : Per s l t' p := fun k hk => h k (by omega)

theorem firstN_get {s l : List Int} {k n i : Nat} (h : i < n) : (firstN s l k n).getD i 0 = letAt s l (k + i) := by
  simp [firstN, List.getD, h]
theorem firstN_eq {s l s' l' : List Int} {k n k' : Nat} : firstN s l k n = firstN s' l' k' n ↔ ∀ i, i < n → letAt s l (k + i) = letAt s' l' (k' + i) := by
  constructor
  · intro h i hi
    rw [← firstN_get hi, ← firstN_get hi, h]
  · intro h
    unfold firstN
    apply List.map_congr_left
    intro i hi
    exact h i (List.mem_range.1 hi)

/-- The lasso of so many letters, and then of so many letters again and again. -/
theorem letAt_lasso {s l : List Int} {t p k : Nat} : letAt (firstN s l 0 t) (firstN s l t p) k = if k < t then letAt s l k else if 0 < p then letAt s l (t + (k - t) % p) else 0 := by
  by_cases h : k < t
  · rw [if_pos h]
    simp only [letAt, firstN_len, h, if_true]
    have := firstN_get (s := s) (l := l) (k := 0) (n := t) h
    rw [this]; simp [letAt]
  · rw [if_neg h]
    rw [letAt_loop (by rw [firstN_len]; omega), firstN_len, firstN_len]
    by_cases hp : 0 < p
    · rw [if_pos hp, firstN_get (Nat.mod_lt _ hp)]
    · rw [if_neg hp]
      have : p = 0 := by omega
      subst this; simp [firstN]

/-- So many letters tell whether two words are the same. -/
theorem words_same {s l s' l' : List Int} {n : Nat} (hs : s.length ≤ 24) (hl : 1 ≤ l.length) (hl2 : l.length ≤ 24) (hs' : s'.length ≤ 24) (hl' : 1 ≤ l'.length) (hl2' : l'.length ≤ 24) (hn : 600 ≤ n) :
    sameW n s l s' l' = true ↔ ∀ k, letAt s l k = letAt s' l' k := by
  unfold sameW
  rw [decide_eq_true_eq, firstN_eq]
  constructor
  · intro h
    have key : ∀ N k, k < N → letAt s l k = letAt s' l' k := by
      intro N
      induction N with
      | zero => intro k hk; omega
      | succ N ih =>
        intro k hk
        by_cases hkn : k < 600
        · have := h k (by omega); simpa using this
        · have hm1 : 1 ≤ l.length * l'.length := Nat.mul_pos hl hl'
          have hm2 : l.length * l'.length ≤ 24 * 24 := Nat.mul_le_mul hl2 hl2'
          have e1 := (per_self s l).mul l'.length (k - l.length * l'.length) (by omega)
          have e2 := (per_self s' l').mul l.length (k - l.length * l'.length) (by omega)
          rw [Nat.mul_comm l'.length l.length] at e2
          rw [show k - l.length * l'.length + l.length * l'.length = k by omega] at e1 e2
          rw [e1, e2]; exact ih _ (by omega)
    exact fun k => key (k + 1) k (by omega)
  · intro h i _; simpa using h i

theorem lasso_same {s l : List Int} {t p n : Nat} (hs : s.length ≤ 24) (hl : 1 ≤ l.length) (hl2 : l.length ≤ 24) (ht : t ≤ 24) (hp : 1 ≤ p) (hp2 : p ≤ 24) (hn : 600 ≤ n) :
    sameW n (firstN s l 0 t) (firstN s l t p) s l = true ↔ Per s l t p := by
  rw [words_same (by rw [firstN_len]; exact ht) (by rw [firstN_len]; exact hp) (by rw [firstN_len]; exact hp2) hs hl hl2 hn]
  constructor
  · intro h k hk
    have hp0 : 0 < p := hp
    rw [← h (k + p), ← h k, letAt_lasso, letAt_lasso, if_neg (show ¬ k + p < t by omega), if_neg (show ¬ k < t by omega), if_pos hp0, if_pos hp0, show k + p - t = k - t + p by omega, Nat.add_mod_right]
  · intro h k
    rw [letAt_lasso]
    by_cases hk : k < t
    · rw [if_pos hk]
    · rw [if_neg hk, if_pos (show 0 < p from hp)]
      have := h.mul ((k - t) / p) (t + (k - t) % p) (by omega)
      rw [← this]
      congr 1
      have := Nat.div_add_mod (k - t) p
      omega

structure IsLeast (s l : List Int) (t p : Nat) : Prop where
  pos : 1 ≤ p
  le : t ≤ s.length
  per : Per s l t p
  minP : ∀ t' p', 1 ≤ p' → t' ≤ s.length → Per s l t' p' → p ≤ p'
  minT : ∀ t', t' ≤ s.length → Per s l t' p → t ≤ t'
theorem IsLeast.len {s l : List Int} {t p : Nat} (h : IsLeast s l t p) (hl : 1 ≤ l.length) : p ≤ l.length := h.minP s.length l.length hl (Nat.le_refl _) (per_self s l)
theorem IsLeast.uniq {s l : List Int} {t p t' p' : Nat} (h : IsLeast s l t p) (h' : IsLeast s l t' p') : t = t' ∧ p = p' := by
  have e : p = p' := Nat.le_antisymm (h.minP _ _ h'.pos h'.le h'.per) (h'.minP _ _ h.pos h.le h.per)
  subst e
  exact ⟨Nat.le_antisymm (h.minT _ h'.le h'.per) (h'.minT _ h.le h.per), rfl⟩

/-- A least period divides the loop's length. -/
theorem least_dvd {s l : List Int} {p : Nat} (hp : 1 ≤ p) (h : Per s l s.length p) (hm : ∀ p', 1 ≤ p' → Per s l s.length p' → p ≤ p') : l.length % p = 0 := by
  by_cases h0 : l.length % p = 0
  · exact h0
  · exfalso
    have h1 : Per s l s.length (l.length % p) := by
      intro k hk
      have e1 := h.mul (l.length / p) (k + l.length % p) (by omega)
      rw [← e1, show k + l.length % p + p * (l.length / p) = k + l.length by have := Nat.div_add_mod l.length p; omega]
      exact per_self s l k hk
    have := hm _ (by omega) h1
    have := Nat.mod_lt l.length (show 0 < p by omega)
    omega

theorem drop_take_iff {l : List Int} {p : Nat} (hp : p ≤ l.length) : l.drop p = l.take (l.length - p) ↔ ∀ i, i + p < l.length → l.getD (i + p) 0 = l.getD i 0 := by
  constructor
  · intro h i hi
    have h1 : (l.drop p)[i]? = l[i + p]? := by rw [List.getElem?_drop, Nat.add_comm]
    have h2 : (l.take (l.length - p))[i]? = l[i]? := by rw [List.getElem?_take, if_pos (by omega)]
    simp only [List.getD]; rw [← h1, ← h2, h]
  · intro h
    apply List.ext_getElem?
    intro i
    rw [List.getElem?_drop, List.getElem?_take]
    by_cases hi : i + p < l.length
    · rw [if_pos (by omega)]
      have := h i hi
      simp only [List.getD, List.getElem?_eq_getElem hi, List.getElem?_eq_getElem (show i < l.length by omega), Option.getD_some] at this
      rw [show p + i = i + p by omega, List.getElem?_eq_getElem hi, List.getElem?_eq_getElem (show i < l.length by omega), this]
    · rw [if_neg (by omega), List.getElem?_eq_none (by omega)]

theorem loop_per {s l : List Int} {p : Nat} (hp : 1 ≤ p) (hpl : p ≤ l.length) (hd : l.length % p = 0) : l.drop p = l.take (l.length - p) ↔ Per s l s.length p := by
  rw [drop_take_iff hpl]
  have hdp := Nat.div_add_mod l.length p
  constructor
  · intro h
    have up : ∀ c j, j + p * c < l.length → l.getD (j + p * c) 0 = l.getD j 0 := by
      intro c
      induction c with
      | zero => intro j _; rfl
      | succ c ih =>
        intro j hj
        rw [Nat.mul_succ] at hj ⊢
        rw [show j + (p * c + p) = (j + p * c) + p by omega, h _ (by omega), ih j (by omega)]
    intro k hk
    rw [letAt_loop (by omega), letAt_loop hk, show k + p - s.length = (k - s.length) + p by omega]
    generalize k - s.length = m
    have hm : m % l.length < l.length := Nat.mod_lt _ (by omega)
    rw [← Nat.mod_add_mod]
    generalize m % l.length = i at hm ⊢
    by_cases hi : i + p < l.length
    · rw [Nat.mod_eq_of_lt hi]; exact h i hi
    · have e : (i + p) % l.length = i + p - l.length := by
        rw [Nat.mod_eq_sub_mod (by omega), Nat.mod_eq_of_lt (by omega)]
      rw [e]
      have h2 : 1 ≤ l.length / p := by
        apply Nat.div_pos hpl (by omega)
      have h3 : p * (l.length / p - 1) = l.length - p := by
        rw [Nat.mul_sub, Nat.mul_one]; omega
      have := up (l.length / p - 1) (i + p - l.length) (by rw [h3]; omega)
      rw [h3, show i + p - l.length + (l.length - p) = i by omega] at this
      exact this.symm
  · intro h i hi
    have := h (s.length + i) (by omega)
    rw [letAt_loop (by omega), letAt_loop (by omega), show s.length + i + p - s.length = i + p by omega, show s.length + i - s.length = i by omega, Nat.mod_eq_of_lt hi, Nat.mod_eq_of_lt (by omega)] at this
    exact this
end Go.Proofs.Ytjbdahlhphdalaa
