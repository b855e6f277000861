/- Plain facts on rows of numbers: sorted, without doubles. -/
import Derived.Lib.SlicesCompact
namespace Go.Pt
set_option linter.unusedVariables false

/-- In order, each once. -/
def sc (zs : List Int) : List Int := Lib.compact (zs.mergeSort fun x y => decide (x ≤ y))
theorem srt_perm (zs : List Int) : List.Perm (zs.mergeSort fun x y => decide (x ≤ y)) zs := List.mergeSort_perm zs _
theorem srt_sorted (zs : List Int) : (zs.mergeSort fun x y => decide (x ≤ y)).Pairwise (· ≤ ·) := by
  have := List.pairwise_mergeSort (le := fun x y : Int => decide (x ≤ y)) (fun a b c h1 h2 => by simp only [decide_eq_true_eq] at *; omega) (fun a b => by simp only [Bool.or_eq_true, decide_eq_true_eq]; omega) zs
  exact this.imp fun h => by simpa using h
theorem keeps_iff (ys : List Int) (j : Nat) (hj : j < ys.length) : Lib.keeps ys.toArray j = true ↔ j = 0 ∨ ys[j - 1]'(by omega) ≠ ys[j] := by
  unfold Lib.keeps
  by_cases h0 : j = 0
  · simp [h0]
  · have h1 : j - 1 < ys.length := by omega
    simp [h0, hj, h1]
    omega
theorem compact_mem {ys : List Int} (hs : ys.Pairwise (· ≤ ·)) (x : Int) : x ∈ Lib.compact ys ↔ x ∈ ys := by
  unfold Lib.compact Lib.compactUpTo
  simp only [List.mem_map, List.mem_filter, List.mem_range]
  constructor
  · rintro ⟨j, ⟨hj, _⟩, rfl⟩
    simp [hj]
  · intro hx
    obtain ⟨j, hj, rfl⟩ := List.mem_iff_getElem.1 hx
    have key : ∀ n j (hj : j < ys.length), j ≤ n → ∃ i, ∃ hi : i < ys.length, Lib.keeps ys.toArray i = true ∧ ys[i] = ys[j] := by
      intro n
      induction n with
      | zero => intro j hj h; exact ⟨j, hj, (keeps_iff ys j hj).2 (.inl (by omega)), rfl⟩
      | succ n ih =>
        intro j hj h
        by_cases hk : Lib.keeps ys.toArray j = true
        · exact ⟨j, hj, hk, rfl⟩
        · rw [keeps_iff ys j hj] at hk
          have h1 : j ≠ 0 := fun e => hk (.inl e)
          have h2 : ys[j - 1]'(by omega) = ys[j] := by
            by_cases e : ys[j - 1]'(by omega) = ys[j]
            · exact e
            · exact absurd (.inr e) hk
          obtain ⟨i, hi, hki, e⟩ := ih (j - 1) (by omega) (by omega)
          exact ⟨i, hi, hki, by rw [e, h2]⟩
    obtain ⟨i, hi, hk, e⟩ := key j j hj (Nat.le_refl _)
    exact ⟨i, ⟨hi, hk⟩, by simp [hi, e]⟩
theorem compact_lt {ys : List Int} (hs : ys.Pairwise (· ≤ ·)) : (Lib.compact ys).Pairwise (· < ·) := by
  unfold Lib.compact Lib.compactUpTo
  rw [List.pairwise_map]
  have hr : ((List.range ys.length).filter (Lib.keeps ys.toArray)).Pairwise (· < ·) := List.Pairwise.filter _ List.pairwise_lt_range
  refine List.Pairwise.imp_of_mem ?_ hr
  intro i j hi hj hij
  rw [List.mem_filter, List.mem_range] at hi hj
  have hle := List.pairwise_iff_getElem.1 hs
  have h1 := (keeps_iff ys j hj.1).1 hj.2
  have e1 : ys.toArray[i]! = ys[i]'hi.1 := by simp [hi.1]
  have e2 : ys.toArray[j]! = ys[j]'hj.1 := by simp [hj.1]
  rw [e1, e2]
  rcases h1 with h1 | h1
  · omega
  · have h2 := hle (j - 1) j (by omega) hj.1 (by omega)
    by_cases e : i = j - 1
    · subst e
      omega
    · have h3 := hle i (j - 1) hi.1 (by omega) (by omega)
      omega
theorem sc_mem (zs : List Int) (x : Int) : x ∈ sc zs ↔ x ∈ zs := by
  unfold sc
  rw [compact_mem (srt_sorted zs)]
  exact (srt_perm zs).mem_iff
theorem sc_lt (zs : List Int) : (sc zs).Pairwise (· < ·) := compact_lt (srt_sorted zs)
/-- Two rising rows of the same numbers are one. -/
theorem rise_ext : ∀ {xs ys : List Int}, xs.Pairwise (· < ·) → ys.Pairwise (· < ·) → (∀ x, x ∈ xs ↔ x ∈ ys) → xs = ys
  | [], [], _, _, _ => rfl
  | [], b :: ys, _, _, h => absurd ((h b).2 (by simp)) (by simp)
  | a :: xs, [], _, _, h => absurd ((h a).1 (by simp)) (by simp)
  | a :: xs, b :: ys, h1, h2, h => by
    rw [List.pairwise_cons] at h1 h2
    have e : a = b := by
      rcases List.mem_cons.1 ((h a).1 (by simp)) with e | e
      · exact e
      · have k1 := h2.1 a e
        rcases List.mem_cons.1 ((h b).2 (by simp)) with e' | e'
        · omega
        · have k2 := h1.1 b e'; omega
    subst e
    refine congrArg _ (rise_ext h1.2 h2.2 fun x => ?_)
    constructor
    · intro hx
      rcases List.mem_cons.1 ((h x).1 (by simp [hx])) with e | e
      · have := h1.1 x hx; omega
      · exact e
    · intro hx
      rcases List.mem_cons.1 ((h x).2 (by simp [hx])) with e | e
      · have := h2.1 x hx; omega
      · exact e
theorem compact_len (ys : List Int) : (Lib.compact ys).length ≤ ys.length := by
  unfold Lib.compact Lib.compactUpTo
  rw [List.length_map]
  exact Nat.le_trans (List.length_filter_le _ _) (by simp)
theorem sc_len (zs : List Int) : (sc zs).length ≤ zs.length := by
  unfold sc
  exact Nat.le_trans (compact_len _) (by rw [List.length_mergeSort]; exact Nat.le_refl _)
/-- A number put into a rising row. -/
def put (l : List Int) (n : Int) : List Int := if n ∈ l then l else l.takeWhile (· < n) ++ n :: l.dropWhile (· < n)
theorem put_mem (l : List Int) (n x : Int) : x ∈ put l n ↔ x = n ∨ x ∈ l := by
  unfold put
  split
  · rename_i h
    exact ⟨.inr, fun h' => by rcases h' with rfl | h'; exact h; exact h'⟩
  · rw [List.mem_append, List.mem_cons]
    have : x ∈ l ↔ x ∈ l.takeWhile (· < n) ∨ x ∈ l.dropWhile (· < n) := by
      rw [← List.mem_append, List.takeWhile_append_dropWhile]
    rw [this]
    constructor
    · rintro (h | h | h)
      · exact .inr (.inl h)
      · exact .inl h
      · exact .inr (.inr h)
    · rintro (h | h | h)
      · exact .inr (.inl h)
      · exact .inl h
      · exact .inr (.inr h)
theorem drop_ge {l : List Int} {n : Int} (hs : l.Pairwise (· < ·)) : ∀ x ∈ l.dropWhile (· < n), n ≤ x := by
  induction l with
  | nil => intro x hx; simp at hx
  | cons a l ih =>
    rw [List.pairwise_cons] at hs
    intro x hx
    rw [List.dropWhile_cons] at hx
    split at hx
    · exact ih hs.2 x hx
    · rename_i h
      simp only [decide_eq_true_eq] at h
      rcases List.mem_cons.1 hx with rfl | hx
      · omega
      · have := hs.1 x hx; omega
theorem take_lt {l : List Int} {n : Int} : ∀ x ∈ l.takeWhile (· < n), x < n := by
  induction l with
  | nil => intro x hx; simp at hx
  | cons a l ih =>
    intro x hx
    rw [List.takeWhile_cons] at hx
    split at hx
    · rename_i h
      rcases List.mem_cons.1 hx with rfl | hx
      · simpa using h
      · exact ih x hx
    · simp at hx
theorem put_lt {l : List Int} (n : Int) (hs : l.Pairwise (· < ·)) : (put l n).Pairwise (· < ·) := by
  unfold put
  split
  · exact hs
  · rename_i hn
    rw [List.pairwise_append, List.pairwise_cons]
    have h2 := drop_ge (n := n) hs
    have h3 : ∀ x ∈ l.dropWhile (· < n), n < x := fun x hx => by
      have := h2 x hx
      have hm : x ∈ l := (List.dropWhile_suffix _).subset hx
      have : x ≠ n := fun e => hn (e ▸ hm)
      omega
    refine ⟨List.Pairwise.sublist (List.takeWhile_prefix _).sublist hs, ⟨h3, List.Pairwise.sublist (List.dropWhile_suffix _).sublist hs⟩, fun a ha b hb => ?_⟩
    have h4 := take_lt a ha
    rcases List.mem_cons.1 hb with rfl | hb
    · exact h4
    · have := h3 b hb; omega
theorem put_len (l : List Int) (n : Int) : (put l n).length ≤ l.length + 1 := by
  unfold put
  split
  · omega
  · have : (l.takeWhile (· < n)).length + (l.dropWhile (· < n)).length = l.length := by rw [← List.length_append, List.takeWhile_append_dropWhile]
    rw [List.length_append, List.length_cons]; omega
/-- Numbers put in one by one: in order, each once. -/
theorem foldl_put (xs : List Int) : ∀ (l : List Int), l.Pairwise (· < ·) → (xs.foldl put l).Pairwise (· < ·) ∧ ∀ x, x ∈ xs.foldl put l ↔ x ∈ l ∨ x ∈ xs := by
  induction xs with
  | nil => intro l hl; exact ⟨hl, fun x => by simp⟩
  | cons a xs ih =>
    intro l hl
    obtain ⟨h1, h2⟩ := ih (put l a) (put_lt a hl)
    refine ⟨h1, fun x => ?_⟩
    rw [List.foldl_cons, h2, put_mem, List.mem_cons]
    constructor
    · rintro ((h | h) | h)
      · exact .inr (.inl h)
      · exact .inl h
      · exact .inr (.inr h)
    · rintro (h | h | h)
      · exact .inl (.inr h)
      · exact .inl (.inl h)
      · exact .inr h
theorem puts_sc (xs : List Int) : xs.foldl put [] = sc xs := by
  have := foldl_put xs [] List.Pairwise.nil
  exact rise_ext this.1 (sc_lt xs) fun x => by rw [this.2, sc_mem]; simp
end Go.Pt
