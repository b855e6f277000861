/- Sorted edges; a row of edges sorted in place among things. -/
import Derived.Test.YtfbaijpanbjmpaaSs3
import Derived.Test.YtfbaijpanbjmpaaMb0
import Derived.Test.YtfbaijpanbjmpaaMg0
namespace Go.Proofs.Ytfbaijpanbjmpaa
open Go Go.Sep Go.Pt
set_option linter.unusedVariables false
attribute [local irreducible] CallT

theorem srtE_ext {xs ys : List Ed} (hn : xs.Nodup) (hs : ys.Pairwise (fun a b => edLt a b = true)) (hm : ∀ e, e ∈ xs ↔ e ∈ ys) : srtE xs = ys := by
  have hny : ys.Nodup := hs.imp fun h e => by subst e; have := (edLt_iff _ _).1 h; omega
  have hp : (srtE xs).Perm ys := (List.mergeSort_perm xs _).trans ((List.perm_ext_iff_of_nodup hn hny).2 hm)
  have h1 : (srtE xs).Pairwise (fun a b => (!edLt b a) = true) := List.pairwise_mergeSort (le := fun x y => !edLt y x) (fun a b c h1 h2 => by
    simp only [Bool.not_eq_true', edLt_iff'] at *; omega) (fun a b => by
    rw [Bool.or_eq_true]; simp only [Bool.not_eq_true', edLt_iff']; omega) xs
  have h2 : ys.Pairwise (fun a b => (!edLt b a) = true) := hs.imp fun h => by
    rw [edLt_iff] at h; rw [Bool.not_eq_true', edLt_iff']; omega
  refine hp.eq_of_pairwise (fun a b _ _ h1 h2 => ?_) h1 h2
  rw [Bool.not_eq_true'] at h1 h2
  exact cfE_tot _ _ (by rw [cfE_lt]; exact h2) (by rw [cfE_lt]; exact h1)
theorem edsOk_of {n : Int} {es : List Ed} (hs : es.Pairwise (fun a b => edLt a b = true)) (hi : ∀ e ∈ es, edIn n e = true) : edsOk n es = true := by
  unfold edsOk
  rw [List.all_eq_true]
  intro i hi'
  rw [List.mem_range] at hi'
  unfold edAt
  rw [Bool.and_eq_true, Bool.or_eq_true, decide_eq_true_eq]
  refine ⟨getD_all (p := fun e => edIn n e = true) hi hi', ?_⟩
  by_cases h0 : i = 0
  · exact .inl h0
  · right
    rw [getD_lt hi', getD_lt (show i - 1 < es.length by omega)]
    exact List.pairwise_iff_getElem.1 hs (i - 1) i (by omega) hi' (by omega)
theorem rising_of {l : List Int} {n : Int} (hs : l.Pairwise (· < ·)) (hb : ∀ x ∈ l, 0 ≤ x ∧ x < n) : rising l n = true := by
  unfold rising
  rw [List.all_eq_true]
  intro i hi
  rw [List.mem_range] at hi
  have h1 := getD_all (p := fun x => 0 ≤ x ∧ x < n) (d := default) hb hi
  unfold riseAt
  simp only [Bool.and_eq_true, Bool.or_eq_true, decide_eq_true_eq]
  refine ⟨h1, ?_⟩
  by_cases h0 : i = 0
  · exact .inl h0
  · right
    rw [getD_lt hi, getD_lt (show i - 1 < l.length by omega)]
    exact List.pairwise_iff_getElem.1 hs (i - 1) i (by omega) hi (by omega)

theorem edsOk_pw {n : Int} {es : List Ed} (h : edsOk n es = true) : es.Pairwise (fun a b => edLt a b = true) := by
  unfold edsOk at h
  rw [List.all_eq_true] at h
  have key : ∀ d i, i + d + 1 < es.length → edLt (es.getD i default) (es.getD (i + d + 1) default) = true := by
    intro d
    induction d with
    | zero =>
      intro i hi
      have h1 := h (i + 1) (List.mem_range.2 (by omega))
      unfold edAt at h1
      rw [Bool.and_eq_true, Bool.or_eq_true, decide_eq_true_eq] at h1
      rcases h1.2 with h2 | h2
      · omega
      · exact h2
    | succ d ih =>
      intro i hi
      have h1 := ih i (by omega)
      have h2 := h (i + (d + 1) + 1) (List.mem_range.2 hi)
      unfold edAt at h2
      rw [Bool.and_eq_true, Bool.or_eq_true, decide_eq_true_eq] at h2
      rcases h2.2 with h3 | h3
      · omega
      · rw [show i + (d + 1) + 1 - 1 = i + d + 1 by omega] at h3
        rw [edLt_iff] at *
        omega
  rw [List.pairwise_iff_getElem]
  intro i j hi hj hij
  have := key (j - i - 1) i (by omega)
  rw [show i + (j - i - 1) + 1 = j by omega, getD_lt hi, getD_lt hj] at this
  exact this
theorem rz_appE9 {H G : Heap} {Ts : List Th} {z : Nat} {x : AV} {xs ys : List Ed} {D : List Nat} (s : St H Ts G) (i : Nat) (hi : Ts[i]? = some (reT z x xs D)) (hl : xs.length + ys.length ≤ 1000000000) {K : AV → Heap → Prop}
    (h : ∀ q' G', G q' = none → St H (Ts.set i (reT z (rowE q' (xs ++ ys)) (xs ++ ys) [q'])) G' → K (rowE q' (xs ++ ys)) G') : appendV tab 28 28 x (Es ys) G (wkK K) :=
  RZ.app (bz := 24) tab_28 rfl tab_61 tab_28 rfl rfl rfl (fun _ => rfl) s i hi rfl (by omega) (by omega) h
/-- A row of edges is sorted in place. -/
theorem rz_sortE {H G : Heap} {Ts : List Th} {z : Nat} {x : AV} {xs : List Ed} {D : List Nat} (s : St H Ts G) (i : Nat) (hi : Ts[i]? = some (reT z x xs D)) (hl : xs.length ≤ 1000000000) {K : AV → Heap → Prop}
    (h : ∀ G', St H (Ts.set i (reT z x (srtE xs) D)) G' → K (.tup []) G') : CallT Try.prog 100 [x, .fn 83 []] G K := by
  have hrz : RZ (LPl eE) 3 z x xs G D := s.get i hi
  have he := srtE_len xs
  rcases hrz with ⟨rfl, rfl, rfl, hz⟩ | ⟨q, cs, D', rfl, hq, hll, rfl⟩
  · refine SF_nil (h G ?_)
    have : srtE [] = [] := List.eq_nil_of_length_eq_zero he
    rw [this]
    have e : Ts.set i (reT z (.p .nil) [] [z]) = Ts := by
      obtain ⟨h1, h2⟩ := List.getElem?_eq_some_iff.1 hi
      rw [← h2]; exact List.set_getElem_self h1
    rw [e]; exact s
  · obtain ⟨rfl, rfl⟩ := LL.plain' hll
    refine SF_row hq (by omega) (h _ ?_)
    refine s.upd i hi (reT z (.sl q 3 0 xs.length) (srtE xs) [q]) rfl (fun y hy => Heap.set_other (fun e => hy (by simp [rzT, e]))) (.inr ?_)
    refine ⟨q, _, [], by rw [he], Heap.set_same _ _ _, LL.plain _, rfl⟩
/-! ### Guesses -/
/-- The guesses below a number for which something holds. -/
def gw (n : Nat) (p : Nat → Bool) : List Int := ((List.range n).filter p).map fun (g : Nat) => (g : Int)
theorem gw_zero (p : Nat → Bool) : gw 0 p = [] := rfl
theorem gw_succ (n : Nat) (p : Nat → Bool) : gw (n + 1) p = if p n = true then gw n p ++ [(n : Int)] else gw n p := by
  unfold gw
  rw [List.range_succ, List.filter_append, List.map_append]
  by_cases h : p n = true
  · simp [h]
  · simp [h]
theorem gw_len (n : Nat) (p : Nat → Bool) : (gw n p).length ≤ n := by
  unfold gw
  rw [List.length_map]
  have := List.length_filter_le p (List.range n)
  rwa [List.length_range] at this
theorem gw_rising (n : Nat) (p : Nat → Bool) : rising (gw n p) n = true := by
  refine rising_of ?_ fun x hx => ?_
  · unfold gw
    rw [List.pairwise_map]
    exact (List.pairwise_lt_range.filter p).imp fun h => by omega
  · obtain ⟨g, hg, rfl⟩ := List.mem_map.1 hx
    have := List.mem_range.1 (List.mem_filter.1 hg).1
    omega
end Go.Proofs.Ytfbaijpanbjmpaa
