/- Sep, part 19: regions that draw their order, done. -/
import Derived.Test.YthlbkcgnacemgaaSep18
namespace Go.Sep
open Go Go.RowKit

def passesN (l : DOps) (i j : Nat) : Bool := (opAt l i).nh && indep (opAt l i) (opAt l j)

theorem bubbleN {P : Program} {tab : Tab} {l : DOps} {Q : List AV → Heap → Prop} {j : Nat} {post : Canon} (hj : (opAt l j).nh = true) : ∀ (pre : List Nat) (env : List AV) (H : Heap),
    (∀ i ∈ pre, passesN l i j = true) → vcS P tab l Q (pre.map (fun i => (i, [])) ++ (j, []) :: post) env H →
      stV P tab (opAt l j) env H fun v H' => vcS P tab l Q (pre.map (fun i => (i, [])) ++ post) (setD env (opAt l j).d v) H' := by
  intro pre
  induction pre with
  | nil => intro env H _ h; exact stV_mono (fun v H' hh => hh.2) h
  | cons a pre ih =>
    intro env H hp h
    have ha := hp a (by simp)
    simp only [passesN, Bool.and_eq_true, indep] at ha
    obtain ⟨hnh, ⟨hi1, hi2⟩, hi3⟩ := ha
    obtain ⟨S, u0, hlin⟩ := stV_lin (P := P) (tab := tab) hnh env H
    have h' : stV P tab (opAt l a) env H (fun v H' => (∀ b ∈ ([] : List Nat), stV P tab (opAt l b) (setD env (opAt l a).d v) H' fun u _ => Keeps (setD env (opAt l a).d v) (opAt l b).d u) ∧
        vcS P tab l Q (pre.map (fun i => (i, [])) ++ (j, []) :: post) (setD env (opAt l a).d v) H') := h
    obtain ⟨hS, _, hv⟩ := (hlin _).1 h'
    have hst := ih (setD env (opAt l a).d u0) H (fun i hi => hp i (by simp [hi])) hv
    rw [stV_congr (env' := env) (fun t ht => setD_getD_ne fun s hs => dstNot_ok hi1 s t hs ht)] at hst
    obtain ⟨S', u', hlj⟩ := stV_lin (P := P) (tab := tab) hj env H
    obtain ⟨hS', hq⟩ := (hlj _).1 hst
    refine (hlj _).2 ⟨hS', ?_⟩
    show stV P tab (opAt l a) (setD env (opAt l j).d u') H _
    rw [stV_congr (env' := env) (fun t ht => setD_getD_ne fun s hs => dstNot_ok hi2 s t hs ht)]
    refine (hlin _).2 ⟨hS, fun b hb => by simp at hb, ?_⟩
    rw [setD_comm (by cases h1 : (opAt l a).d <;> cases h2 : (opAt l j).d <;> simp_all [dstNe]; exact fun e => hi3 e.symm)]
    exact hq

/-- i, which stands before the rest, may be done behind whatever of it does not wait for i. -/
def pass1 (tab : Tab) (l : DOps) (i : Nat) (pi : List Nat) (j : Nat) (ps mid : List Nat) : Bool := if isAl tab (opAt l j) then passesA tab l i pi j else if (opAt l j).nh then passesN l i j else passes l i j ps mid
def goodH (tab : Tab) (l : DOps) (A : List (List Nat)) (i : Nat) (pi : List Nat) : List Nat → Canon → Bool
  | _, [] => true
  | mid, (j, ps) :: rest => ((A.getD j []).contains i || pass1 tab l i pi j ps mid) && goodH tab l A i pi (mid ++ [j]) rest
def good (tab : Tab) (l : DOps) (A : List (List Nat)) : Canon → Bool
  | [] => true
  | (i, ps) :: rest => goodH tab l A i ps [] rest && (!(opAt l i).nh || ps.isEmpty) && good tab l A rest

theorem passes_mid {l : DOps} {i j : Nat} {ps mid mid' : List Nat} (hm : ∀ k ∈ mid', k ∈ mid) (h : passes l i j ps mid = true) : passes l i j ps mid' = true := by
  simp only [passes, Bool.and_eq_true, Bool.or_eq_true, List.all_eq_true] at *
  refine ⟨h.1, ?_⟩
  rcases h.2 with h2 | ⟨⟨⟨h2, h3⟩, h4⟩, h5⟩
  · exact .inl h2
  · exact .inr ⟨⟨⟨h2, h3⟩, fun k hk => h4 k (hm k hk)⟩, fun k hk => h5 k (hm k hk)⟩

theorem goodH_sub {tab : Tab} {l : DOps} {A : List (List Nat)} {i : Nat} {pi : List Nat} {c c' : Canon} (hs : c'.Sublist c) : ∀ {mid mid' : List Nat}, (∀ k ∈ mid', k ∈ mid) → goodH tab l A i pi mid c = true → goodH tab l A i pi mid' c' = true := by
  induction hs with
  | slnil => intro mid mid' _ _; rfl
  | cons a _ ih =>
    intro mid mid' hm h
    obtain ⟨j, ps⟩ := a
    simp only [goodH, Bool.and_eq_true] at h
    exact ih (fun k hk => by simp [hm k hk]) h.2
  | cons_cons a _ ih =>
    intro mid mid' hm h
    obtain ⟨j, ps⟩ := a
    simp only [goodH, Bool.and_eq_true, Bool.or_eq_true] at h ⊢
    refine ⟨?_, ih (fun k hk => by
      simp only [List.mem_append, List.mem_singleton] at hk ⊢
      rcases hk with hk | hk
      · exact .inl (hm k hk)
      · exact .inr hk) h.2⟩
    rcases h.1 with h1 | h1
    · exact .inl h1
    · refine .inr ?_
      unfold pass1 at *
      split
      · rename_i hn; rw [if_pos hn] at h1; exact h1
      · rename_i hn; rw [if_neg hn] at h1
        split
        · rename_i hn; rw [if_pos hn] at h1; exact h1
        · rename_i hn; rw [if_neg hn] at h1; exact passes_mid hm h1

theorem good_sub {tab : Tab} {l : DOps} {A : List (List Nat)} {c c' : Canon} (hs : c'.Sublist c) : good tab l A c = true → good tab l A c' = true := by
  induction hs with
  | slnil => intro _; rfl
  | cons a _ ih =>
    intro h
    obtain ⟨j, ps⟩ := a
    simp only [good, Bool.and_eq_true] at h
    exact ih h.2
  | cons_cons a hs ih =>
    intro h
    obtain ⟨j, ps⟩ := a
    simp only [good, Bool.and_eq_true] at h ⊢
    exact ⟨⟨goodH_sub hs (fun _ hk => hk) h.1.1, h.1.2⟩, ih h.2⟩

/-- What 'good' says of one that stands before j. -/
theorem good_at {tab : Tab} {l : DOps} {A : List (List Nat)} {j : Nat} {ps : List Nat} {post : Canon} : ∀ (p : Canon) (i : Nat) (pi : List Nat) (q : Canon), good tab l A (p ++ (i, pi) :: q ++ (j, ps) :: post) = true → (A.getD j []).contains i = false →
    pass1 tab l i pi j ps (q.map (·.1)) = true ∧ ((opAt l i).nh = true → pi = []) := by
  intro p
  induction p with
  | cons a p ih =>
    intro i pi q h hA
    obtain ⟨k, pk⟩ := a
    simp only [List.cons_append, good, Bool.and_eq_true] at h
    exact ih i pi q h.2 hA
  | nil =>
    intro i pi q h hA
    simp only [List.nil_append, List.cons_append, good, Bool.and_eq_true] at h
    refine ⟨?_, fun hn => by have := h.1.2; simp only [hn, Bool.not_true, Bool.false_or, List.isEmpty_iff] at this; exact this⟩
    have key : ∀ (q : Canon) (mid : List Nat), goodH tab l A i pi mid (q ++ (j, ps) :: post) = true → pass1 tab l i pi j ps (mid ++ q.map (·.1)) = true := by
      intro q
      induction q with
      | nil =>
        intro mid hg
        simp only [List.nil_append, goodH, Bool.and_eq_true, Bool.or_eq_true, hA, Bool.false_eq_true, false_or] at hg
        simpa using hg.1
      | cons b q ihq =>
        intro mid hg
        obtain ⟨k, pk⟩ := b
        simp only [List.cons_append, goodH, Bool.and_eq_true] at hg
        have := ihq _ hg.2
        simpa using this
    have := key q [] h.1.1
    simpa using this

end Go.Sep
