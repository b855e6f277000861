/- Plain facts: the product of two automata. -/
import Derived.Test.YtfbaijpanbjmpaaSs4
import Derived.Test.YtfbaijpanbjmpaaMa6
namespace Go.Proofs.Ytfbaijpanbjmpaa
open Go Go.Sep Go.Pt
set_option linter.unusedVariables false

/-! ### Pairs -/
def prs (us bs : List Int) (m : Int) : List Int := us.flatMap fun i => bs.map fun j => i * m + j
theorem prs_succ (us bs : List Int) (m : Int) {i : Nat} (h : i < us.length) : prs (us.take (i + 1)) bs m = prs (us.take i) bs m ++ bs.map fun j => us.getD i default * m + j := by
  unfold prs
  rw [take_succ_snoc h, List.flatMap_append]
  simp
theorem prs_len (us bs : List Int) (m : Int) : (prs us bs m).length = us.length * bs.length := by
  induction us with
  | nil => simp [prs]
  | cons a us ih => rw [prs, List.flatMap_cons, List.length_append, List.length_map]; rw [prs] at ih; rw [ih, List.length_cons, Nat.add_mul, Nat.one_mul, Nat.add_comm]
theorem prs_mem {us bs : List Int} {m x : Int} : x ∈ prs us bs m ↔ ∃ i ∈ us, ∃ j ∈ bs, i * m + j = x := by
  simp only [prs, List.mem_flatMap, List.mem_map]
theorem lex_lt {m i i' j j' : Int} (hi : i < i') (hj : 0 ≤ j ∧ j < m) (hj' : 0 ≤ j' ∧ j' < m) : i * m + j < i' * m + j' := by
  have : (i + 1) * m ≤ i' * m := Int.mul_le_mul_of_nonneg_right (by omega) (by omega)
  rw [Int.add_mul, Int.one_mul] at this
  omega
theorem prs_lt {us bs : List Int} {m : Int} (ha : us.Pairwise (· < ·)) (hb : bs.Pairwise (· < ·)) (hm : ∀ j ∈ bs, 0 ≤ j ∧ j < m) : (prs us bs m).Pairwise (· < ·) := by
  unfold prs
  rw [List.pairwise_flatMap]
  refine ⟨fun i hi => ?_, List.Pairwise.imp (fun h x hx y hy => ?_) ha⟩
  · rw [List.pairwise_map]
    exact hb.imp fun h => by omega
  · obtain ⟨j, hj, rfl⟩ := List.mem_map.1 hx
    obtain ⟨j', hj', rfl⟩ := List.mem_map.1 hy
    exact lex_lt h (hm _ hj) (hm _ hj')
theorem lex_div {m i j : Int} (hj : 0 ≤ j ∧ j < m) : (i * m + j) / m = i ∧ (i * m + j) % m = j := by
  have hm : m ≠ 0 := by omega
  rw [Int.add_comm, Int.mul_comm]
  exact ⟨by rw [Int.add_mul_ediv_left _ _ hm, Int.ediv_eq_zero_of_lt hj.1 hj.2, Int.zero_add], by rw [Int.add_mul_emod_self_left, Int.emod_eq_of_lt hj.1 hj.2]⟩
theorem lex_bd {m n i j : Int} (hi : 0 ≤ i ∧ i < n) (hj : 0 ≤ j ∧ j < m) : 0 ≤ i * m + j ∧ i * m + j < n * m := by
  have h1 : 0 ≤ i * m := Int.mul_nonneg hi.1 (by omega)
  have : (i + 1) * m ≤ n * m := Int.mul_le_mul_of_nonneg_right (by omega) (by omega)
  rw [Int.add_mul, Int.one_mul] at this
  omega

/-! ### Edges -/
def mkE (m : Int) (e f : Ed) : Ed := ⟨e.src * m + f.src, e.lt, e.dst * m + f.dst⟩
def bRow (m : Int) (e : Ed) (bs : List Ed) : List Ed := (bs.filter fun f => decide (e.lt = f.lt)).map (mkE m e)
def bE (m : Int) (us bs : List Ed) : List Ed := us.flatMap fun e => bRow m e bs
theorem bRow_succ (m : Int) (e : Ed) (bs : List Ed) {j : Nat} (h : j < bs.length) : bRow m e (bs.take (j + 1)) = if e.lt = (bs.getD j default).lt then bRow m e (bs.take j) ++ [mkE m e (bs.getD j default)] else bRow m e (bs.take j) := by
  unfold bRow
  rw [take_succ_snoc h, List.filter_append, List.map_append]
  generalize bs.getD j default = y
  by_cases hc : e.lt = y.lt <;> simp [hc]
theorem bE_succ (m : Int) (us bs : List Ed) {i : Nat} (h : i < us.length) : bE m (us.take (i + 1)) bs = bE m (us.take i) bs ++ bRow m (us.getD i default) bs := by
  unfold bE
  rw [take_succ_snoc h, List.flatMap_append]
  simp
theorem bRow_len (m : Int) (e : Ed) (bs : List Ed) : (bRow m e bs).length ≤ bs.length := by
  unfold bRow; rw [List.length_map]; exact List.length_filter_le _ _
theorem bE_len (m : Int) (us bs : List Ed) : (bE m us bs).length ≤ us.length * bs.length := by
  induction us with
  | nil => simp [bE]
  | cons a us ih =>
    rw [bE, List.flatMap_cons, List.length_append, List.length_cons, Nat.add_mul, Nat.one_mul]
    rw [bE] at ih
    have := bRow_len m a bs
    omega
/-- Where a state leads with a letter. -/
def stp (n : Int) (es : List Ed) (s l : Int) : List Int := (below n.toNat).filter fun t => es.any fun e => decide (e.lt = l) && (decide (e.src = s) && decide (e.dst = t))
theorem below_lt (n : Nat) : (below n).Pairwise (· < ·) := by
  unfold below
  rw [List.pairwise_map]
  exact List.pairwise_lt_range.imp fun h => Int.ofNat_lt.2 h
theorem below_mem {n : Nat} {x : Int} : x ∈ below n ↔ 0 ≤ x ∧ x < n := by
  unfold below
  rw [List.mem_map]
  exact ⟨fun ⟨k, hk, e⟩ => by rw [List.mem_range] at hk; omega, fun h => ⟨x.toNat, List.mem_range.2 (by omega), by omega⟩⟩
theorem stp_lt (n : Int) (es : List Ed) (s l : Int) : (stp n es s l).Pairwise (· < ·) := (below_lt _).filter _
theorem stp_mem {n : Int} {es : List Ed} {s l t : Int} : t ∈ stp n es s l ↔ (0 ≤ t ∧ t < n) ∧ ∃ e ∈ es, e.lt = l ∧ e.src = s ∧ e.dst = t := by
  unfold stp
  rw [List.mem_filter, below_mem, List.any_eq_true]
  simp only [Bool.and_eq_true, decide_eq_true_eq]
  constructor
  · rintro ⟨h1, h2⟩; exact ⟨⟨h1.1, by omega⟩, h2⟩
  · rintro ⟨h1, h2⟩; exact ⟨⟨h1.1, by omega⟩, h2⟩
theorem stp_len (n : Int) (es : List Ed) (s l : Int) : (stp n es s l).length ≤ n.toNat := by
  unfold stp
  have := List.length_filter_le (fun t => es.any fun e => decide (e.lt = l) && (decide (e.src = s) && decide (e.dst = t))) (below n.toNat)
  rwa [below_len] at this
def sCell (a b : Au) (k l : Nat) : List Int := prs (stp a.states a.edges ((k : Int) / b.states) l) (stp b.states b.edges ((k : Int) % b.states) l) b.states
def sRow (a b : Au) (k l : Nat) : List Ed := (List.range l).flatMap fun (i : Nat) => (sCell a b k i).map fun t => ⟨k, i, t⟩
def sAll (a b : Au) (k : Nat) : List Ed := (List.range k).flatMap fun i => sRow a b i 8
theorem sRow_succ (a b : Au) (k l : Nat) : sRow a b k (l + 1) = sRow a b k l ++ (sCell a b k l).map fun t => ⟨k, l, t⟩ := by simp [sRow, List.range_succ, List.flatMap_append]
theorem sAll_succ (a b : Au) (k : Nat) : sAll a b (k + 1) = sAll a b k ++ sRow a b k 8 := by simp [sAll, List.range_succ, List.flatMap_append]
theorem sCell_len (a b : Au) (k l : Nat) : (sCell a b k l).length ≤ a.states.toNat * b.states.toNat := by
  rw [sCell, prs_len]
  exact Nat.mul_le_mul (stp_len ..) (stp_len ..)
theorem sRow_len (a b : Au) (k l : Nat) : (sRow a b k l).length ≤ l * (a.states.toNat * b.states.toNat) := by
  induction l with
  | zero => simp [sRow]
  | succ l ih =>
    rw [sRow_succ, List.length_append, List.length_map, Nat.add_mul, Nat.one_mul]
    have := sCell_len a b k l
    omega
theorem sAll_len (a b : Au) (k : Nat) : (sAll a b k).length ≤ k * (8 * (a.states.toNat * b.states.toNat)) := by
  induction k with
  | zero => simp [sAll]
  | succ k ih =>
    rw [sAll_succ, List.length_append, Nat.add_mul, Nat.one_mul]
    have := sRow_len a b k 8
    omega
theorem sAll_lt (a b : Au) (n : Nat) : (sAll a b n).Pairwise (fun a b => edLt a b = true) := by
  unfold sAll
  rw [List.pairwise_flatMap]
  refine ⟨fun k hk => ?_, List.Pairwise.imp (fun h x hx y hy => ?_) List.pairwise_lt_range⟩
  · unfold sRow
    rw [List.pairwise_flatMap]
    refine ⟨fun l hl => ?_, List.Pairwise.imp (fun h x hx y hy => ?_) List.pairwise_lt_range⟩
    · rw [List.pairwise_map]
      refine List.Pairwise.imp (fun h => ?_) (prs_lt (m := b.states) (stp_lt ..) (stp_lt ..) fun j hj => (stp_mem.1 hj).1)
      rw [edLt_iff]; exact .inr ⟨rfl, .inr ⟨rfl, h⟩⟩
    · obtain ⟨t1, _, rfl⟩ := List.mem_map.1 hx
      obtain ⟨t2, _, rfl⟩ := List.mem_map.1 hy
      rw [edLt_iff]; exact .inr ⟨rfl, .inl (Int.ofNat_lt.2 h)⟩
  · obtain ⟨l1, _, hx⟩ := List.mem_flatMap.1 hx
    obtain ⟨l2, _, hy⟩ := List.mem_flatMap.1 hy
    obtain ⟨t1, _, rfl⟩ := List.mem_map.1 hx
    obtain ⟨t2, _, rfl⟩ := List.mem_map.1 hy
    rw [edLt_iff]; exact .inl (Int.ofNat_lt.2 h)
theorem sAll_mem {a b : Au} {n : Nat} (e : Ed) : e ∈ sAll a b n ↔ ∃ k l : Nat, k < n ∧ l < 8 ∧ ∃ t ∈ sCell a b k l, e = ⟨k, l, t⟩ := by
  simp only [sAll, sRow, List.mem_flatMap, List.mem_map, List.mem_range]
  constructor
  · rintro ⟨k, hk, l, hl, t, ht, rfl⟩; exact ⟨k, l, hk, hl, t, ht, rfl⟩
  · rintro ⟨k, l, hk, hl, t, ht, rfl⟩; exact ⟨k, hk, l, hl, t, ht, rfl⟩
theorem ed_nd {es : List Ed} (h : es.Pairwise (fun a b => edLt a b = true)) : es.Pairwise (· ≠ ·) := h.imp fun h e => by subst e; have := (edLt_iff _ _).1 h; omega
theorem bE_nd {n m : Int} {us bs : List Ed} (ha : edsOk n us = true) (hb : edsOk m bs = true) (hm : ∀ f ∈ bs, edIn m f = true) : (bE m us bs).Nodup := by
  unfold bE List.Nodup
  have inj : ∀ e e' f f', f ∈ bs → f' ∈ bs → mkE m e f = mkE m e' f' → e.src = e'.src ∧ f.src = f'.src ∧ e.lt = e'.lt ∧ e.dst = e'.dst ∧ f.dst = f'.dst := by
    intro e e' f f' hf hf' h
    have h1 := hm f hf
    have h2 := hm f' hf'
    simp only [edIn, Bool.and_eq_true, decide_eq_true_eq] at h1 h2
    simp only [mkE, Ed.mk.injEq] at h
    have d1 := lex_div (i := e.src) h1.1
    have d2 := lex_div (i := e'.src) h2.1
    have d3 := lex_div (i := e.dst) h1.2.1
    have d4 := lex_div (i := e'.dst) h2.2.1
    rw [h.1] at d1
    rw [h.2.2] at d3
    exact ⟨d1.1.symm.trans d2.1, d1.2.symm.trans d2.2, h.2.1, d3.1.symm.trans d4.1, d3.2.symm.trans d4.2⟩
  rw [List.pairwise_flatMap]
  refine ⟨fun e he => ?_, List.Pairwise.imp (fun {a1 a2} h x hx y hy exy => ?_) (ed_nd (edsOk_pw ha))⟩
  · unfold bRow
    rw [List.pairwise_map]
    have hp : (bs.filter fun f => decide (e.lt = f.lt)).Pairwise (· ≠ ·) := (ed_nd (edsOk_pw hb)).filter _
    refine List.Pairwise.imp_of_mem (fun {x y} hx hy h e1 => h ?_) hp
    obtain ⟨hx1, hx2⟩ := List.mem_filter.1 hx
    obtain ⟨hy1, hy2⟩ := List.mem_filter.1 hy
    rw [decide_eq_true_eq] at hx2 hy2
    obtain ⟨_, i2, _, _, i5⟩ := inj _ _ _ _ hx1 hy1 e1
    cases x; cases y
    simp only [Ed.mk.injEq] at *
    omega
  · subst exy
    obtain ⟨f, hf, rfl⟩ := List.mem_map.1 hx
    obtain ⟨f', hf', e1⟩ := List.mem_map.1 hy
    obtain ⟨i1, _, i3, i4, _⟩ := inj _ _ _ _ (List.mem_filter.1 hf').1 (List.mem_filter.1 hf).1 e1
    apply h
    cases a1; cases a2
    simp only [Ed.mk.injEq] at *
    omega
theorem srt_bE {a b : Au} (ha : goodA a = true) (hb : goodA b = true) : srtE (bE b.states a.edges b.edges) = sAll a b (a.states * b.states).toNat := by
  have ga := good_facts ha
  have gb := good_facts hb
  simp only [goodA, Bool.and_eq_true] at ha hb
  have ia := ga.ei
  have ib := gb.ei
  refine srtE_ext (bE_nd ha.2.2.2.2 hb.2.2.2.2 ib) (sAll_lt ..) fun e => ?_
  rw [sAll_mem]
  simp only [bE, bRow, List.mem_flatMap, List.mem_map, List.mem_filter, decide_eq_true_eq]
  constructor
  · rintro ⟨x, hx, y, ⟨hy, hxy⟩, rfl⟩
    have h1 := ia x hx
    have h2 := ib y hy
    simp only [edIn, Bool.and_eq_true, decide_eq_true_eq] at h1 h2
    have bd := lex_bd h1.1 h2.1
    have dv := lex_div (i := x.src) h2.1
    refine ⟨(x.src * b.states + y.src).toNat, x.lt.toNat, by omega, by omega, x.dst * b.states + y.dst, ?_, ?_⟩
    · rw [sCell, prs_mem]
      rw [Int.toNat_of_nonneg bd.1, Int.toNat_of_nonneg h1.2.2.1, dv.1, dv.2]
      exact ⟨x.dst, stp_mem.2 ⟨h1.2.1, x, hx, rfl, rfl, rfl⟩, y.dst, stp_mem.2 ⟨h2.2.1, y, hy, hxy.symm, rfl, rfl⟩, rfl⟩
    · rw [Int.toNat_of_nonneg bd.1, Int.toNat_of_nonneg h1.2.2.1]; rfl
  · rintro ⟨k, l, hk, hl, t, ht, rfl⟩
    rw [sCell, prs_mem] at ht
    obtain ⟨i, hi, j, hj, rfl⟩ := ht
    obtain ⟨_, x, hx, x1, x2, x3⟩ := stp_mem.1 hi
    obtain ⟨_, y, hy, y1, y2, y3⟩ := stp_mem.1 hj
    refine ⟨x, hx, y, ⟨hy, by omega⟩, ?_⟩
    simp only [mkE, Ed.mk.injEq]
    refine ⟨?_, x1, by rw [x3, y3]⟩
    rw [x2, y2, Int.mul_comm]
    exact Int.mul_ediv_add_emod _ _
end Go.Proofs.Ytfbaijpanbjmpaa
