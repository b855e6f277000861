/- The row of the law that IsRun answers as the reference does: whatever the arguments, it answers true, and what it is told reads as it did. -/
import Derived.Test.YtgcklgeifdefhaaGreatLp9
import Derived.Test.YtgcklgeifdefhaaGreatRows
import Derived.WalkKit
import Derived.ProofKit
import Derived.OpenShut
/- Specs: numbers of states, what a command does, successors: in the program and in the reference. -/
namespace Go.Proofs.YtgcklgeifdefhaaGreat
open Go Go.Sep Go.Pt
set_option linter.unusedSimpArgs false
set_option linter.unusedVariables false
attribute [local irreducible] CallT

theorem app_topW {q : Nat} {xs ys : List Nat} {G : Heap} {K : AV → Heap → Prop} (hq : G q = none) (hl : xs.length + ys.length ≤ 1000000) (h : ∀ q', G q' = none → K (rowP q' (xs ++ ys)) (G.set q' (cP fW (xs ++ ys)))) :
    appendV tab 116 116 (rowP q xs) (Ws ys) (G.set q (cP fW xs)) (wkK K) := by
  refine app_row (f := fW) tab_116 rfl tab_153 rfl (by decide) (Heap.set_same _ _ _) (by omega) fun q' hq' => ?_
  have hne : q' ≠ q := by rintro rfl; rw [Heap.set_same] at hq'; cases hq'
  rw [Heap.set_other hne] at hq'
  rw [Heap.del_set hq]
  exact h q' hq'
theorem lit0W {G : Heap} {K : AV → Heap → Prop} (h : ∀ q, G q = none → K (rowP q ([] : List Nat)) (G.set q (cP fW []))) : buildSliceV tab 116 0 [] G (wkK K) := by
  simp only [buildSliceV, tab_116, tab_153]
  refine ⟨by omega, ?_⟩
  simp only [fillV, zerosA, List.replicate_zero, List.flatten_nil]
  exact fun r hr => wkK.keep (h r hr)
theorem CloneW_row (xs : List Nat) (hl : xs.length ≤ 100000) {H : Heap} {K : AV → Heap → Prop} (h : ∀ q, H q = none → K (rowP q xs) (H.set q (cP fW xs))) : CallT Tryz.prog 182 [Ws xs] H K := by
  refine CallT.fin ?_
  refine CallT.ghost W182_hb fun q0 hq0 => ?_
  refine W182_ok ?_; simp (maxSteps := 1000000) (disch := first | assumption | (apply Ne.symm; assumption)) only [W182, vz, vu, vv, eqS, eqFieldsV, ↓condV_t, ↓condV_f, tabs, reduceCtorEq, Array.toList, ↓reduceIte, Nat.reduceAdd, Nat.reduceLeDiff, Nat.reduceLT, Nat.reduceMul, Nat.reduceSub, Int.reduceToNat, Int.reduceSub, Int.reduceAdd, Int.reduceNeg]
  have main : buildSliceV tab 116 0 [] (H.set q0 []) (wkK fun v5 H1 => appendV tab 116 116 v5 (Ws xs) H1 (wkK fun v7 H2 => wkK K v7 H2)) := by
    refine lit0W fun q1 hq1 => ?_
    refine app_topW (xs := []) (ys := xs) hq1 (by simp; omega) fun q2 hq2 => ?_
    rw [Heap.set_none] at hq2
    rw [List.nil_append]
    refine fin_le ?_ (h q2 hq2.2)
    generalize cP fW xs = z
    have := hq2.2
    have := hq2.1
    (intro y b hy; simp only [Heap.set, Heap.del] at hy ⊢; (repeat' split at hy) <;> (repeat' split) <;> simp_all [cells])
  refine ⟨fun h0 => ⟨?_, main⟩, fun _ => main⟩
  have hx : xs = [] := List.map_eq_nil_iff.1 h0
  subst hx
  exact ⟨_, _, .val (.nilo q0 1 0), h q0 hq0⟩

theorem orII {x y : Nat} (hx : x < 2 ^ 62) (hy : y < 2 ^ 62) : bitsI .or .i64 (x : Int) (y : Int) = ((x ||| y : Nat) : Int) := by
  have e : ∀ x : Nat, x < 2 ^ 63 → (BitVec.ofInt IntKind.i64.bits (x : Int)).toNat = x := by
    intro x hx
    have : BitVec.ofInt IntKind.i64.bits (x : Int) = BitVec.ofNat 64 x := by
      apply BitVec.eq_of_toNat_eq; simp [IntKind.bits]
    rw [this]
    show (BitVec.ofNat 64 x).toNat = x
    rw [BitVec.toNat_ofNat, Nat.mod_eq_of_lt (by omega)]
  simp only [bitsI]
  rw [BitVec.toNat_or, e x (by omega), e _ (by omega)]
  have := Nat.or_lt_two_pow hx hy
  exact i64_id (by omega) (by omega)
theorem noOf_pre {w : Nat} {s : List Nat} {i : Nat} (hi : i < s.length) : noOf w (s.take (i + 1)) = noOf w (s.take i) + s.getD i 0 * 2 ^ (w * i) := by
  have e : s.take (i + 1) = s.take i ++ [s.getD i default] := take_succ_snoc hi
  rw [e, noOf_snoc, List.length_take, Nat.min_eq_left (by omega)]; rfl
theorem pow_wv {w v i : Nat} (hi : i ≤ v) (hwv : w * v ≤ 5) : 2 ^ (w * i) ≤ 32 :=
  Nat.pow_le_pow_right (n := 2) (by decide) (Nat.le_trans (Nat.mul_le_mul_left w hi) hwv)
theorem take_lt' {s : List Nat} {m : Nat} (h : ∀ a ∈ s, a < m) (i : Nat) : ∀ a ∈ s.take i, a < m := fun a ha => h a (List.mem_of_mem_take ha)
theorem stateNo_spec (p : Pg) (hs : SmallP p) (s : List Nat) (hl : s.length = p.vars.toNat) (hsw : ∀ a ∈ s, a < 2 ^ p.wide.toNat) : Pu Tryz.prog 158 [aPg p, Ws s] (I (noOf p.wide.toNat s)) := by
  obtain ⟨w, v, e1, e2, e3, e4, hw1, hw5, hv1, hv4, hwv⟩ := hs.nat
  rw [e3] at hsw ⊢
  rw [e4] at hl
  refine Pu.of fun H => ?_
  refine W158_ok ?_; simp (maxSteps := 1000000) (disch := first | assumption | (apply Ne.symm; assumption)) only [W158, vz, vu, vv, eqS, eqFieldsV, ↓condV_t, ↓condV_f, tabs, reduceCtorEq, Array.toList, ↓reduceIte, Nat.reduceAdd, Nat.reduceLeDiff, Nat.reduceLT, Nat.reduceMul, Nat.reduceSub, Int.reduceToNat, Int.reduceSub, Int.reduceAdd, Int.reduceNeg]
  intro r hr
  refine L158_0_rule (0 : Nat) (fun i => I (noOf w (s.take i))) (fun i => I i) (fun _ => H.set r [I p.wide, I p.vars, Ns p.start, Cms p.cmds]) (fun i => i ≤ v) (fun i => v - i) ⟨by omega, .refl _, .refl _, Heap.le_refl _⟩ ?_
  intro i hi
  (try simp (maxSteps := 1000000) (disch := first | assumption | (apply Ne.symm; assumption)) only [vz, vu, vv, eqS, eqFieldsV, ↓condV_t, ↓condV_f, tabs, reduceCtorEq, Array.toList, ↓reduceIte, Nat.reduceAdd, Nat.reduceLeDiff, Nat.reduceLT, Nat.reduceMul, Nat.reduceSub, Int.reduceToNat, Int.reduceSub, Int.reduceAdd, Int.reduceNeg, B158_0, e1])
  refine ⟨fun h1 => ?_, fun h1 => ?_⟩
  · have hlt : i < s.length := by omega
    have hpre := noOf_pre (w := w) hlt
    have hb : s.getD i 0 < 2 ^ w := getD_all hsw hlt
    have hwi : w * i ≤ 5 := Nat.le_trans (Nat.mul_le_mul_left w (by omega)) hwv
    have h2 := noOf_lt w (s.take i) (take_lt' hsw i)
    rw [List.length_take, Nat.min_eq_left (by omega)] at h2
    have h3 := pow_wv (w := w) (show i ≤ v by omega) hwv
    have h4 := noOf_lt w (s.take (i + 1)) (take_lt' hsw (i + 1))
    rw [List.length_take, Nat.min_eq_left (by omega)] at h4
    have h5 := pow_wv (w := w) (show i + 1 ≤ v by omega) hwv
    have hp5 : 2 ^ w ≤ 32 := Nat.pow_le_pow_right (n := 2) (by decide) hw5
    have e5 : IntKind.i64.wrap ((w : Int) * i) = ((w * i : Nat) : Int) := by rw [← Int.natCast_mul, i64_id (by omega) (by omega)]
    have e6 : IntKind.i64.wrap ((s.getD i 0 : Nat) : Int) = (s.getD i 0 : Nat) := i64_id (by omega) (by omega)
    have hdd : s.getD i default = s.getD i 0 := rfl
    refine ⟨by omega, by omega, ?_⟩
    rw [e5, hdd, e6, Int.toNat_natCast, minI (by omega), mulN]
    have e7 : IntKind.i64.wrap ((s.getD i 0 * 2 ^ (w * i) : Nat) : Int) = ((s.getD i 0 * 2 ^ (w * i) : Nat) : Int) := i64_id (by omega) (by omega)
    rw [e7, orII (by omega) (by omega), or_add _ _ _ h2, ← hpre]
    refine ⟨by omega, i + 1, by omega, by omega, .refl _, ?_⟩
    rw [wk_int, i64_id (by omega) (by omega)]; simp
  · have : i = v := by omega
    subst this
    rw [← hl, List.take_length]
    exact ⟨rfl, Heap.le_set hr⟩
theorem noOf_drop {w : Nat} {s : List Nat} {j : Nat} (hj : j < s.length) : noOf w (s.drop j) = noOf w (s.drop (j + 1)) * 2 ^ w + s.getD j 0 := by
  rw [List.drop_eq_getElem_cons hj]
  simp [noOf, List.getD, hj]
theorem l7No_spec (p : Pg) (hs : SmallP p) (s : List Nat) (hl : s.length = p.vars.toNat) (hsw : ∀ a ∈ s, a < 2 ^ p.wide.toNat) : Pu Tryz.prog 148 [aPg p, Ws s] (I (noOf p.wide.toNat s)) := by
  obtain ⟨w, v, e1, e2, e3, e4, hw1, hw5, hv1, hv4, hwv⟩ := hs.nat
  rw [e3] at hsw ⊢
  rw [e4] at hl
  refine Pu.of fun H => ?_
  have e0 : IntKind.i64.wrap (p.vars - 1) = (v : Int) - 1 := by rw [e2]; exact i64_id (by omega) (by omega)
  refine W148_ok ?_; simp (maxSteps := 1000000) (disch := first | assumption | (apply Ne.symm; assumption)) only [W148, vz, vu, vv, eqS, eqFieldsV, ↓condV_t, ↓condV_f, tabs, reduceCtorEq, Array.toList, ↓reduceIte, Nat.reduceAdd, Nat.reduceLeDiff, Nat.reduceLT, Nat.reduceMul, Nat.reduceSub, Int.reduceToNat, Int.reduceSub, Int.reduceAdd, Int.reduceNeg, e0]
  intro r hr
  refine L148_0_rule v (fun j => I (noOf w (s.drop j))) (fun j => I ((j : Int) - 1)) (fun _ => H.set r [I p.wide, I p.vars, Ns p.start, Cms p.cmds]) (fun j => j ≤ v) (fun j => j) ⟨by omega, ?_, .refl _, Heap.le_refl _⟩ ?_
  · rw [List.drop_of_length_le (by omega)]; exact .refl _
  intro j hj
  (try simp (maxSteps := 1000000) (disch := first | assumption | (apply Ne.symm; assumption)) only [vz, vu, vv, eqS, eqFieldsV, ↓condV_t, ↓condV_f, tabs, reduceCtorEq, Array.toList, ↓reduceIte, Nat.reduceAdd, Nat.reduceLeDiff, Nat.reduceLT, Nat.reduceMul, Nat.reduceSub, Int.reduceToNat, Int.reduceSub, Int.reduceAdd, Int.reduceNeg, B148_0, e1])
  refine ⟨fun h1 => ?_, fun h1 => ?_⟩
  · have hlt : j - 1 < s.length := by omega
    have hpre := noOf_drop (w := w) hlt
    rw [show j - 1 + 1 = j by omega] at hpre
    have hb : s.getD (j - 1) 0 < 2 ^ w := getD_all hsw hlt
    have h4 := noOf_lt w (s.drop (j - 1)) fun a ha => hsw a (List.mem_of_mem_drop ha)
    rw [List.length_drop] at h4
    have h5 := pow_wv (w := w) (show s.length - (j - 1) ≤ v by omega) hwv
    have hp5 : 2 ^ w ≤ 32 := Nat.pow_le_pow_right (n := 2) (by decide) hw5
    have et : ((j : Int) - 1).toNat = j - 1 := by omega
    have hdd : s.getD (j - 1) default = s.getD (j - 1) 0 := rfl
    have e6 : IntKind.u64.wrap (w : Int) = w := wU (by omega)
    have e7 : IntKind.i64.wrap ((noOf w (s.drop j) * 2 ^ w : Nat) : Int) = ((noOf w (s.drop j) * 2 ^ w : Nat) : Int) := i64_id (by omega) (by omega)
    have e8 : IntKind.i64.wrap ((s.getD (j - 1) 0 : Nat) : Int) = (s.getD (j - 1) 0 : Nat) := i64_id (by omega) (by omega)
    rw [et, hdd, e6, Int.toNat_natCast, minI (by omega), mulN, e7, e8, ← Int.natCast_add, ← hpre]
    refine ⟨by omega, h1, by omega, j - 1, by omega, by omega, ?_, ?_⟩
    · rw [wk_int, i64_id (by omega) (by omega)]
    · rw [wk_int, i64_id (by omega) (by omega)]; omega
  · have : j = 0 := by omega
    subst this
    exact ⟨rfl, Heap.le_set hr⟩

theorem goodCm_ch {w v : Int} {c : Cm} (h : goodCm w v c = true) {i : Nat} (hi : i < c.chs.length) : 0 ≤ (c.chs.getD i default).var ∧ (c.chs.getD i default).var ≤ v - 1 ∧ kind w v (c.chs.getD i default).by_ = 1 := by
  simp only [goodCm, Bool.and_eq_true, List.all_eq_true, List.mem_range] at h
  have := h.2 i hi
  simp only [goodCh, Bool.and_eq_true, inB_iff, decide_eq_true_eq] at this
  exact ⟨this.1.1.1, this.1.1.2, this.2⟩
theorem goodCm_when {w v : Int} {c : Cm} (h : goodCm w v c = true) : kind w v c.when_ = 2 := by
  simp only [goodCm, Bool.and_eq_true, decide_eq_true_eq] at h
  exact h.1
theorem cPs_set {α : Type} {f : α → PV} {xs : List α} {i : Nat} {x : α} (hi : i < xs.length) : List.take (i * 1) (cP f xs) ++ [AV.p (f x)] ++ List.drop (i * 1 + 1) (cP f xs) = cP f (xs.set i x) := by
  simp only [Nat.mul_one, cP, ← List.map_take, ← List.map_drop]
  rw [List.set_eq_take_append_cons_drop, if_pos hi]
  simp
theorem aftK_lt {w v : Nat} {c : Cm} {s : List Nat} (hs : s.length = v) (hsw : ∀ a ∈ s, a < 2 ^ w) (hv : vCm c) (hg : goodCm w v c = true) : ∀ k, k ≤ c.chs.length → ∀ a ∈ aftK w c.chs s k, a < 2 ^ w
  | 0, _ => hsw
  | k + 1, hk => by
    intro a ha
    simp only [aftK] at ha
    rcases List.mem_or_eq_of_mem_set ha with h | rfl
    · exact aftK_lt hs hsw hv hg k (by omega) a h
    · have hm : c.chs.getD k default ∈ c.chs := getD_all (p := fun x => x ∈ c.chs) (fun _ h => h) (show k < c.chs.length by omega)
      obtain ⟨_, _, h3⟩ := goodCm_ch hg (show k < c.chs.length by omega)
      have hvt := hv.2.2 _ hm
      obtain ⟨hw, _, _, htr, _⟩ := kind_tree hs hsw (fun x hx => (hvt.2 x hx).1) (by decide) h3
      exact (htr.okV hw).1
theorem after_spec (p : Pg) (hs : SmallP p) (c : Cm) (hv : vCm c) (hg : goodCm p.wide p.vars c = true) (s : List Nat) (hl : s.length = p.vars.toNat) (hsw : ∀ a ∈ s, a < 2 ^ p.wide.toNat) : Pu Tryz.prog 159 [aPg p, aCm c, Ws s] (Ws (aftK p.wide.toNat c.chs s c.chs.length)) := by
  have hsm := sw_of hs
  obtain ⟨w, v, e1, e2, e3, e4, hw1, hw5, hv1, hv4, hwv⟩ := hs.nat
  rw [e3] at hsw hsm ⊢
  rw [e4] at hl
  rw [e1, e2] at hg
  have hcl := hv.2.1
  refine ⟨fun H => CallT.fin ?_⟩
  refine W159_ok ?_; simp (maxSteps := 1000000) (disch := first | assumption | (apply Ne.symm; assumption)) only [W159, vz, vu, vv, eqS, eqFieldsV, ↓condV_t, ↓condV_f, tabs, reduceCtorEq, Array.toList, ↓reduceIte, Nat.reduceAdd, Nat.reduceLeDiff, Nat.reduceLT, Nat.reduceMul, Nat.reduceSub, Int.reduceToNat, Int.reduceSub, Int.reduceAdd, Int.reduceNeg]
  intro r3 hr3 r4 n43 hr4
  have nn : r3 ≠ r4 := Ne.symm n43
  refine CloneW_row s (by omega) fun q0 hq0 => ?_
  simp only [Heap.set_none] at hq0
  obtain ⟨p1, p2, p3⟩ := hq0
  have nn1 : r4 ≠ q0 := Ne.symm p1
  have nn2 : r3 ≠ q0 := Ne.symm p2
  (try simp (maxSteps := 1000000) (disch := first | assumption | (apply Ne.symm; assumption)) only [vz, vu, vv, eqS, eqFieldsV, ↓condV_t, ↓condV_f, tabs, reduceCtorEq, Array.toList, ↓reduceIte, Nat.reduceAdd, Nat.reduceLeDiff, Nat.reduceLT, Nat.reduceMul, Nat.reduceSub, Int.reduceToNat, Int.reduceSub, Int.reduceAdd, Int.reduceNeg])
  refine L159_0_rule (0 : Nat) (fun k => I k) (fun k => ((H.set r3 [I p.wide, I p.vars, Ns p.start, Cms p.cmds]).set r4 [Ns c.when_, Chs c.chs]).set q0 (cP fW (aftK w c.chs s k))) (fun k => k ≤ c.chs.length) (fun k => c.chs.length - k) ⟨by omega, .refl _, Heap.le_refl _⟩ ?_
  intro k hk
  have hal := aftK_len w c.chs s k
  (try simp (maxSteps := 1000000) (disch := first | assumption | (apply Ne.symm; assumption)) only [vz, vu, vv, eqS, eqFieldsV, ↓condV_t, ↓condV_f, tabs, reduceCtorEq, Array.toList, ↓reduceIte, Nat.reduceAdd, Nat.reduceLeDiff, Nat.reduceLT, Nat.reduceMul, Nat.reduceSub, Int.reduceToNat, Int.reduceSub, Int.reduceAdd, Int.reduceNeg, B159_0])
  refine ⟨fun h1 => ⟨by omega, h1, ?_⟩, fun h1 => ?_⟩
  · have hlt : k < c.chs.length := by omega
    have hm : c.chs.getD k default ∈ c.chs := getD_all (p := fun x => x ∈ c.chs) (fun _ h => h) hlt
    obtain ⟨g1, g2, g3⟩ := goodCm_ch hg hlt
    have hvt := hv.2.2 _ hm
    have hsucc : aftK w c.chs s (k + 1) = (aftK w c.chs s k).set (c.chs.getD k default).var.toNat (tval w (c.chs.getD k default).by_ s) := rfl
    have hval := valueOf_spec (kd := 1) hsm hvt.1 hvt.2 hl hsw (by decide) g3
    generalize c.chs.getD k default = x at *
    intro r9 n9q n94 n93 hr9
    have nn9q : q0 ≠ r9 := Ne.symm n9q
    have nn94 : r4 ≠ r9 := Ne.symm n94
    have nn93 : r3 ≠ r9 := Ne.symm n93
    (try simp (maxSteps := 1000000) (disch := first | assumption | (apply Ne.symm; assumption)) only [vz, vu, vv, eqS, eqFieldsV, ↓condV_t, ↓condV_f, tabs, reduceCtorEq, Array.toList, ↓reduceIte, Nat.reduceAdd, Nat.reduceLeDiff, Nat.reduceLT, Nat.reduceMul, Nat.reduceSub, Int.reduceToNat, Int.reduceSub, Int.reduceAdd, Int.reduceNeg, e1])
    rw [e1] at *
    refine Pu.use hval ?_
    (try simp (maxSteps := 1000000) (disch := first | assumption | (apply Ne.symm; assumption)) only [vz, vu, vv, eqS, eqFieldsV, ↓condV_t, ↓condV_f, tabs, reduceCtorEq, Array.toList, ↓reduceIte, Nat.reduceAdd, Nat.reduceLeDiff, Nat.reduceLT, Nat.reduceMul, Nat.reduceSub, Int.reduceToNat, Int.reduceSub, Int.reduceAdd, Int.reduceNeg])
    refine ⟨g1, by omega, by omega, k + 1, by omega, by omega, ?_, ?_⟩
    · rw [wk_int, i64_id (by omega) (by omega)]; simp
    · rw [cPs_set (f := fW) (by omega), ← hsucc]
      generalize cP fW (aftK w c.chs s (k + 1)) = zz
      (intro y b hy; simp only [Heap.set, Heap.del] at hy ⊢; (repeat' split at hy) <;> (repeat' split) <;> simp_all [cells])
  · have : k = c.chs.length := by omega
    subst this
    have := fin_w (H := H) (G := ((H.set r3 [I p.wide, I p.vars, Ns p.start, Cms p.cmds]).set r4 [Ns c.when_, Chs c.chs]).set q0 (cP fW (aftK w c.chs s c.chs.length))) p3 (Heap.set_le (Heap.le_setN (Heap.le_set hr3) hr4))
    simpa only [rowP, hal] using this
theorem l7Do_spec (p : Pg) (hs : SmallP p) (hp : vPg p) (k : Nat) (hk : k < p.cmds.length) (s : List Nat) (hl : s.length = p.vars.toNat) (hsw : ∀ a ∈ s, a < 2 ^ p.wide.toNat) :
    Pu Tryz.prog 149 [aPg p, Ws s, I k] (Ws (aftK p.wide.toNat (p.cmds.getD k default).chs s (p.cmds.getD k default).chs.length)) := by
  have hmc : p.cmds.getD k default ∈ p.cmds := getD_all (p := fun x => x ∈ p.cmds) (fun _ h => h) hk
  have hv := hp.2.2 _ hmc
  have hg := hs.cmd _ hmc
  have hsm := sw_of hs
  obtain ⟨w, v, e1, e2, e3, e4, hw1, hw5, hv1, hv4, hwv⟩ := hs.nat
  rw [e3] at hsw hsm ⊢
  rw [e4] at hl
  rw [e1, e2] at hg
  have hcl := hv.2.1
  have hpl := hp.2.1
  refine ⟨fun H => CallT.fin ?_⟩
  refine W149_ok ?_; simp (maxSteps := 1000000) (disch := first | assumption | (apply Ne.symm; assumption)) only [W149, vz, vu, vv, eqS, eqFieldsV, ↓condV_t, ↓condV_f, tabs, reduceCtorEq, Array.toList, ↓reduceIte, Nat.reduceAdd, Nat.reduceLeDiff, Nat.reduceLT, Nat.reduceMul, Nat.reduceSub, Int.reduceToNat, Int.reduceSub, Int.reduceAdd, Int.reduceNeg, buildSliceV, zerosA, List.replicate_zero, List.flatten_nil]
  intro r3 hr3 q1 hq1r hq1
  refine wkK.keep ?_
  refine app_topW (xs := []) (ys := s) (by rw [Heap.set_other hq1r]; exact hq1) (by simp; omega) fun q0 hq0 => ?_
  rw [List.nil_append]
  simp only [Heap.set_none] at hq0
  obtain ⟨p2, p3⟩ := hq0
  have nn2 : r3 ≠ q0 := Ne.symm p2
  (try simp (maxSteps := 1000000) (disch := first | assumption | (apply Ne.symm; assumption)) only [vz, vu, vv, eqS, eqFieldsV, ↓condV_t, ↓condV_f, tabs, reduceCtorEq, Array.toList, ↓reduceIte, Nat.reduceAdd, Nat.reduceLeDiff, Nat.reduceLT, Nat.reduceMul, Nat.reduceSub, Int.reduceToNat, Int.reduceSub, Int.reduceAdd, Int.reduceNeg])
  refine ⟨by omega, by omega, ?_⟩
  generalize p.cmds.getD k default = c at *
  refine L149_0_rule (0 : Nat) (fun k => I k) (fun k => (H.set r3 [I p.wide, I p.vars, Ns p.start, Cms p.cmds]).set q0 (cP fW (aftK w c.chs s k))) (fun k => k ≤ c.chs.length) (fun k => c.chs.length - k) ⟨by omega, .refl _, Heap.le_refl _⟩ ?_
  intro k hk
  have hal := aftK_len w c.chs s k
  (try simp (maxSteps := 1000000) (disch := first | assumption | (apply Ne.symm; assumption)) only [vz, vu, vv, eqS, eqFieldsV, ↓condV_t, ↓condV_f, tabs, reduceCtorEq, Array.toList, ↓reduceIte, Nat.reduceAdd, Nat.reduceLeDiff, Nat.reduceLT, Nat.reduceMul, Nat.reduceSub, Int.reduceToNat, Int.reduceSub, Int.reduceAdd, Int.reduceNeg, B149_0])
  refine ⟨fun h1 => ⟨by omega, h1, ?_⟩, fun h1 => ?_⟩
  · have hlt : k < c.chs.length := by omega
    have hm : c.chs.getD k default ∈ c.chs := getD_all (p := fun x => x ∈ c.chs) (fun _ h => h) hlt
    obtain ⟨g1, g2, g3⟩ := goodCm_ch hg hlt
    have hvt := hv.2.2 _ hm
    have hsucc : aftK w c.chs s (k + 1) = (aftK w c.chs s k).set (c.chs.getD k default).var.toNat (tval w (c.chs.getD k default).by_ s) := rfl
    obtain ⟨_, ht1, ht2, htr, _⟩ := kind_tree hl hsw (fun x hm => (hvt.2 x hm).1) (by decide) g3
    have hval := l2Value_tr hsm hvt.1 hvt.2 (fun x hx h2 => by rw [hl]; exact kind_var (by decide) g3 x hx h2) htr
    generalize c.chs.getD k default = x at *
    have e9 : IntKind.i64.wrap ((x.by_.length : Int) - 1) = ((x.by_.length - 1 : Nat) : Int) := by rw [i64_id (by omega) (by omega)]; omega
    intro r9 n9q n93 hr9
    have nn9q : q0 ≠ r9 := Ne.symm n9q
    have nn93 : r3 ≠ r9 := Ne.symm n93
    (try simp (maxSteps := 1000000) (disch := first | assumption | (apply Ne.symm; assumption)) only [vz, vu, vv, eqS, eqFieldsV, ↓condV_t, ↓condV_f, tabs, reduceCtorEq, Array.toList, ↓reduceIte, Nat.reduceAdd, Nat.reduceLeDiff, Nat.reduceLT, Nat.reduceMul, Nat.reduceSub, Int.reduceToNat, Int.reduceSub, Int.reduceAdd, Int.reduceNeg, e1, e9])
    rw [e1] at *
    refine Pu.use hval ?_
    (try simp (maxSteps := 1000000) (disch := first | assumption | (apply Ne.symm; assumption)) only [vz, vu, vv, eqS, eqFieldsV, ↓condV_t, ↓condV_f, tabs, reduceCtorEq, Array.toList, ↓reduceIte, Nat.reduceAdd, Nat.reduceLeDiff, Nat.reduceLT, Nat.reduceMul, Nat.reduceSub, Int.reduceToNat, Int.reduceSub, Int.reduceAdd, Int.reduceNeg])
    refine ⟨g1, by omega, by omega, k + 1, by omega, by omega, ?_, ?_⟩
    · rw [wk_int, i64_id (by omega) (by omega)]; simp
    · rw [cPs_set (f := fW) (by omega), ← hsucc]
      generalize cP fW (aftK w c.chs s (k + 1)) = zz
      (intro y b hy; simp only [Heap.set, Heap.del] at hy ⊢; (repeat' split at hy) <;> (repeat' split) <;> simp_all [cells])
  · have : k = c.chs.length := by omega
    subst this
    have := fin_w (H := H) (G := (H.set r3 [I p.wide, I p.vars, Ns p.start, Cms p.cmds]).set q0 (cP fW (aftK w c.chs s c.chs.length))) p3 (Heap.set_le (Heap.le_set hr3))
    simpa only [rowP, hal] using this
end Go.Proofs.YtgcklgeifdefhaaGreat
/- Specs: successors of states, states in which a condition holds, the graph of a program: in the program and in the reference. -/
namespace Go.Proofs.YtgcklgeifdefhaaGreat
open Go Go.Sep Go.Pt
set_option linter.unusedSimpArgs false
set_option linter.unusedVariables false
attribute [local irreducible] CallT

theorem push_intR {q : Nat} {xs : List Int} {b : Int} {G : Heap} {K : AV → Heap → Prop} (hq : G q = some (cP fI xs)) (hl : xs.length ≤ 100000000)
    (h : ∀ q', G q' = none → q' ≠ q → K (rowP q' (xs ++ [b])) ((G.del q).set q' (cP fI (xs ++ [b])))) :
    buildSliceV tab 46 1 [(0, I b)] G (wkK fun v H1 => appendV tab 46 46 (rowP q xs) v H1 (wkK K)) := by
  refine lit1 tab_46 rfl tab_3 ⟨rfl, rfl⟩ ?_
  refine app_row (f := fI) (ys := [b]) tab_46 rfl tab_3 rfl (by decide) hq (by simp; omega) fun q' hq' => h q' hq' fun e => by rw [e, hq] at hq'; cases hq'
theorem nextOf_spec (p : Pg) (hs : SmallP p) (hp : vPg p) (no : Nat) (hno : no < 2 ^ 40) : Pu Tryz.prog 114 [aPg p, I no] (Is (nextP p no)) := by
  have hst := stP_len' p no
  have hstl := stP_lt' p no
  refine ⟨fun H => CallT.fin ?_⟩
  refine W114_ok ?_; simp (maxSteps := 1000000) (disch := first | assumption | (apply Ne.symm; assumption)) only [W114, vz, vu, vv, eqS, eqFieldsV, ↓condV_t, ↓condV_f, tabs, reduceCtorEq, Array.toList, ↓reduceIte, Nat.reduceAdd, Nat.reduceLeDiff, Nat.reduceLT, Nat.reduceMul, Nat.reduceSub, Int.reduceToNat, Int.reduceSub, Int.reduceAdd, Int.reduceNeg]
  intro r hr
  refine Pu.use (stateOf_spec p hs no hno) ?_
  (try simp (maxSteps := 1000000) (disch := first | assumption | (apply Ne.symm; assumption)) only [vz, vu, vv, eqS, eqFieldsV, ↓condV_t, ↓condV_f, tabs, reduceCtorEq, Array.toList, ↓reduceIte, Nat.reduceAdd, Nat.reduceLeDiff, Nat.reduceLT, Nat.reduceMul, Nat.reduceSub, Int.reduceToNat, Int.reduceSub, Int.reduceAdd, Int.reduceNeg])
  refine lit0I fun q0 hq0 => ?_
  simp only [Heap.set_none] at hq0
  obtain ⟨p1, p2⟩ := hq0
  have nn : r ≠ q0 := Ne.symm p1
  (try simp (maxSteps := 1000000) (disch := first | assumption | (apply Ne.symm; assumption)) only [vz, vu, vv, eqS, eqFieldsV, ↓condV_t, ↓condV_f, tabs, reduceCtorEq, Array.toList, ↓reduceIte, Nat.reduceAdd, Nat.reduceLeDiff, Nat.reduceLT, Nat.reduceMul, Nat.reduceSub, Int.reduceToNat, Int.reduceSub, Int.reduceAdd, Int.reduceNeg])
  have hcl := hs.cl
  refine L114_0_rule ((0 : Nat), q0) (fun z => rowP z.2 (steps p (stP p no) z.1)) (fun z => I z.1) (fun z => (H.set r [I p.wide, I p.vars, Ns p.start, Cms p.cmds]).set z.2 (cP fI (steps p (stP p no) z.1))) (fun z => z.1 ≤ p.cmds.length ∧ H z.2 = none ∧ z.2 ≠ r) (fun z => p.cmds.length - z.1)
    ⟨⟨by omega, p2, p1⟩, .refl _, .refl _, Heap.le_refl _⟩ ?_
  rintro ⟨i, q⟩ ⟨hi, hq, hqr⟩
  dsimp only at hi hq hqr
  have nn : r ≠ q := Ne.symm hqr
  have hsl := steps_len p (stP p no) i
  (try simp (maxSteps := 1000000) (disch := first | assumption | (apply Ne.symm; assumption)) only [vz, vu, vv, eqS, eqFieldsV, ↓condV_t, ↓condV_f, tabs, reduceCtorEq, Array.toList, ↓reduceIte, Nat.reduceAdd, Nat.reduceLeDiff, Nat.reduceLT, Nat.reduceMul, Nat.reduceSub, Int.reduceToNat, Int.reduceSub, Int.reduceAdd, Int.reduceNeg, B114_0])
  refine ⟨fun h1 => ⟨by omega, h1, ?_⟩, fun h1 => ?_⟩
  · have hlt : i < p.cmds.length := by omega
    have hm : p.cmds.getD i default ∈ p.cmds := getD_all (p := fun x => x ∈ p.cmds) (fun _ h => h) hlt
    have hvc := hp.2.2 _ hm
    have hgc := hs.cmd _ hm
    have hsucc := steps_succ p (stP p no) hlt
    have e5 : IntKind.i64.wrap ((i : Int) + 1) = ((i + 1 : Nat) : Int) := by rw [i64_id (by omega) (by omega)]; simp
    generalize p.cmds.getD i default = c at *
    intro r8 n8q n8 hr8
    have nn8q : q ≠ r8 := Ne.symm n8q
    have nn8 : r ≠ r8 := Ne.symm n8
    (try simp (maxSteps := 1000000) (disch := first | assumption | (apply Ne.symm; assumption)) only [vz, vu, vv, eqS, eqFieldsV, ↓condV_t, ↓condV_f, tabs, reduceCtorEq, Array.toList, ↓reduceIte, Nat.reduceAdd, Nat.reduceLeDiff, Nat.reduceLT, Nat.reduceMul, Nat.reduceSub, Int.reduceToNat, Int.reduceSub, Int.reduceAdd, Int.reduceNeg])
    refine Pu.use (holds_spec p hs c.when_ hvc.1 _ hst hstl (goodCm_when hgc)) ?_
    (try simp (maxSteps := 1000000) (disch := first | assumption | (apply Ne.symm; assumption)) only [vz, vu, vv, eqS, eqFieldsV, ↓condV_t, ↓condV_f, tabs, reduceCtorEq, Array.toList, ↓reduceIte, Nat.reduceAdd, Nat.reduceLeDiff, Nat.reduceLT, Nat.reduceMul, Nat.reduceSub, Int.reduceToNat, Int.reduceSub, Int.reduceAdd, Int.reduceNeg, e5])
    refine ⟨fun h2 => ?_, fun h2 => ?_⟩
    · rw [if_pos (by exact decide_eq_true h2)] at hsucc
      refine Pu.use (after_spec p hs c hvc hgc _ hst hstl) ?_
      (try simp (maxSteps := 1000000) (disch := first | assumption | (apply Ne.symm; assumption)) only [vz, vu, vv, eqS, eqFieldsV, ↓condV_t, ↓condV_f, tabs, reduceCtorEq, Array.toList, ↓reduceIte, Nat.reduceAdd, Nat.reduceLeDiff, Nat.reduceLT, Nat.reduceMul, Nat.reduceSub, Int.reduceToNat, Int.reduceSub, Int.reduceAdd, Int.reduceNeg])
      obtain ⟨w, v, e1, e2, e3, e4, hw1, hw5, hv1, hv4, hwv⟩ := hs.nat
      have hal : ∀ a ∈ aftK p.wide.toNat c.chs (stP p no) c.chs.length, a < 2 ^ p.wide.toNat := by
        rw [e3] at hstl ⊢
        rw [e4] at hst
        exact aftK_lt hst hstl hvc (by rw [← e1, ← e2]; exact hgc) _ (Nat.le_refl _)
      refine Pu.use (stateNo_spec p hs _ (by rw [aftK_len]; exact hst) hal) ?_
      refine push_intR (xs := steps p (stP p no) i) (by rw [Heap.set_other nn8q, Heap.set_same]) (by omega) fun q' hq' hne => ?_
      simp only [Heap.set_none] at hq'
      obtain ⟨p1, p2, p3, p4⟩ := hq'
      have hst' : steps p (stP p no) i ++ [((noOf p.wide.toNat (aftK p.wide.toNat c.chs (stP p no) c.chs.length) : Nat) : Int)] = steps p (stP p no) (i + 1) := hsucc.symm
      rw [hst']
      refine ⟨(i + 1, q'), ⟨by simp only; omega, p4, p3⟩, by simp only; omega, .refl _, .refl _, ?_⟩
      generalize cP fI (steps p (stP p no) (i + 1)) = zz
      (intro y b hy; simp only [Heap.set, Heap.del] at hy ⊢; (repeat' split at hy) <;> (repeat' split) <;> simp_all [cells])
    · rw [if_neg (by simpa [enP] using h2)] at hsucc
      refine ⟨(i + 1, q), ⟨by simp only; omega, hq, hqr⟩, by simp only; omega, ?_, .refl _, ?_⟩
      · rw [hsucc]; exact .refl _
      · rw [hsucc]
        generalize cP fI (steps p (stP p no) i) = zz
        (intro y b hy; simp only [Heap.set, Heap.del] at hy ⊢; (repeat' split at hy) <;> (repeat' split) <;> simp_all [cells])
  · have hi' : i = p.cmds.length := by omega
    subst hi'
    have hnx : nextP p no = if steps p (stP p no) p.cmds.length = [] then [(no : Int)] else sc (steps p (stP p no) p.cmds.length) := rfl
    generalize steps p (stP p no) p.cmds.length = l at *
    refine ⟨fun h2 => ?_, fun h2 => ?_⟩
    · have hl0 : l = [] := by
        have : l.length = 0 := by omega
        exact List.length_eq_zero_iff.1 this
      rw [if_pos hl0] at hnx
      rw [hnx]
      refine lit1 tab_46 rfl tab_3 ⟨rfl, rfl⟩ ?_
      exact fin_le (Heap.le_setN (Heap.le_set hr) hq) ⟨rfl, rfl⟩
    · have hl0 : l ≠ [] := fun e => by rw [e] at h2; simp at h2
      rw [if_neg hl0] at hnx
      refine Sort_row (zs := l) (by rw [Heap.set_same]) (by omega) ?_
      rw [Heap.set_set]
      have hsl2 : (srt l).length = l.length := (srt_perm l).length_eq
      have := Compact_row (H := (H.set r [I p.wide, I p.vars, Ns p.start, Cms p.cmds]).set q ((srt l).map fun n => AV.p (.int .i64 n))) (q := q) (zs := srt l) (K := fun v43 H13 => wkK (fun r H' => r = Is (nextP p no) ∧ H' = H) v43 H13) (Heap.set_same _ _ _) (by omega) (by
        rw [Heap.set_set]
        have hc : Lib.compact (srt l) = nextP p no := hnx.symm
        rw [hc]
        exact fin_int hq (Heap.set_le (Heap.le_set hr)))
      rw [hsl2] at this
      simpa only [rowP] using this

/-! ### The reference -/
def enI (p : Pg) (s : List Nat) (n : Nat) : List Int := ((List.range n).filter fun i => enP p.wide.toNat s (p.cmds.getD i default)).map fun (i : Nat) => (i : Int)
theorem enI_succ (p : Pg) (s : List Nat) (n : Nat) : enI p s (n + 1) = if enP p.wide.toNat s (p.cmds.getD n default) = true then enI p s n ++ [(n : Int)] else enI p s n := by
  unfold enI
  rw [List.range_succ, List.filter_append, List.map_append]
  by_cases h : enP p.wide.toNat s (p.cmds.getD n default) = true
  · have e : [n].filter (fun i => enP p.wide.toNat s (p.cmds.getD i default)) = [n] := by rw [List.filter_cons_of_pos (by exact h)]; rfl
    rw [if_pos h, e]; rfl
  · have e : [n].filter (fun i => enP p.wide.toNat s (p.cmds.getD i default)) = [] := by rw [List.filter_cons_of_neg (by exact h)]; rfl
    rw [if_neg h, e]; simp
theorem enI_len (p : Pg) (s : List Nat) (n : Nat) : (enI p s n).length ≤ n := by
  unfold enI
  rw [List.length_map]
  have := List.length_filter_le (fun i => enP p.wide.toNat s (p.cmds.getD i default)) (List.range n)
  simpa using this
theorem enI_steps (p : Pg) (s : List Nat) : ∀ n, n ≤ p.cmds.length → (enI p s n).map (fun i => (toP p.wide.toNat s (p.cmds.getD i.toNat default) : Int)) = steps p s n
  | 0, _ => rfl
  | n + 1, h => by
    have ih := enI_steps p s n (by omega)
    rw [enI_succ, steps_succ p s (by omega)]
    split
    · rw [List.map_append, ih]; simp
    · exact ih
theorem enI_mem {p : Pg} {s : List Nat} {n : Nat} {x : Int} (h : x ∈ enI p s n) : ∃ i : Nat, x = i ∧ i < n := by
  unfold enI at h
  obtain ⟨i, hi, rfl⟩ := List.mem_map.1 h
  exact ⟨i, rfl, by simpa using (List.mem_filter.1 hi).1⟩
theorem l7Enabled_spec (p : Pg) (hs : SmallP p) (hp : vPg p) (s : List Nat) (hl : s.length = p.vars.toNat) (hsw : ∀ a ∈ s, a < 2 ^ p.wide.toNat) : Pu Tryz.prog 147 [aPg p, Ws s] (Is (enI p s p.cmds.length)) := by
  refine ⟨fun H => CallT.fin ?_⟩
  refine CallT.ghost W147_hb fun q0 hq0 => ?_
  refine W147_ok ?_; simp (maxSteps := 1000000) (disch := first | assumption | (apply Ne.symm; assumption)) only [W147, vz, vu, vv, eqS, eqFieldsV, ↓condV_t, ↓condV_f, tabs, reduceCtorEq, Array.toList, ↓reduceIte, Nat.reduceAdd, Nat.reduceLeDiff, Nat.reduceLT, Nat.reduceMul, Nat.reduceSub, Int.reduceToNat, Int.reduceSub, Int.reduceAdd, Int.reduceNeg]
  intro r hrq hr
  have hcl := hs.cl
  refine L147_0_rule ((0 : Nat), q0) (fun z => rowP z.2 (enI p s z.1)) (fun z => I z.1) (fun z => (H.set r [I p.wide, I p.vars, Ns p.start, Cms p.cmds]).set z.2 (cP fI (enI p s z.1))) (fun z => z.1 ≤ p.cmds.length ∧ H z.2 = none ∧ z.2 ≠ r) (fun z => p.cmds.length - z.1)
    ⟨⟨by omega, hq0, fun e => hrq e.symm⟩, .nilo _ _ _, .refl _, ?_⟩ ?_
  · rw [Heap.set_comm hrq]; exact Heap.le_refl _
  rintro ⟨i, q⟩ ⟨hi, hq, hqr⟩
  dsimp only at hi hq hqr
  have nn : r ≠ q := Ne.symm hqr
  have hsl := enI_len p s i
  (try simp (maxSteps := 1000000) (disch := first | assumption | (apply Ne.symm; assumption)) only [vz, vu, vv, eqS, eqFieldsV, ↓condV_t, ↓condV_f, tabs, reduceCtorEq, Array.toList, ↓reduceIte, Nat.reduceAdd, Nat.reduceLeDiff, Nat.reduceLT, Nat.reduceMul, Nat.reduceSub, Int.reduceToNat, Int.reduceSub, Int.reduceAdd, Int.reduceNeg, B147_0])
  refine ⟨fun h1 => ⟨by omega, h1, ?_⟩, fun h1 => ?_⟩
  · have hlt : i < p.cmds.length := by omega
    have hm : p.cmds.getD i default ∈ p.cmds := getD_all (p := fun x => x ∈ p.cmds) (fun _ h => h) hlt
    have hvc := hp.2.2 _ hm
    have hgc := hs.cmd _ hm
    have hsucc := enI_succ p s i
    have e5 : IntKind.i64.wrap ((i : Int) + 1) = ((i + 1 : Nat) : Int) := by rw [i64_id (by omega) (by omega)]; simp
    generalize p.cmds.getD i default = c at *
    intro r8 n8q n8 hr8
    have nn8q : q ≠ r8 := Ne.symm n8q
    have nn8 : r ≠ r8 := Ne.symm n8
    (try simp (maxSteps := 1000000) (disch := first | assumption | (apply Ne.symm; assumption)) only [vz, vu, vv, eqS, eqFieldsV, ↓condV_t, ↓condV_f, tabs, reduceCtorEq, Array.toList, ↓reduceIte, Nat.reduceAdd, Nat.reduceLeDiff, Nat.reduceLT, Nat.reduceMul, Nat.reduceSub, Int.reduceToNat, Int.reduceSub, Int.reduceAdd, Int.reduceNeg])
    refine Pu.use (l7Holds_spec p hs c.when_ hvc.1 _ hl hsw (goodCm_when hgc)) ?_
    (try simp (maxSteps := 1000000) (disch := first | assumption | (apply Ne.symm; assumption)) only [vz, vu, vv, eqS, eqFieldsV, ↓condV_t, ↓condV_f, tabs, reduceCtorEq, Array.toList, ↓reduceIte, Nat.reduceAdd, Nat.reduceLeDiff, Nat.reduceLT, Nat.reduceMul, Nat.reduceSub, Int.reduceToNat, Int.reduceSub, Int.reduceAdd, Int.reduceNeg, e5])
    refine ⟨fun h2 => ?_, fun h2 => ?_⟩
    · rw [if_pos (by exact decide_eq_true h2)] at hsucc
      refine push_intR (xs := enI p s i) (by rw [Heap.set_other nn8q, Heap.set_same]) (by omega) fun q' hq' hne => ?_
      simp only [Heap.set_none] at hq'
      obtain ⟨p1, p2, p3, p4⟩ := hq'
      rw [← hsucc]
      refine ⟨(i + 1, q'), ⟨by simp only; omega, p4, p3⟩, by simp only; omega, .refl _, .refl _, ?_⟩
      generalize cP fI (enI p s (i + 1)) = zz
      (intro y b hy; simp only [Heap.set, Heap.del] at hy ⊢; (repeat' split at hy) <;> (repeat' split) <;> simp_all [cells])
    · rw [if_neg (by simpa [enP] using h2)] at hsucc
      refine ⟨(i + 1, q), ⟨by simp only; omega, hq, hqr⟩, by simp only; omega, ?_, .refl _, ?_⟩
      · rw [hsucc]; exact .refl _
      · rw [hsucc]
        generalize cP fI (enI p s i) = zz
        (intro y b hy; simp only [Heap.set, Heap.del] at hy ⊢; (repeat' split at hy) <;> (repeat' split) <;> simp_all [cells])
  · have hi' : i = p.cmds.length := by omega
    subst hi'
    exact fin_int hq (Heap.set_le (Heap.le_set hr))
theorem foldl_putlen' (xs : List Int) : ∀ l, (xs.foldl put l).length ≤ l.length + xs.length := by
  induction xs with
  | nil => intro l; simp
  | cons x xs ih =>
    intro l
    have h1 := ih (put l x)
    have h2 := put_len l x
    simp only [List.foldl_cons, List.length_cons]; omega
theorem l8Next_spec (p : Pg) (hs : SmallP p) (hp : vPg p) (no : Nat) (hno : no < 2 ^ 40) : Pu Tryz.prog 99 [aPg p, I no] (Is (nextP p no)) := by
  have hst := stP_len' p no
  have hstl := stP_lt' p no
  refine ⟨fun H => CallT.fin ?_⟩
  refine W99_ok ?_; simp (maxSteps := 1000000) (disch := first | assumption | (apply Ne.symm; assumption)) only [W99, vz, vu, vv, eqS, eqFieldsV, ↓condV_t, ↓condV_f, tabs, reduceCtorEq, Array.toList, ↓reduceIte, Nat.reduceAdd, Nat.reduceLeDiff, Nat.reduceLT, Nat.reduceMul, Nat.reduceSub, Int.reduceToNat, Int.reduceSub, Int.reduceAdd, Int.reduceNeg]
  intro r hr
  refine Pu.use (l7Of_spec p hs no hno) ?_
  (try simp (maxSteps := 1000000) (disch := first | assumption | (apply Ne.symm; assumption)) only [vz, vu, vv, eqS, eqFieldsV, ↓condV_t, ↓condV_f, tabs, reduceCtorEq, Array.toList, ↓reduceIte, Nat.reduceAdd, Nat.reduceLeDiff, Nat.reduceLT, Nat.reduceMul, Nat.reduceSub, Int.reduceToNat, Int.reduceSub, Int.reduceAdd, Int.reduceNeg])
  refine Pu.use (l7Enabled_spec p hs hp _ hst hstl) ?_
  (try simp (maxSteps := 1000000) (disch := first | assumption | (apply Ne.symm; assumption)) only [vz, vu, vv, eqS, eqFieldsV, ↓condV_t, ↓condV_f, tabs, reduceCtorEq, Array.toList, ↓reduceIte, Nat.reduceAdd, Nat.reduceLeDiff, Nat.reduceLT, Nat.reduceMul, Nat.reduceSub, Int.reduceToNat, Int.reduceSub, Int.reduceAdd, Int.reduceNeg])
  have hcl := hs.cl
  have hel := enI_len p (stP p no) p.cmds.length
  have hes := enI_steps p (stP p no) p.cmds.length (Nat.le_refl _)
  have hmem := fun x (h : x ∈ enI p (stP p no) p.cmds.length) => enI_mem h
  have hnx : nextP p no = if steps p (stP p no) p.cmds.length = [] then [(no : Int)] else sc (steps p (stP p no) p.cmds.length) := rfl
  generalize enI p (stP p no) p.cmds.length = l at *
  have hfl := fun i => foldl_putlen' ((l.take i).map fun i => (toP p.wide.toNat (stP p no) (p.cmds.getD i.toNat default) : Int)) []
  have hflt := fun i => (foldl_put ((l.take i).map fun i => (toP p.wide.toNat (stP p no) (p.cmds.getD i.toNat default) : Int)) [] List.Pairwise.nil).1
  refine L99_0_rule (0 : Nat) (fun i => Is (((l.take i).map fun i => (toP p.wide.toNat (stP p no) (p.cmds.getD i.toNat default) : Int)).foldl put [])) (fun i => I i) (fun _ => H.set r [I p.wide, I p.vars, Ns p.start, Cms p.cmds]) (fun i => i ≤ l.length) (fun i => l.length - i) ⟨by omega, .nil, .refl _, Heap.le_refl _⟩ ?_
  intro i hi
  have hfl := hfl i
  have hflt := hflt i
  rw [List.length_map, List.length_take, List.length_nil] at hfl
  (try simp (maxSteps := 1000000) (disch := first | assumption | (apply Ne.symm; assumption)) only [vz, vu, vv, eqS, eqFieldsV, ↓condV_t, ↓condV_f, tabs, reduceCtorEq, Array.toList, ↓reduceIte, Nat.reduceAdd, Nat.reduceLeDiff, Nat.reduceLT, Nat.reduceMul, Nat.reduceSub, Int.reduceToNat, Int.reduceSub, Int.reduceAdd, Int.reduceNeg, B99_0])
  refine ⟨fun h1 => ⟨by omega, h1, ?_⟩, fun h1 => ?_⟩
  · have hlt : i < l.length := by omega
    have hsnoc : (l.take (i + 1)).map (fun i => (toP p.wide.toNat (stP p no) (p.cmds.getD i.toNat default) : Int)) = (l.take i).map (fun i => (toP p.wide.toNat (stP p no) (p.cmds.getD i.toNat default) : Int)) ++ [(toP p.wide.toNat (stP p no) (p.cmds.getD (l.getD i default).toNat default) : Int)] := by
      rw [take_succ_snoc hlt, List.map_append]; rfl
    obtain ⟨k, ek, hk⟩ := hmem _ (getD_all (p := fun x => x ∈ l) (d := default) (fun _ h => h) hlt)
    rw [ek, Int.toNat_natCast] at hsnoc
    have hm : p.cmds.getD k default ∈ p.cmds := getD_all (p := fun x => x ∈ p.cmds) (fun _ h => h) hk
    have hvc := hp.2.2 _ hm
    have hgc := hs.cmd _ hm
    rw [ek]
    refine Pu.use (l7Do_spec p hs hp k hk _ hst hstl) ?_
    (try simp (maxSteps := 1000000) (disch := first | assumption | (apply Ne.symm; assumption)) only [vz, vu, vv, eqS, eqFieldsV, ↓condV_t, ↓condV_f, tabs, reduceCtorEq, Array.toList, ↓reduceIte, Nat.reduceAdd, Nat.reduceLeDiff, Nat.reduceLT, Nat.reduceMul, Nat.reduceSub, Int.reduceToNat, Int.reduceSub, Int.reduceAdd, Int.reduceNeg])
    obtain ⟨w, v, e1, e2, e3, e4, hw1, hw5, hv1, hv4, hwv⟩ := hs.nat
    have hal : ∀ a ∈ aftK p.wide.toNat (p.cmds.getD k default).chs (stP p no) (p.cmds.getD k default).chs.length, a < 2 ^ p.wide.toNat := by
      rw [e3] at hstl ⊢
      rw [e4] at hst
      exact aftK_lt hst hstl hvc (by rw [← e1, ← e2]; exact hgc) _ (Nat.le_refl _)
    refine Pu.use (l7No_spec p hs _ (by rw [aftK_len]; exact hst) hal) ?_
    refine Pu.use (l1Put_spec _ _ hflt (by omega)) ?_
    (try simp (maxSteps := 1000000) (disch := first | assumption | (apply Ne.symm; assumption)) only [vz, vu, vv, eqS, eqFieldsV, ↓condV_t, ↓condV_f, tabs, reduceCtorEq, Array.toList, ↓reduceIte, Nat.reduceAdd, Nat.reduceLeDiff, Nat.reduceLT, Nat.reduceMul, Nat.reduceSub, Int.reduceToNat, Int.reduceSub, Int.reduceAdd, Int.reduceNeg])
    refine ⟨i + 1, by omega, by omega, ?_, ?_⟩
    · rw [hsnoc, List.foldl_append]; exact .refl _
    · rw [wk_int, i64_id (by omega) (by omega)]; simp
  · have hi' : i = l.length := by omega
    subst hi'
    rw [List.take_length, hes] at *
    have hps : (steps p (stP p no) p.cmds.length).foldl put [] = sc (steps p (stP p no) p.cmds.length) := puts_sc _
    have hmem2 := fun x => sc_mem (steps p (stP p no) p.cmds.length) x
    rw [hps]
    generalize steps p (stP p no) p.cmds.length = st at *
    refine ⟨fun h2 => ?_, fun h2 => ?_⟩
    · have h0 : (sc st) = [] := List.length_eq_zero_iff.1 (by omega)
      have hst0 : st = [] := by
        cases st with
        | nil => rfl
        | cons a t =>
          have := (hmem2 a).2 List.mem_cons_self
          rw [h0] at this; cases this
      rw [hnx, if_pos hst0]
      refine lit1 tab_46 rfl tab_3 ⟨rfl, rfl⟩ ?_
      exact fin_le (Heap.le_set hr) ⟨rfl, rfl⟩
    · have hst0 : st ≠ [] := fun e => by
        apply h2
        have : sc st = [] := by
          rw [e]
          cases hsc : sc [] with
          | nil => rfl
          | cons a t =>
            have := (sc_mem [] a).1 (by rw [hsc]; exact List.mem_cons_self)
            cases this
        rw [this]; rfl
      rw [hnx, if_neg hst0]
      exact fin_le (Heap.le_set hr) ⟨rfl, rfl⟩
end Go.Proofs.YtgcklgeifdefhaaGreat
/- Specs: the letter of a state; the law on letters. -/
namespace Go.Proofs.YtgcklgeifdefhaaGreat
open Go Go.Sep Go.Pt
set_option linter.unusedSimpArgs false
set_option linter.unusedVariables false
attribute [local irreducible] CallT

/-- What a good question is. -/
structure GoodQ (q : Qn) : Prop where
  small : smallP q.prog = true
  sp : SmallP q.prog
  n3 : q.asks.length = 3
  say : goodT q.say = true
  asks : ∀ t ∈ q.asks, kind q.prog.wide q.prog.vars t = 2
theorem goodQ_of {q : Qn} (h : goodQ q = true) : GoodQ q := by
  simp only [goodQ, Bool.and_eq_true, decide_eq_true_eq, List.all_eq_true] at h
  exact ⟨h.1, smallP_of h.1, h.2.1, h.2.2.1, h.2.2.2⟩
end Go.Proofs.YtgcklgeifdefhaaGreat
/- Specs: states in which a condition holds, the graph of a program; runs; the law on runs. -/
namespace Go.Proofs.YtgcklgeifdefhaaGreat
open Go Go.Sep Go.Pt
set_option linter.unusedSimpArgs false
set_option linter.unusedVariables false
attribute [local irreducible] CallT

/-- The first n states in which a condition holds. -/
def whN (p : Pg) (t : List Nd) (n : Nat) : List Int := ((List.range n).filter (holdP p t)).map fun (i : Nat) => (i : Int)
theorem whN_succ (p : Pg) (t : List Nd) (n : Nat) : whN p t (n + 1) = if holdP p t n = true then whN p t n ++ [(n : Int)] else whN p t n := by
  unfold whN
  rw [List.range_succ, List.filter_append, List.map_append]
  by_cases h : holdP p t n = true
  · have e : [n].filter (holdP p t) = [n] := by rw [List.filter_cons_of_pos (by exact h)]; rfl
    rw [if_pos h, e]; rfl
  · have e : [n].filter (holdP p t) = [] := by rw [List.filter_cons_of_neg (by exact h)]; rfl
    rw [if_neg h, e]; simp
theorem whN_len (p : Pg) (t : List Nd) (n : Nat) : (whN p t n).length ≤ n := by
  unfold whN
  rw [List.length_map]
  have := List.length_filter_le (holdP p t) (List.range n)
  simpa using this
theorem whN_mem {p : Pg} {t : List Nd} {n : Nat} (x : Int) : x ∈ whN p t n ↔ ∃ i : Nat, x = i ∧ i < n ∧ holdP p t i = true := by
  unfold whN
  rw [List.mem_map]
  constructor
  · rintro ⟨i, hi, rfl⟩
    rw [List.mem_filter, List.mem_range] at hi
    exact ⟨i, rfl, hi⟩
  · rintro ⟨i, rfl, hi⟩
    exact ⟨i, by rw [List.mem_filter, List.mem_range]; exact hi, rfl⟩
theorem statesP_nat {p : Pg} (hs : SmallP p) : statesP p = (allP p : Nat) := by
  unfold statesP allP; rw [powI]
theorem l8Those_spec (p : Pg) (hb : smallP p = true) (t : List Nd) (ht : vT t) (hk : kind p.wide p.vars t = 2) : Pu Tryz.prog 70 [aPg p, Ns t] (Is (whN p t (allP p))) := by
  have hs := smallP_of hb
  have hal := allP_bd hs
  have hsp := statesP_nat hs
  refine ⟨fun H => CallT.fin ?_⟩
  refine CallT.ghost W70_hb fun q0 hq0 => ?_
  refine W70_ok ?_; simp (maxSteps := 1000000) (disch := first | assumption | (apply Ne.symm; assumption)) only [W70, vz, vu, vv, eqS, eqFieldsV, ↓condV_t, ↓condV_f, tabs, reduceCtorEq, Array.toList, ↓reduceIte, Nat.reduceAdd, Nat.reduceLeDiff, Nat.reduceLT, Nat.reduceMul, Nat.reduceSub, Int.reduceToNat, Int.reduceSub, Int.reduceAdd, Int.reduceNeg]
  intro r hrq hr
  refine L70_0_rule ((0 : Nat), q0) (fun z => rowP z.2 (whN p t z.1)) (fun z => I z.1) (fun z => (H.set r [I p.wide, I p.vars, Ns p.start, Cms p.cmds]).set z.2 (cP fI (whN p t z.1))) (fun z => z.1 ≤ allP p ∧ H z.2 = none ∧ z.2 ≠ r) (fun z => allP p - z.1)
    ⟨⟨by omega, hq0, fun e => hrq e.symm⟩, .nilo _ _ _, .refl _, ?_⟩ ?_
  · rw [Heap.set_comm hrq]; exact Heap.le_refl _
  rintro ⟨i, q⟩ ⟨hi, hq, hqr⟩
  dsimp only at hi hq hqr
  have nn : r ≠ q := Ne.symm hqr
  have hsl := whN_len p t i
  have hsucc := whN_succ p t i
  have e5 : IntKind.i64.wrap ((i : Int) + 1) = ((i + 1 : Nat) : Int) := by rw [i64_id (by omega) (by omega)]; simp
  (try simp (maxSteps := 1000000) (disch := first | assumption | (apply Ne.symm; assumption)) only [vz, vu, vv, eqS, eqFieldsV, ↓condV_t, ↓condV_f, tabs, reduceCtorEq, Array.toList, ↓reduceIte, Nat.reduceAdd, Nat.reduceLeDiff, Nat.reduceLT, Nat.reduceMul, Nat.reduceSub, Int.reduceToNat, Int.reduceSub, Int.reduceAdd, Int.reduceNeg, B70_0])
  refine Pu.use (l7Many_spec p hb) ?_
  rw [hsp]
  (try simp (maxSteps := 1000000) (disch := first | assumption | (apply Ne.symm; assumption)) only [vz, vu, vv, eqS, eqFieldsV, ↓condV_t, ↓condV_f, tabs, reduceCtorEq, Array.toList, ↓reduceIte, Nat.reduceAdd, Nat.reduceLeDiff, Nat.reduceLT, Nat.reduceMul, Nat.reduceSub, Int.reduceToNat, Int.reduceSub, Int.reduceAdd, Int.reduceNeg])
  refine ⟨fun h1 => ?_, fun h1 => ?_⟩
  · have hlt : i < allP p := by omega
    refine Pu.use (l7Of_spec p hs i (by omega)) ?_
    (try simp (maxSteps := 1000000) (disch := first | assumption | (apply Ne.symm; assumption)) only [vz, vu, vv, eqS, eqFieldsV, ↓condV_t, ↓condV_f, tabs, reduceCtorEq, Array.toList, ↓reduceIte, Nat.reduceAdd, Nat.reduceLeDiff, Nat.reduceLT, Nat.reduceMul, Nat.reduceSub, Int.reduceToNat, Int.reduceSub, Int.reduceAdd, Int.reduceNeg])
    refine Pu.use (l7Holds_spec p hs t ht _ (stP_len' _ _) (stP_lt' _ _) hk) ?_
    (try simp (maxSteps := 1000000) (disch := first | assumption | (apply Ne.symm; assumption)) only [vz, vu, vv, eqS, eqFieldsV, ↓condV_t, ↓condV_f, tabs, reduceCtorEq, Array.toList, ↓reduceIte, Nat.reduceAdd, Nat.reduceLeDiff, Nat.reduceLT, Nat.reduceMul, Nat.reduceSub, Int.reduceToNat, Int.reduceSub, Int.reduceAdd, Int.reduceNeg, e5])
    refine ⟨fun h2 => ?_, fun h2 => ?_⟩
    · rw [if_pos (by exact decide_eq_true h2)] at hsucc
      refine push_intR (xs := whN p t i) (by rw [Heap.set_same]) (by omega) fun q' hq' hne => ?_
      simp only [Heap.set_none] at hq'
      obtain ⟨p1, p2, p3⟩ := hq'
      rw [← hsucc]
      refine ⟨(i + 1, q'), ⟨by simp only; omega, p3, p2⟩, by simp only; omega, .refl _, .refl _, ?_⟩
      generalize cP fI (whN p t (i + 1)) = zz
      (intro y b hy; simp only [Heap.set, Heap.del] at hy ⊢; (repeat' split at hy) <;> (repeat' split) <;> simp_all [cells])
    · rw [if_neg (by simpa [holdP] using h2)] at hsucc
      refine ⟨(i + 1, q), ⟨by simp only; omega, hq, hqr⟩, by simp only; omega, ?_, .refl _, ?_⟩
      · rw [hsucc]; exact .refl _
      · rw [hsucc]; exact Heap.le_refl _
  · have hi' : i = allP p := by omega
    subst hi'
    exact fin_int hq (Heap.set_le (Heap.le_set hr))

/-! ### The graph -/
abbrev fLi (l : List Int) : PV := .sl (l.map eI)
def grN (p : Pg) (n : Nat) : List (List Int) := (List.range n).map (nextP p)
theorem grN_succ (p : Pg) (n : Nat) : grN p (n + 1) = grN p n ++ [nextP p n] := by simp [grN, List.range_succ]
theorem grN_len (p : Pg) (n : Nat) : (grN p n).length = n := by simp [grN]
theorem grN_get (p : Pg) {n i : Nat} (h : i < n) : (grN p n).getD i default = nextP p i := by simp [grN, List.getD, h]
theorem lit0L {G : Heap} {K : AV → Heap → Prop} (h : ∀ q, G q = none → K (rowP q ([] : List (List Int))) (G.set q (cP fLi []))) : buildSliceV tab 60 0 [] G (wkK K) := by
  simp only [buildSliceV, tab_60, tab_46]
  refine ⟨by omega, ?_⟩
  simp only [fillV, zerosA, List.replicate_zero, List.flatten_nil]
  exact fun r hr => wkK.keep (h r hr)
theorem push_li {q : Nat} {xs : List (List Int)} {b : List Int} {G : Heap} {K : AV → Heap → Prop} (hq : G q = some (cP fLi xs)) (hl : xs.length ≤ 100000000)
    (h : ∀ q', G q' = none → q' ≠ q → K (rowP q' (xs ++ [b])) ((G.del q).set q' (cP fLi (xs ++ [b])))) :
    buildSliceV tab 60 1 [(0, Is b)] G (wkK fun v H1 => appendV tab 60 60 (rowP q xs) v H1 (wkK K)) := by
  refine lit1 tab_60 rfl tab_46 ⟨rfl, rfl⟩ ?_
  refine app_row (f := fLi) (ys := [b]) tab_60 rfl tab_46 rfl (by decide) hq (by simp; omega) fun q' hq' => h q' hq' fun e => by rw [e, hq] at hq'; cases hq'
theorem fin_lls {q : Nat} {xs : List (List Int)} {H G : Heap} (hq : H q = none) (hG : Heap.le (H.set q (cP fLi xs)) G) : wkK (fun r H' => r = Ls xs ∧ H' = H) (rowP q xs) G := by
  have := fin_own (sz := 1) (es := xs.map eL) (q := q) (H := H) (H' := G) (K := fun r H' => r = Ls xs ∧ H' = H) (by omega) (szL _) hq (by
    have e : cells (xs.map eL) = cP fLi xs := cells_P fLi xs
    rw [e]; exact hG) ⟨rfl, rfl⟩
  simpa only [Go.Sep.own, List.length_map] using this
theorem graph_spec (p : Pg) (hb : smallP p = true) (hp : vPg p) : Pu Tryz.prog 103 [aPg p] (Ls (grN p (allP p))) := by
  have hs := smallP_of hb
  have hal := allP_bd hs
  have hsp := statesP_nat hs
  refine ⟨fun H => CallT.fin ?_⟩
  refine W103_ok ?_; simp (maxSteps := 1000000) (disch := first | assumption | (apply Ne.symm; assumption)) only [W103, vz, vu, vv, eqS, eqFieldsV, ↓condV_t, ↓condV_f, tabs, reduceCtorEq, Array.toList, ↓reduceIte, Nat.reduceAdd, Nat.reduceLeDiff, Nat.reduceLT, Nat.reduceMul, Nat.reduceSub, Int.reduceToNat, Int.reduceSub, Int.reduceAdd, Int.reduceNeg]
  intro r hr
  refine lit0L fun q0 hq0 => ?_
  simp only [Heap.set_none] at hq0
  obtain ⟨p1, p2⟩ := hq0
  have nn : r ≠ q0 := Ne.symm p1
  (try simp (maxSteps := 1000000) (disch := first | assumption | (apply Ne.symm; assumption)) only [vz, vu, vv, eqS, eqFieldsV, ↓condV_t, ↓condV_f, tabs, reduceCtorEq, Array.toList, ↓reduceIte, Nat.reduceAdd, Nat.reduceLeDiff, Nat.reduceLT, Nat.reduceMul, Nat.reduceSub, Int.reduceToNat, Int.reduceSub, Int.reduceAdd, Int.reduceNeg])
  refine Pu.use (states_spec p hb) ?_
  rw [hsp]
  (try simp (maxSteps := 1000000) (disch := first | assumption | (apply Ne.symm; assumption)) only [vz, vu, vv, eqS, eqFieldsV, ↓condV_t, ↓condV_f, tabs, reduceCtorEq, Array.toList, ↓reduceIte, Nat.reduceAdd, Nat.reduceLeDiff, Nat.reduceLT, Nat.reduceMul, Nat.reduceSub, Int.reduceToNat, Int.reduceSub, Int.reduceAdd, Int.reduceNeg])
  refine L103_0_rule ((0 : Nat), q0) (fun z => rowP z.2 (grN p z.1)) (fun z => I z.1) (fun z => (H.set r [I p.wide, I p.vars, Ns p.start, Cms p.cmds]).set z.2 (cP fLi (grN p z.1))) (fun z => z.1 ≤ allP p ∧ H z.2 = none ∧ z.2 ≠ r) (fun z => allP p - z.1)
    ⟨⟨by omega, p2, p1⟩, .refl _, .refl _, Heap.le_refl _⟩ ?_
  rintro ⟨i, q⟩ ⟨hi, hq, hqr⟩
  dsimp only at hi hq hqr
  have nn : r ≠ q := Ne.symm hqr
  have hsl := grN_len p i
  have hsucc := grN_succ p i
  have e5 : IntKind.i64.wrap ((i : Int) + 1) = ((i + 1 : Nat) : Int) := by rw [i64_id (by omega) (by omega)]; simp
  (try simp (maxSteps := 1000000) (disch := first | assumption | (apply Ne.symm; assumption)) only [vz, vu, vv, eqS, eqFieldsV, ↓condV_t, ↓condV_f, tabs, reduceCtorEq, Array.toList, ↓reduceIte, Nat.reduceAdd, Nat.reduceLeDiff, Nat.reduceLT, Nat.reduceMul, Nat.reduceSub, Int.reduceToNat, Int.reduceSub, Int.reduceAdd, Int.reduceNeg, B103_0])
  refine ⟨fun h1 => ?_, fun h1 => ?_⟩
  · have hlt : i < allP p := by omega
    refine Pu.use (nextOf_spec p hs hp i (by omega)) ?_
    (try simp (maxSteps := 1000000) (disch := first | assumption | (apply Ne.symm; assumption)) only [vz, vu, vv, eqS, eqFieldsV, ↓condV_t, ↓condV_f, tabs, reduceCtorEq, Array.toList, ↓reduceIte, Nat.reduceAdd, Nat.reduceLeDiff, Nat.reduceLT, Nat.reduceMul, Nat.reduceSub, Int.reduceToNat, Int.reduceSub, Int.reduceAdd, Int.reduceNeg, e5])
    refine push_li (xs := grN p i) (by rw [Heap.set_same]) (by omega) fun q' hq' hne => ?_
    simp only [Heap.set_none] at hq'
    obtain ⟨p1, p2, p3⟩ := hq'
    rw [← hsucc]
    refine ⟨(i + 1, q'), ⟨by simp only; omega, p3, p2⟩, by simp only; omega, .refl _, .refl _, ?_⟩
    generalize cP fLi (grN p (i + 1)) = zz
    (intro y b hy; simp only [Heap.set, Heap.del] at hy ⊢; (repeat' split at hy) <;> (repeat' split) <;> simp_all [cells])
  · have hi' : i = allP p := by omega
    subst hi'
    exact fin_lls hq (Heap.set_le (Heap.le_set hr))
end Go.Proofs.YtgcklgeifdefhaaGreat
/- Specs: runs of a question, in the program and in the reference; the law on runs. -/
namespace Go.Proofs.YtgcklgeifdefhaaGreat
open Go Go.Sep Go.Pt
set_option linter.unusedSimpArgs false
set_option linter.unusedVariables false
attribute [local irreducible] CallT

theorem l1AllQ (xs : List Int) (lo hi : Int) (hl : xs.length ≤ 1000000000) : Pu Tryz.prog 146 [Is xs, I lo, I hi] (B (xs.all fun a => decide (lo ≤ a) && decide (a ≤ hi))) := by
  refine Pu.of fun H => ?_
  refine W146_ok ?_; simp (maxSteps := 1000000) (disch := first | assumption | (apply Ne.symm; assumption)) only [W146, vz, vu, vv, eqS, eqFieldsV, ↓condV_t, ↓condV_f, tabs, reduceCtorEq, Array.toList, ↓reduceIte, Nat.reduceAdd, Nat.reduceLeDiff, Nat.reduceLT, Nat.reduceMul, Nat.reduceSub, Int.reduceToNat, Int.reduceSub, Int.reduceAdd, Int.reduceNeg]
  refine L146_0_rule (0 : Nat) (fun i => I i) (fun _ => H) (fun i => i ≤ xs.length ∧ (xs.take i).all (fun a => decide (lo ≤ a) && decide (a ≤ hi)) = true) (fun i => xs.length - i) ⟨⟨by omega, by simp⟩, .refl _, Heap.le_refl _⟩ ?_
  rintro i ⟨hi1, ha⟩
  (try simp (maxSteps := 1000000) (disch := first | assumption | (apply Ne.symm; assumption)) only [vz, vu, vv, eqS, eqFieldsV, ↓condV_t, ↓condV_f, tabs, reduceCtorEq, Array.toList, ↓reduceIte, Nat.reduceAdd, Nat.reduceLeDiff, Nat.reduceLT, Nat.reduceMul, Nat.reduceSub, Int.reduceToNat, Int.reduceSub, Int.reduceAdd, Int.reduceNeg, B146_0])
  refine ⟨fun h => ⟨by omega, h, ?_⟩, fun h => ?_⟩
  · have hlt : i < xs.length := by omega
    refine Pu.use (l1In_spec ..) ?_
    (try simp (maxSteps := 1000000) (disch := first | assumption | (apply Ne.symm; assumption)) only [vz, vu, vv, eqS, eqFieldsV, ↓condV_t, ↓condV_f, tabs, reduceCtorEq, Array.toList, ↓reduceIte, Nat.reduceAdd, Nat.reduceLeDiff, Nat.reduceLT, Nat.reduceMul, Nat.reduceSub, Int.reduceToNat, Int.reduceSub, Int.reduceAdd, Int.reduceNeg])
    have e := take_all_succ (p := fun a => decide (lo ≤ a) && decide (a ≤ hi)) hlt
    rw [getD_lt hlt]
    refine ⟨fun h1 => ?_, fun h1 => ?_⟩
    · congr 2
      symm
      rw [List.all_eq_false]
      exact ⟨xs[i], by simp, by simpa using h1⟩
    · refine ⟨i + 1, ⟨by omega, by rw [e, ha]; simpa using h1⟩, by omega, ?_⟩
      rw [wk_int, i64_id (by omega) (by omega)]; simp
  · have : i = xs.length := by omega
    subst this
    rw [List.take_length] at ha; simp [ha]
theorem l1OwnQ (xs : List Int) (hl : xs.length ≤ 100000) {H : Heap} {K : AV → Heap → Prop} (h : ∀ q, H q = none → K (rowP q xs) (H.set q (cP fI xs))) : CallT Tryz.prog 97 [Is xs] H K := by
  refine W97_ok ?_; simp (maxSteps := 1000000) (disch := first | assumption | (apply Ne.symm; assumption)) only [W97, vz, vu, vv, eqS, eqFieldsV, ↓condV_t, ↓condV_f, tabs, reduceCtorEq, Array.toList, ↓reduceIte, Nat.reduceAdd, Nat.reduceLeDiff, Nat.reduceLT, Nat.reduceMul, Nat.reduceSub, Int.reduceToNat, Int.reduceSub, Int.reduceAdd, Int.reduceNeg]
  refine lit0I fun q0 hq0 => ?_
  refine app_topI (xs := []) (ys := xs) hq0 (by simp; omega) fun q1 hq1 => ?_
  rw [List.nil_append]
  exact h q1 hq1
theorem buildN1 (b : Int) : buildN tab 46 1 [(0, I b)] = some (fun r => .sl r 1 0 1, [I b]) := by
  simp only [buildN, tab_46, tab_3, ifN, fillV, zerosA]
  rfl
theorem app_one {q r1 : Nat} {xs : List Int} {b : Int} {G : Heap} {K : AV → Heap → Prop} (hq : G q = some (cP fI xs)) (hr : G r1 = some [I b]) (hl : xs.length ≤ 100000000)
    (h : ∀ q', G q' = none → K (rowP q' (xs ++ [b])) ((G.del q).set q' (cP fI (xs ++ [b])))) : appendV tab 46 46 (rowP q xs) (.sl r1 1 0 1) G (wkK K) := by
  simp only [appendV, tab_46, tab_3, srcV, baseV, hq, hr]
  refine ⟨trivial, by simp, trivial, by simp, ?_, ?_, ?_, fun r' hr' => wkK.keep ?_⟩
  · omega
  · omega
  · rfl
  · have := h r' hr'
    have e1 : (List.drop 0 (cP fI xs)).take (xs.length * 1) = cP fI xs := by rw [List.drop_zero, Nat.mul_one, List.take_of_length_le (by simp)]
    rw [e1]
    have e2 : cP fI (xs ++ [b]) = cP fI xs ++ [I b] := by simp [cP]
    rw [e2] at this
    simpa [rowP] using this

def inSt (q : Qn) (n : Int) : Bool := decide (0 ≤ n) && decide (n ≤ statesP q.prog - 1)
/-- A question, a stem and a loop that may be asked of. -/
def toldP (q : Qn) (st lp : List Int) : Bool := goodQ q && ((decide (st.length ≤ 2000) && (decide (1 ≤ lp.length) && decide (lp.length ≤ 2000))) && (st.all (inSt q) && lp.all (inSt q)))
structure Told (q : Qn) (st lp : List Int) : Prop where
  g : GoodQ q
  l1 : st.length ≤ 2000
  l2 : 1 ≤ lp.length
  l3 : lp.length ≤ 2000
  a1 : ∀ x ∈ st, 0 ≤ x ∧ x < statesP q.prog
  a2 : ∀ x ∈ lp, 0 ≤ x ∧ x < statesP q.prog
theorem told_of {q : Qn} {st lp : List Int} (h : toldP q st lp = true) : Told q st lp := by
  simp only [toldP, Bool.and_eq_true, decide_eq_true_eq, List.all_eq_true, inSt] at h
  refine ⟨goodQ_of h.1, h.2.1.1, h.2.1.2.1, h.2.1.2.2, fun x hx => ?_, fun x hx => ?_⟩
  · have := h.2.2.1 x hx; omega
  · have := h.2.2.2 x hx; omega
def wayP (st lp : List Int) : List Int := st ++ lp ++ [lp.getD 0 default]
def hopP (q : Qn) (w : List Int) (i : Nat) : Bool := decide (w.getD i default ∈ nextP q.prog (w.getD (i - 1) default).toNat)
def runP (q : Qn) (st lp : List Int) : Bool := holdP q.prog q.prog.start ((wayP st lp).getD 0 default).toNat && (List.range ((wayP st lp).length - 1)).all fun i => hopP q (wayP st lp) (i + 1)
theorem way_len (st lp : List Int) : (wayP st lp).length = st.length + lp.length + 1 := by simp [wayP]; omega
theorem way_in {q : Qn} {st lp : List Int} (t : Told q st lp) : ∀ x ∈ wayP st lp, 0 ≤ x ∧ x < statesP q.prog := by
  intro x hx
  simp only [wayP, List.mem_append, List.mem_singleton] at hx
  rcases hx with (hx | hx) | rfl
  · exact t.a1 x hx
  · exact t.a2 x hx
  · have h2 := t.l2
    exact getD_all (p := fun x => 0 ≤ x ∧ x < statesP q.prog) t.a2 (by omega)

theorem areStates1_fp (q : Qn) (n : Int) {H : Heap} : PuAt Tryz.prog 102 [I n, .fp [.int .i64 (statesP q.prog)]] H (B (!inSt q n)) := by
  intro K hK
  refine W102_ok ?_; simp (maxSteps := 1000000) (disch := first | assumption | (apply Ne.symm; assumption)) only [W102, vz, vu, vv, eqS, eqFieldsV, ↓condV_t, ↓condV_f, tabs, reduceCtorEq, Array.toList, ↓reduceIte, Nat.reduceAdd, Nat.reduceLeDiff, Nat.reduceLT, Nat.reduceMul, Nat.reduceSub, Int.reduceToNat, Int.reduceSub, Int.reduceAdd, Int.reduceNeg, load_fp]
  refine ⟨fun h => ?_, fun h => ?_⟩
  · have : (!inSt q n) = true := by simp [inSt]; omega
    rw [this] at hK; exact hK
  · have : (!inSt q n) = decide (statesP q.prog ≤ n) := by
      rw [Bool.eq_iff_iff]; simp [inSt]; omega
    rw [this] at hK; exact hK
theorem areStates_spec (q : Qn) (h : vQ q) (st lp : List Int) (h1 : st.length ≤ 1048576) (h2 : lp.length ≤ 1048576) : Pu Tryz.prog 59 [aQ q, Is st, Is lp] (B (toldP q st lp)) := by
  refine Pu.of fun H => ?_
  refine W59_ok ?_; simp (maxSteps := 1000000) (disch := first | assumption | (apply Ne.symm; assumption)) only [W59, vz, vu, vv, eqS, eqFieldsV, ↓condV_t, ↓condV_f, tabs, reduceCtorEq, Array.toList, ↓reduceIte, Nat.reduceAdd, Nat.reduceLeDiff, Nat.reduceLT, Nat.reduceMul, Nat.reduceSub, Int.reduceToNat, Int.reduceSub, Int.reduceAdd, Int.reduceNeg]
  intro r hr
  have hle : ∀ z, Heap.le H (H.set r z) := fun z => Heap.le_set hr
  refine Pu.use (GoodQuestion_impl q h) ?_
  cases hg : goodQ q
  · (try simp (maxSteps := 1000000) (disch := first | assumption | (apply Ne.symm; assumption)) only [vz, vu, vv, eqS, eqFieldsV, ↓condV_t, ↓condV_f, tabs, reduceCtorEq, Array.toList, ↓reduceIte, Nat.reduceAdd, Nat.reduceLeDiff, Nat.reduceLT, Nat.reduceMul, Nat.reduceSub, Int.reduceToNat, Int.reduceSub, Int.reduceAdd, Int.reduceNeg])
    exact ⟨by simp only [toldP, hg, Bool.false_and], hle _⟩
  have g := goodQ_of hg
  (try simp (maxSteps := 1000000) (disch := first | assumption | (apply Ne.symm; assumption)) only [vz, vu, vv, eqS, eqFieldsV, ↓condV_t, ↓condV_f, tabs, reduceCtorEq, Array.toList, ↓reduceIte, Nat.reduceAdd, Nat.reduceLeDiff, Nat.reduceLT, Nat.reduceMul, Nat.reduceSub, Int.reduceToNat, Int.reduceSub, Int.reduceAdd, Int.reduceNeg])
  have bad : ¬ (st.length ≤ 2000 ∧ 1 ≤ lp.length ∧ lp.length ≤ 2000) → B false = B (toldP q st lp) := fun hn => by
    have : (decide (st.length ≤ 2000) && (decide (1 ≤ lp.length) && decide (lp.length ≤ 2000))) = false := by
      rw [Bool.eq_false_iff]; intro hh; apply hn
      simpa only [Bool.and_eq_true, decide_eq_true_eq] using hh
    simp only [toldP, this, Bool.false_and, Bool.and_false]
  refine ⟨fun c1 => ⟨bad (by omega), hle _⟩, fun c1 => ⟨fun c2 => ⟨bad (by omega), hle _⟩, fun c2 => ⟨fun c3 => ⟨bad (by omega), hle _⟩, fun c3 => ?_⟩⟩⟩
  refine Pu.use (states_spec q.prog g.small) ?_
  (try simp (maxSteps := 1000000) (disch := first | assumption | (apply Ne.symm; assumption)) only [vz, vu, vv, eqS, eqFieldsV, ↓condV_t, ↓condV_f, tabs, reduceCtorEq, Array.toList, ↓reduceIte, Nat.reduceAdd, Nat.reduceLeDiff, Nat.reduceLT, Nat.reduceMul, Nat.reduceSub, Int.reduceToNat, Int.reduceSub, Int.reduceAdd, Int.reduceNeg])
  intro r7 n7 hr7
  have nn7 : r ≠ r7 := Ne.symm n7
  refine lit2 tab_60 rfl tab_46 ⟨rfl, rfl⟩ ?_
  have hfl : [st, lp].flatten = st ++ lp := by simp
  refine ConcatI_spec [st, lp] (by rw [hfl, List.length_append]; omega) (by simp) fun q8 hq8 => ?_
  rw [hfl]
  simp only [Heap.set_none] at hq8
  obtain ⟨n81, n82, n83⟩ := hq8
  have nn81 : r7 ≠ q8 := Ne.symm n81
  refine CallT.thaw (args' := [Is (st ++ lp), .fn 102 [.fp [.int .i64 (statesP q.prog)]]]) (v := B ((st ++ lp).any fun n => !inSt q n)) (H1 := (((((H.set r [I q.prog.wide, I q.prog.vars, Ns q.prog.start, Cms q.prog.cmds, Nss q.asks, Ds q.say]).set r7 [I (statesP q.prog)]).set q8 (cP fI (st ++ lp))).del q8).del r7)) ?_ (.bool _) ?_ ?_
  · exact (ContainsFunc_at (st ++ lp) _ _ (fun n => !inSt q n) (by simp; omega) fun x _ => areStates1_fp q x) _ rfl
  · refine .trans (Wk.frzS (r := q8) (es := (st ++ lp).map fI) (v' := .tup [Is (st ++ lp), .fn 102 [.ptr r7 0]]) ?_ ?_) (Wk.frzS (r := r7) (es := [.int .i64 (statesP q.prog)]) ?_ ?_)
    · rw [Heap.set_same]; simp only [cP, List.map_map]; rfl
    · have := FrzS.part (r := q8) (es := (st ++ lp).map fI) 0 (st ++ lp).length (by simp)
      have e : ((List.drop 0 ((st ++ lp).map fI)).take (st ++ lp).length).map (fun v => [v]) = (st ++ lp).map eI := by
        rw [List.drop_zero, List.take_of_length_le (by simp), List.map_map]; rfl
      rw [e] at this
      exact .tup (.cons this (.cons (.same _) .nil))
    · rw [Heap.del_other nn81, Heap.set_other nn81, Heap.set_same]; rfl
    · exact .tup (.cons (.same _) (.cons (.fn _ (.cons (.ptr 0) .nil)) .nil))
  · (try simp (maxSteps := 1000000) (disch := first | assumption | (apply Ne.symm; assumption)) only [vz, vu, vv, eqS, eqFieldsV, ↓condV_t, ↓condV_f, tabs, reduceCtorEq, Array.toList, ↓reduceIte, Nat.reduceAdd, Nat.reduceLeDiff, Nat.reduceLT, Nat.reduceMul, Nat.reduceSub, Int.reduceToNat, Int.reduceSub, Int.reduceAdd, Int.reduceNeg])
    refine ⟨?_, ?_⟩
    · have c : (decide (st.length ≤ 2000) && (decide (1 ≤ lp.length) && decide (lp.length ≤ 2000))) = true := by
        simp only [Bool.and_eq_true, decide_eq_true_eq]; omega
      simp only [toldP, hg, c, Bool.true_and]
      rw [List.any_append, Bool.not_or, List.all_eq_not_any_not, List.all_eq_not_any_not]
    · generalize cP fI (st ++ lp) = zz
      (intro y b hy; simp only [Heap.set, Heap.del] at hy ⊢; (repeat' split at hy) <;> (repeat' split) <;> simp_all [cells])
theorem l14States_spec (q : Qn) (hb : smallP q.prog = true) (l : List Int) (hl : l.length ≤ 1048576) : Pu Tryz.prog 96 [aQ q, Is l] (B (decide (l.length ≤ 2000) && l.all (inSt q))) := by
  have hr := states_rng hb
  have e5 : IntKind.i64.wrap (statesP q.prog - 1) = statesP q.prog - 1 := i64_id (by omega) (by omega)
  refine Pu.of fun H => ?_
  refine W96_ok ?_; simp (maxSteps := 1000000) (disch := first | assumption | (apply Ne.symm; assumption)) only [W96, vz, vu, vv, eqS, eqFieldsV, ↓condV_t, ↓condV_f, tabs, reduceCtorEq, Array.toList, ↓reduceIte, Nat.reduceAdd, Nat.reduceLeDiff, Nat.reduceLT, Nat.reduceMul, Nat.reduceSub, Int.reduceToNat, Int.reduceSub, Int.reduceAdd, Int.reduceNeg]
  intro r hr
  have hle : ∀ z, Heap.le H (H.set r z) := fun z => Heap.le_set hr
  refine ⟨fun h1 => ?_, fun h1 => ⟨?_, hle _⟩⟩
  · refine Pu.use (l7Many_spec q.prog hb) ?_
    (try simp (maxSteps := 1000000) (disch := first | assumption | (apply Ne.symm; assumption)) only [vz, vu, vv, eqS, eqFieldsV, ↓condV_t, ↓condV_f, tabs, reduceCtorEq, Array.toList, ↓reduceIte, Nat.reduceAdd, Nat.reduceLeDiff, Nat.reduceLT, Nat.reduceMul, Nat.reduceSub, Int.reduceToNat, Int.reduceSub, Int.reduceAdd, Int.reduceNeg, e5])
    refine Pu.use (l1AllQ l 0 (statesP q.prog - 1) (by omega)) ⟨?_, hle _⟩
    have : decide (l.length ≤ 2000) = true := decide_eq_true (by omega)
    rw [this, Bool.true_and]; rfl
  · have : decide (l.length ≤ 2000) = false := decide_eq_false (by omega)
    rw [this, Bool.false_and]
theorem l14Told_spec (q : Qn) (h : vQ q) (st lp : List Int) (h1 : st.length ≤ 1048576) (h2 : lp.length ≤ 1048576) : Pu Tryz.prog 57 [aQ q, Is st, Is lp] (B (toldP q st lp)) := by
  refine Pu.of fun H => ?_
  refine W57_ok ?_; simp (maxSteps := 1000000) (disch := first | assumption | (apply Ne.symm; assumption)) only [W57, vz, vu, vv, eqS, eqFieldsV, ↓condV_t, ↓condV_f, tabs, reduceCtorEq, Array.toList, ↓reduceIte, Nat.reduceAdd, Nat.reduceLeDiff, Nat.reduceLT, Nat.reduceMul, Nat.reduceSub, Int.reduceToNat, Int.reduceSub, Int.reduceAdd, Int.reduceNeg]
  intro r hr
  have hle : ∀ z, Heap.le H (H.set r z) := fun z => Heap.le_set hr
  refine Pu.use (GoodQuestion_ref q h) ?_
  cases hg : goodQ q
  · (try simp (maxSteps := 1000000) (disch := first | assumption | (apply Ne.symm; assumption)) only [vz, vu, vv, eqS, eqFieldsV, ↓condV_t, ↓condV_f, tabs, reduceCtorEq, Array.toList, ↓reduceIte, Nat.reduceAdd, Nat.reduceLeDiff, Nat.reduceLT, Nat.reduceMul, Nat.reduceSub, Int.reduceToNat, Int.reduceSub, Int.reduceAdd, Int.reduceNeg])
    exact ⟨by simp only [toldP, hg, Bool.false_and], hle _⟩
  have g := goodQ_of hg
  (try simp (maxSteps := 1000000) (disch := first | assumption | (apply Ne.symm; assumption)) only [vz, vu, vv, eqS, eqFieldsV, ↓condV_t, ↓condV_f, tabs, reduceCtorEq, Array.toList, ↓reduceIte, Nat.reduceAdd, Nat.reduceLeDiff, Nat.reduceLT, Nat.reduceMul, Nat.reduceSub, Int.reduceToNat, Int.reduceSub, Int.reduceAdd, Int.reduceNeg])
  refine Pu.use (l14States_spec q g.small st h1) ?_
  cases c1 : (decide (st.length ≤ 2000) && st.all (inSt q))
  · (try simp (maxSteps := 1000000) (disch := first | assumption | (apply Ne.symm; assumption)) only [vz, vu, vv, eqS, eqFieldsV, ↓condV_t, ↓condV_f, tabs, reduceCtorEq, Array.toList, ↓reduceIte, Nat.reduceAdd, Nat.reduceLeDiff, Nat.reduceLT, Nat.reduceMul, Nat.reduceSub, Int.reduceToNat, Int.reduceSub, Int.reduceAdd, Int.reduceNeg])
    refine ⟨?_, hle _⟩
    simp only [toldP, hg, Bool.true_and]
    cases a1 : decide (st.length ≤ 2000)
    · simp only [Bool.false_and]
    · rw [a1, Bool.true_and] at c1
      simp only [c1, Bool.false_and, Bool.and_false]
  (try simp (maxSteps := 1000000) (disch := first | assumption | (apply Ne.symm; assumption)) only [vz, vu, vv, eqS, eqFieldsV, ↓condV_t, ↓condV_f, tabs, reduceCtorEq, Array.toList, ↓reduceIte, Nat.reduceAdd, Nat.reduceLeDiff, Nat.reduceLT, Nat.reduceMul, Nat.reduceSub, Int.reduceToNat, Int.reduceSub, Int.reduceAdd, Int.reduceNeg])
  refine Pu.use (l14States_spec q g.small lp h2) ?_
  simp only [Bool.and_eq_true] at c1
  cases c2 : (decide (lp.length ≤ 2000) && lp.all (inSt q))
  · (try simp (maxSteps := 1000000) (disch := first | assumption | (apply Ne.symm; assumption)) only [vz, vu, vv, eqS, eqFieldsV, ↓condV_t, ↓condV_f, tabs, reduceCtorEq, Array.toList, ↓reduceIte, Nat.reduceAdd, Nat.reduceLeDiff, Nat.reduceLT, Nat.reduceMul, Nat.reduceSub, Int.reduceToNat, Int.reduceSub, Int.reduceAdd, Int.reduceNeg])
    refine ⟨?_, hle _⟩
    simp only [toldP, hg, Bool.true_and, c1.1, c1.2]
    cases a1 : decide (lp.length ≤ 2000)
    · simp only [Bool.false_and, Bool.and_false]
    · rw [a1, Bool.true_and] at c2
      simp only [c2, Bool.false_and, Bool.and_false]
  (try simp (maxSteps := 1000000) (disch := first | assumption | (apply Ne.symm; assumption)) only [vz, vu, vv, eqS, eqFieldsV, ↓condV_t, ↓condV_f, tabs, reduceCtorEq, Array.toList, ↓reduceIte, Nat.reduceAdd, Nat.reduceLeDiff, Nat.reduceLT, Nat.reduceMul, Nat.reduceSub, Int.reduceToNat, Int.reduceSub, Int.reduceAdd, Int.reduceNeg])
  refine ⟨?_, hle _⟩
  simp only [Bool.and_eq_true] at c2
  simp only [toldP, hg, Bool.true_and, c1.1, c1.2, c2.1, c2.2, Bool.and_true]
  congr 2
  exact decide_eq_decide.2 (by omega)
theorem nextP_len {p : Pg} (hs : SmallP p) (no : Nat) : (nextP p no).length ≤ 1048576 := by
  have hcl := hs.cl
  have h1 := steps_len p (stP p no) p.cmds.length
  have h2 := sc_len (steps p (stP p no) p.cmds.length)
  unfold nextP
  split
  · simp
  · omega
theorem hop_f {q : Qn} {st lp : List Int} {i : Nat} (hi : i < (wayP st lp).length - 1) (h : hopP q (wayP st lp) (i + 1) = false) : B false = B (runP q st lp) := by
  rw [runP, range_all_false hi h, Bool.and_false]
theorem isRun_spec (q : Qn) (h : vQ q) (st lp : List Int) (t : Told q st lp) : Pu Tryz.prog 60 [aQ q, Is st, Is lp] (B (runP q st lp)) := by
  have h1 := t.l1
  have h2 := t.l2
  have h3 := t.l3
  have hsp := statesP_nat t.g.sp
  have hal := allP_bd t.g.sp
  refine Pu.of fun H => ?_
  refine W60_ok ?_; simp (maxSteps := 1000000) (disch := first | assumption | (apply Ne.symm; assumption)) only [W60, vz, vu, vv, eqS, eqFieldsV, ↓condV_t, ↓condV_f, tabs, reduceCtorEq, Array.toList, ↓reduceIte, Nat.reduceAdd, Nat.reduceLeDiff, Nat.reduceLT, Nat.reduceMul, Nat.reduceSub, Int.reduceToNat, Int.reduceSub, Int.reduceAdd, Int.reduceNeg]
  intro r hr
  have hle : ∀ z, Heap.le H (H.set r z) := fun z => Heap.le_set hr
  refine ⟨by omega, by omega, by omega, szI lp, ?_⟩
  refine lit3 tab_60 rfl tab_46 ⟨rfl, rfl⟩ ?_
  (try simp (maxSteps := 1000000) (disch := first | assumption | (apply Ne.symm; assumption)) only [vz, vu, vv, eqS, eqFieldsV, ↓condV_t, ↓condV_f, tabs, reduceCtorEq, Array.toList, ↓reduceIte, Nat.reduceAdd, Nat.reduceLeDiff, Nat.reduceLT, Nat.reduceMul, Nat.reduceSub, Int.reduceToNat, Int.reduceSub, Int.reduceAdd, Int.reduceNeg])
  have htk : List.take 1 lp = [lp.getD 0 default] := by
    cases lp with
    | nil => simp at h2
    | cons a b => rfl
  have hfl : [st, lp, List.take 1 lp].flatten = wayP st lp := by rw [htk]; simp [wayP]
  have hwl := way_len st lp
  refine ConcatI_spec [st, lp, List.take 1 lp] (by rw [hfl]; omega) (by simp) fun q8 hq8 => ?_
  rw [hfl]
  simp only [Heap.set_none] at hq8
  obtain ⟨n81, n82⟩ := hq8
  have nn81 : r ≠ q8 := Ne.symm n81
  (try simp (maxSteps := 1000000) (disch := first | assumption | (apply Ne.symm; assumption)) only [vz, vu, vv, eqS, eqFieldsV, ↓condV_t, ↓condV_f, tabs, reduceCtorEq, Array.toList, ↓reduceIte, Nat.reduceAdd, Nat.reduceLeDiff, Nat.reduceLT, Nat.reduceMul, Nat.reduceSub, Int.reduceToNat, Int.reduceSub, Int.reduceAdd, Int.reduceNeg])
  refine Pu.use (graph_spec q.prog t.g.small h.1) ?_
  (try simp (maxSteps := 1000000) (disch := first | assumption | (apply Ne.symm; assumption)) only [vz, vu, vv, eqS, eqFieldsV, ↓condV_t, ↓condV_f, tabs, reduceCtorEq, Array.toList, ↓reduceIte, Nat.reduceAdd, Nat.reduceLeDiff, Nat.reduceLT, Nat.reduceMul, Nat.reduceSub, Int.reduceToNat, Int.reduceSub, Int.reduceAdd, Int.reduceNeg])
  have hin := way_in t
  have hrun : runP q st lp = (holdP q.prog q.prog.start ((wayP st lp).getD 0 default).toNat && (List.range ((wayP st lp).length - 1)).all fun i => hopP q (wayP st lp) (i + 1)) := rfl
  have hf := fun {i : Nat} (hi : i < (wayP st lp).length - 1) => hop_f (q := q) (st := st) (lp := lp) hi
  generalize wayP st lp = w at *
  refine L60_0_rule (1 : Nat) (fun i => I i) (fun _ => (H.set r [I q.prog.wide, I q.prog.vars, Ns q.prog.start, Cms q.prog.cmds, Nss q.asks, Ds q.say]).set q8 (cP fI w)) (fun i => 1 ≤ i ∧ i ≤ w.length ∧ ((List.range (i - 1)).all fun j => hopP q w (j + 1)) = true) (fun i => w.length - i) ⟨⟨by omega, by omega, by simp⟩, .refl _, Heap.le_refl _⟩ ?_
  rintro i ⟨hi0, hi, ha⟩
  have e1 : IntKind.i64.wrap ((i : Int) - 1) = ((i - 1 : Nat) : Int) := by rw [i64_id (by omega) (by omega)]; omega
  (try simp (maxSteps := 1000000) (disch := first | assumption | (apply Ne.symm; assumption)) only [vz, vu, vv, eqS, eqFieldsV, ↓condV_t, ↓condV_f, tabs, reduceCtorEq, Array.toList, ↓reduceIte, Nat.reduceAdd, Nat.reduceLeDiff, Nat.reduceLT, Nat.reduceMul, Nat.reduceSub, Int.reduceToNat, Int.reduceSub, Int.reduceAdd, Int.reduceNeg, B60_0, e1])
  refine ⟨fun c1 => ⟨by omega, by omega, by omega, ?_⟩, fun c1 => ⟨by omega, by omega, by omega, ?_⟩⟩
  · have hlt : i < w.length := by omega
    have r1 := read_row (f := fI) (xs := w) (k := i - 1) default (by omega)
    have r2 := read_row (f := fI) (xs := w) (k := i) default hlt
    obtain ⟨i0, i1⟩ := hin _ (getD_all (p := fun x => x ∈ w) (d := default) (fun _ h => h) (show i - 1 < w.length by omega))
    obtain ⟨n, hn⟩ : ∃ n : Nat, w.getD (i - 1) default = n := ⟨_, (Int.toNat_of_nonneg i0).symm⟩
    have hg := grN_get q.prog (n := allP q.prog) (i := n) (by omega)
    have hgl := grN_len q.prog (allP q.prog)
    have hhop : hopP q w i = decide (w.getD i default ∈ nextP q.prog n) := by rw [hopP, hn, Int.toNat_natCast]
    have hii : i - 1 + 1 = i := by omega
    rw [Nat.mul_one, r1, Nat.mul_one, r2, hn]
    (try simp (maxSteps := 1000000) (disch := first | assumption | (apply Ne.symm; assumption)) only [vz, vu, vv, eqS, eqFieldsV, ↓condV_t, ↓condV_f, tabs, reduceCtorEq, Array.toList, ↓reduceIte, Nat.reduceAdd, Nat.reduceLeDiff, Nat.reduceLT, Nat.reduceMul, Nat.reduceSub, Int.reduceToNat, Int.reduceSub, Int.reduceAdd, Int.reduceNeg, hgl])
    rw [hg]
    refine ⟨by omega, by omega, by omega, by omega, by omega, ?_⟩
    refine Pu.use (ContainsI_spec _ _ (nextP_len t.g.sp n)) ?_
    rw [← hhop]
    cases hh : hopP q w i
    · (try simp (maxSteps := 1000000) (disch := first | assumption | (apply Ne.symm; assumption)) only [vz, vu, vv, eqS, eqFieldsV, ↓condV_t, ↓condV_f, tabs, reduceCtorEq, Array.toList, ↓reduceIte, Nat.reduceAdd, Nat.reduceLeDiff, Nat.reduceLT, Nat.reduceMul, Nat.reduceSub, Int.reduceToNat, Int.reduceSub, Int.reduceAdd, Int.reduceNeg])
      refine ⟨hf (i := i - 1) (by omega) (by rw [hii]; exact hh), ?_⟩
      generalize cP fI w = zz
      (intro y b hy; simp only [Heap.set, Heap.del] at hy ⊢; (repeat' split at hy) <;> (repeat' split) <;> simp_all [cells])
    · (try simp (maxSteps := 1000000) (disch := first | assumption | (apply Ne.symm; assumption)) only [vz, vu, vv, eqS, eqFieldsV, ↓condV_t, ↓condV_f, tabs, reduceCtorEq, Array.toList, ↓reduceIte, Nat.reduceAdd, Nat.reduceLeDiff, Nat.reduceLT, Nat.reduceMul, Nat.reduceSub, Int.reduceToNat, Int.reduceSub, Int.reduceAdd, Int.reduceNeg])
      refine ⟨i + 1, ⟨by omega, by omega, ?_⟩, by omega, ?_⟩
      · rw [show i + 1 - 1 = i - 1 + 1 by omega, range_all_succ, ha, hii, hh]; rfl
      · rw [wk_int, i64_id (by omega) (by omega)]; simp
  · have : i = w.length := by omega
    subst this
    have h0 := read_row (f := fI) (xs := w) (k := 0) default (by omega)
    rw [List.drop_zero] at h0
    obtain ⟨i0, i1⟩ := hin _ (getD_all (p := fun x => x ∈ w) (d := default) (fun _ h => h) (show 0 < w.length by omega))
    obtain ⟨n, hn⟩ : ∃ n : Nat, w.getD 0 default = n := ⟨_, (Int.toNat_of_nonneg i0).symm⟩
    rw [h0, hn]
    refine Pu.use (stateOf_spec q.prog t.g.sp n (by omega)) ?_
    (try simp (maxSteps := 1000000) (disch := first | assumption | (apply Ne.symm; assumption)) only [vz, vu, vv, eqS, eqFieldsV, ↓condV_t, ↓condV_f, tabs, reduceCtorEq, Array.toList, ↓reduceIte, Nat.reduceAdd, Nat.reduceLeDiff, Nat.reduceLT, Nat.reduceMul, Nat.reduceSub, Int.reduceToNat, Int.reduceSub, Int.reduceAdd, Int.reduceNeg])
    refine Pu.use (holds_spec q.prog t.g.sp q.prog.start h.1.1 _ (stP_len' _ _) (stP_lt' _ _) t.g.sp.start) ⟨?_, ?_⟩
    · rw [hrun, ha, Bool.and_true, hn, Int.toNat_natCast]; rfl
    · generalize cP fI w = zz
      (intro y b hy; simp only [Heap.set, Heap.del] at hy ⊢; (repeat' split at hy) <;> (repeat' split) <;> simp_all [cells])
theorem l14IsRun_spec (q : Qn) (h : vQ q) (st lp : List Int) (t : Told q st lp) : Pu Tryz.prog 58 [aQ q, Is st, Is lp] (B (runP q st lp)) := by
  have h1 := t.l1
  have h2 := t.l2
  have h3 := t.l3
  have hsp := statesP_nat t.g.sp
  have hal := allP_bd t.g.sp
  have hwl := way_len st lp
  refine Pu.of fun H => ?_
  refine W58_ok ?_; simp (maxSteps := 1000000) (disch := first | assumption | (apply Ne.symm; assumption)) only [W58, vz, vu, vv, eqS, eqFieldsV, ↓condV_t, ↓condV_f, tabs, reduceCtorEq, Array.toList, ↓reduceIte, Nat.reduceAdd, Nat.reduceLeDiff, Nat.reduceLT, Nat.reduceMul, Nat.reduceSub, Int.reduceToNat, Int.reduceSub, Int.reduceAdd, Int.reduceNeg]
  intro r hr
  have hle : ∀ z, Heap.le H (H.set r z) := fun z => Heap.le_set hr
  refine ⟨by omega, by omega, ?_⟩
  (try simp (maxSteps := 1000000) (disch := first | assumption | (apply Ne.symm; assumption)) only [vz, vu, vv, eqS, eqFieldsV, ↓condV_t, ↓condV_f, tabs, reduceCtorEq, Array.toList, ↓reduceIte, Nat.reduceAdd, Nat.reduceLeDiff, Nat.reduceLT, Nat.reduceMul, Nat.reduceSub, Int.reduceToNat, Int.reduceSub, Int.reduceAdd, Int.reduceNeg, buildN1, safeV_some, newV_some])
  refine l1OwnQ st (by omega) fun q0 hq0 => ?_
  rw [Heap.set_none] at hq0
  have nn0 := hq0.1
  have nn0' : r ≠ q0 := Ne.symm nn0
  (try simp (maxSteps := 1000000) (disch := first | assumption | (apply Ne.symm; assumption)) only [vz, vu, vv, eqS, eqFieldsV, ↓condV_t, ↓condV_f, tabs, reduceCtorEq, Array.toList, ↓reduceIte, Nat.reduceAdd, Nat.reduceLeDiff, Nat.reduceLT, Nat.reduceMul, Nat.reduceSub, Int.reduceToNat, Int.reduceSub, Int.reduceAdd, Int.reduceNeg])
  refine app_topI (xs := st) (ys := lp) (by rw [Heap.set_other nn0]; exact hq0.2) (by omega) fun q1 hq1 => ?_
  rw [Heap.set_none] at hq1
  have nn1 := hq1.1
  have nn1' : r ≠ q1 := Ne.symm nn1
  (try simp (maxSteps := 1000000) (disch := first | assumption | (apply Ne.symm; assumption)) only [vz, vu, vv, eqS, eqFieldsV, ↓condV_t, ↓condV_f, tabs, reduceCtorEq, Array.toList, ↓reduceIte, Nat.reduceAdd, Nat.reduceLeDiff, Nat.reduceLT, Nat.reduceMul, Nat.reduceSub, Int.reduceToNat, Int.reduceSub, Int.reduceAdd, Int.reduceNeg])
  intro r5 n51 n5 hr5
  have nn51 : q1 ≠ r5 := Ne.symm n51
  have nn5 : r ≠ r5 := Ne.symm n5
  refine app_one (by rw [Heap.set_other nn51, Heap.set_same]) (Heap.set_same _ _ _) (by simp only [List.length_append]; omega) fun q2 hq2 => ?_
  have ew : st ++ lp ++ [lp.getD 0 default] = wayP st lp := rfl
  rw [ew]
  simp only [Heap.set_none] at hq2
  obtain ⟨m5, m1, m0, m⟩ := hq2
  have m0' : r ≠ q2 := Ne.symm m0
  have m1' : q1 ≠ q2 := Ne.symm m1
  have m5' : r5 ≠ q2 := Ne.symm m5
  have hin := way_in t
  have hrun : runP q st lp = (holdP q.prog q.prog.start ((wayP st lp).getD 0 default).toNat && (List.range ((wayP st lp).length - 1)).all fun i => hopP q (wayP st lp) (i + 1)) := rfl
  have hf := fun {i : Nat} (hi : i < (wayP st lp).length - 1) => hop_f (q := q) (st := st) (lp := lp) hi
  have hleG : ∀ z, Heap.le H (((((H.set r [I q.prog.wide, I q.prog.vars, Ns q.prog.start, Cms q.prog.cmds, Nss q.asks, Ds q.say]).set q1 (cP fI (st ++ lp))).set r5 [I (lp.getD 0 default)]).del q1).set q2 z) := fun z => by
    generalize cP fI (st ++ lp) = zz
    have := hq1.2
    (intro y b hy; simp only [Heap.set, Heap.del] at hy ⊢; (repeat' split at hy) <;> (repeat' split) <;> simp_all [cells])
  have hrG : ∀ z, (((((H.set r [I q.prog.wide, I q.prog.vars, Ns q.prog.start, Cms q.prog.cmds, Nss q.asks, Ds q.say]).set q1 (cP fI (st ++ lp))).set r5 [I (lp.getD 0 default)]).del q1).set q2 z) r = some [I q.prog.wide, I q.prog.vars, Ns q.prog.start, Cms q.prog.cmds, Nss q.asks, Ds q.say] := fun z => by
    rw [Heap.set_other m0', Heap.del_other nn1', Heap.set_other nn5, Heap.set_other nn1', Heap.set_same]
  have hqG : ∀ z, (((((H.set r [I q.prog.wide, I q.prog.vars, Ns q.prog.start, Cms q.prog.cmds, Nss q.asks, Ds q.say]).set q1 (cP fI (st ++ lp))).set r5 [I (lp.getD 0 default)]).del q1).set q2 z) q2 = some z := fun z => Heap.set_same _ _ _
  generalize wayP st lp = w at *
  have hleG := hleG (cP fI w)
  have hrG := hrG (cP fI w)
  have hqG := hqG (cP fI w)
  generalize (((((H.set r [I q.prog.wide, I q.prog.vars, Ns q.prog.start, Cms q.prog.cmds, Nss q.asks, Ds q.say]).set q1 (cP fI (st ++ lp))).set r5 [I (lp.getD 0 default)]).del q1).set q2 (cP fI w)) = G at *
  have h0 := read_row (f := fI) (xs := w) (k := 0) default (by omega)
  rw [List.drop_zero] at h0
  obtain ⟨i0, i1⟩ := hin _ (getD_all (p := fun x => x ∈ w) (d := default) (fun _ h => h) (show 0 < w.length by omega))
  (try simp (maxSteps := 1000000) (disch := first | assumption | (apply Ne.symm; assumption)) only [vz, vu, vv, eqS, eqFieldsV, ↓condV_t, ↓condV_f, tabs, reduceCtorEq, Array.toList, ↓reduceIte, Nat.reduceAdd, Nat.reduceLeDiff, Nat.reduceLT, Nat.reduceMul, Nat.reduceSub, Int.reduceToNat, Int.reduceSub, Int.reduceAdd, Int.reduceNeg, load_at hrG, load_at hqG, h0])
  refine ⟨by omega, by omega, by omega, ?_⟩
  refine Pu.use (l8Those_spec q.prog t.g.small q.prog.start h.1.1 t.g.sp.start) ?_
  (try simp (maxSteps := 1000000) (disch := first | assumption | (apply Ne.symm; assumption)) only [vz, vu, vv, eqS, eqFieldsV, ↓condV_t, ↓condV_f, tabs, reduceCtorEq, Array.toList, ↓reduceIte, Nat.reduceAdd, Nat.reduceLeDiff, Nat.reduceLT, Nat.reduceMul, Nat.reduceSub, Int.reduceToNat, Int.reduceSub, Int.reduceAdd, Int.reduceNeg, load_at hqG, h0])
  refine ⟨by omega, ?_⟩
  have hwl2 := whN_len q.prog q.prog.start (allP q.prog)
  refine Pu.use (l1Has_spec _ _ (by omega)) ?_
  have hd : decide (w.getD 0 default ∈ whN q.prog q.prog.start (allP q.prog)) = holdP q.prog q.prog.start (w.getD 0 default).toNat := by
    rw [Bool.eq_iff_iff, decide_eq_true_eq, whN_mem]
    constructor
    · rintro ⟨k, e, _, hk⟩
      rw [e, Int.toNat_natCast]; exact hk
    · intro hk
      exact ⟨_, (Int.toNat_of_nonneg i0).symm, by omega, hk⟩
  rw [hd]
  cases hh : holdP q.prog q.prog.start (w.getD 0 default).toNat
  · (try simp (maxSteps := 1000000) (disch := first | assumption | (apply Ne.symm; assumption)) only [vz, vu, vv, eqS, eqFieldsV, ↓condV_t, ↓condV_f, tabs, reduceCtorEq, Array.toList, ↓reduceIte, Nat.reduceAdd, Nat.reduceLeDiff, Nat.reduceLT, Nat.reduceMul, Nat.reduceSub, Int.reduceToNat, Int.reduceSub, Int.reduceAdd, Int.reduceNeg])
    exact ⟨by rw [hrun, hh, Bool.false_and], hleG⟩
  (try simp (maxSteps := 1000000) (disch := first | assumption | (apply Ne.symm; assumption)) only [vz, vu, vv, eqS, eqFieldsV, ↓condV_t, ↓condV_f, tabs, reduceCtorEq, Array.toList, ↓reduceIte, Nat.reduceAdd, Nat.reduceLeDiff, Nat.reduceLT, Nat.reduceMul, Nat.reduceSub, Int.reduceToNat, Int.reduceSub, Int.reduceAdd, Int.reduceNeg])
  refine L58_0_rule (1 : Nat) (fun i => I i) (fun _ => G) (fun i => 1 ≤ i ∧ i ≤ w.length ∧ ((List.range (i - 1)).all fun j => hopP q w (j + 1)) = true) (fun i => w.length - i) ⟨⟨by omega, by omega, by simp⟩, .refl _, Heap.le_refl _⟩ ?_
  rintro i ⟨hi0, hi, ha⟩
  have e1 : IntKind.i64.wrap ((i : Int) - 1) = ((i - 1 : Nat) : Int) := by rw [i64_id (by omega) (by omega)]; omega
  (try simp (maxSteps := 1000000) (disch := first | assumption | (apply Ne.symm; assumption)) only [vz, vu, vv, eqS, eqFieldsV, ↓condV_t, ↓condV_f, tabs, reduceCtorEq, Array.toList, ↓reduceIte, Nat.reduceAdd, Nat.reduceLeDiff, Nat.reduceLT, Nat.reduceMul, Nat.reduceSub, Int.reduceToNat, Int.reduceSub, Int.reduceAdd, Int.reduceNeg, B58_0, e1, load_at hrG, load_at hqG])
  refine ⟨fun c1 => ⟨by omega, by omega, by omega, by omega, by omega, by omega, ?_⟩, fun c1 => ⟨?_, hleG⟩⟩
  · have hlt : i < w.length := by omega
    have r1 := read_row (f := fI) (xs := w) (k := i - 1) default (by omega)
    have r2 := read_row (f := fI) (xs := w) (k := i) default hlt
    obtain ⟨i0, i1⟩ := hin _ (getD_all (p := fun x => x ∈ w) (d := default) (fun _ h => h) (show i - 1 < w.length by omega))
    obtain ⟨n, hn⟩ : ∃ n : Nat, w.getD (i - 1) default = n := ⟨_, (Int.toNat_of_nonneg i0).symm⟩
    have hhop : hopP q w i = decide (w.getD i default ∈ nextP q.prog n) := by rw [hopP, hn, Int.toNat_natCast]
    have hii : i - 1 + 1 = i := by omega
    rw [Nat.mul_one, r1, Nat.mul_one, r2, hn]
    refine Pu.use (l8Next_spec q.prog t.g.sp h.1 n (by omega)) ?_
    (try simp (maxSteps := 1000000) (disch := first | assumption | (apply Ne.symm; assumption)) only [vz, vu, vv, eqS, eqFieldsV, ↓condV_t, ↓condV_f, tabs, reduceCtorEq, Array.toList, ↓reduceIte, Nat.reduceAdd, Nat.reduceLeDiff, Nat.reduceLT, Nat.reduceMul, Nat.reduceSub, Int.reduceToNat, Int.reduceSub, Int.reduceAdd, Int.reduceNeg, load_at hqG, r2])
    refine ⟨by omega, ?_⟩
    refine Pu.use (l1Has_spec _ _ (nextP_len t.g.sp n)) ?_
    rw [← hhop]
    cases hh : hopP q w i
    · (try simp (maxSteps := 1000000) (disch := first | assumption | (apply Ne.symm; assumption)) only [vz, vu, vv, eqS, eqFieldsV, ↓condV_t, ↓condV_f, tabs, reduceCtorEq, Array.toList, ↓reduceIte, Nat.reduceAdd, Nat.reduceLeDiff, Nat.reduceLT, Nat.reduceMul, Nat.reduceSub, Int.reduceToNat, Int.reduceSub, Int.reduceAdd, Int.reduceNeg])
      exact ⟨hf (i := i - 1) (by omega) (by rw [hii]; exact hh), hleG⟩
    · (try simp (maxSteps := 1000000) (disch := first | assumption | (apply Ne.symm; assumption)) only [vz, vu, vv, eqS, eqFieldsV, ↓condV_t, ↓condV_f, tabs, reduceCtorEq, Array.toList, ↓reduceIte, Nat.reduceAdd, Nat.reduceLeDiff, Nat.reduceLT, Nat.reduceMul, Nat.reduceSub, Int.reduceToNat, Int.reduceSub, Int.reduceAdd, Int.reduceNeg])
      refine ⟨i + 1, ⟨by omega, by omega, ?_⟩, by omega, ?_⟩
      · rw [show i + 1 - 1 = i - 1 + 1 by omega, range_all_succ, ha, hii, hh]; rfl
      · rw [wk_int, i64_id (by omega) (by omega)]; simp
  · have : i = w.length := by omega
    subst this
    rw [hrun, ha, hh]; rfl
def irR (q : Qn) (st lp : List Int) : Bool × Bool := if toldP q st lp = true then (runP q st lp, true) else (false, false)
theorem irR_f {q : Qn} {st lp : List Int} (h : toldP q st lp = false) : irR q st lp = (false, false) := by unfold irR; rw [if_neg (by rw [h]; simp)]
theorem irR_t {q : Qn} {st lp : List Int} (h : toldP q st lp = true) : irR q st lp = (runP q st lp, true) := by unfold irR; rw [if_pos h]
theorem IsRun_impl (q : Qn) (h : vQ q) (st lp : List Int) (h1 : st.length ≤ 1048576) (h2 : lp.length ≤ 1048576) : Pu Tryz.prog 17 [aQ q, Is st, Is lp] (.tup [B (irR q st lp).1, B (irR q st lp).2]) := by
  refine Pu.of fun H => ?_
  refine W17_ok ?_; simp (maxSteps := 1000000) (disch := first | assumption | (apply Ne.symm; assumption)) only [W17, vz, vu, vv, eqS, eqFieldsV, ↓condV_t, ↓condV_f, tabs, reduceCtorEq, Array.toList, ↓reduceIte, Nat.reduceAdd, Nat.reduceLeDiff, Nat.reduceLT, Nat.reduceMul, Nat.reduceSub, Int.reduceToNat, Int.reduceSub, Int.reduceAdd, Int.reduceNeg]
  intro r hr
  have hle : ∀ z, Heap.le H (H.set r z) := fun z => Heap.le_set hr
  refine Pu.use (areStates_spec q h st lp h1 h2) ?_
  cases ht : toldP q st lp
  · (try simp (maxSteps := 1000000) (disch := first | assumption | (apply Ne.symm; assumption)) only [vz, vu, vv, eqS, eqFieldsV, ↓condV_t, ↓condV_f, tabs, reduceCtorEq, Array.toList, ↓reduceIte, Nat.reduceAdd, Nat.reduceLeDiff, Nat.reduceLT, Nat.reduceMul, Nat.reduceSub, Int.reduceToNat, Int.reduceSub, Int.reduceAdd, Int.reduceNeg])
    rw [irR_f ht]; exact ⟨rfl, hle _⟩
  · (try simp (maxSteps := 1000000) (disch := first | assumption | (apply Ne.symm; assumption)) only [vz, vu, vv, eqS, eqFieldsV, ↓condV_t, ↓condV_f, tabs, reduceCtorEq, Array.toList, ↓reduceIte, Nat.reduceAdd, Nat.reduceLeDiff, Nat.reduceLT, Nat.reduceMul, Nat.reduceSub, Int.reduceToNat, Int.reduceSub, Int.reduceAdd, Int.reduceNeg])
    rw [irR_t ht]
    exact Pu.use (isRun_spec q h st lp (told_of ht)) ⟨rfl, hle _⟩
theorem IsRun_ref (q : Qn) (h : vQ q) (st lp : List Int) (h1 : st.length ≤ 1048576) (h2 : lp.length ≤ 1048576) : Pu Tryz.prog 15 [aQ q, Is st, Is lp] (.tup [B (irR q st lp).1, B (irR q st lp).2]) := by
  refine Pu.of fun H => ?_
  refine W15_ok ?_; simp (maxSteps := 1000000) (disch := first | assumption | (apply Ne.symm; assumption)) only [W15, vz, vu, vv, eqS, eqFieldsV, ↓condV_t, ↓condV_f, tabs, reduceCtorEq, Array.toList, ↓reduceIte, Nat.reduceAdd, Nat.reduceLeDiff, Nat.reduceLT, Nat.reduceMul, Nat.reduceSub, Int.reduceToNat, Int.reduceSub, Int.reduceAdd, Int.reduceNeg]
  intro r hr
  have hle : ∀ z, Heap.le H (H.set r z) := fun z => Heap.le_set hr
  refine Pu.use (l14Told_spec q h st lp h1 h2) ?_
  cases ht : toldP q st lp
  · (try simp (maxSteps := 1000000) (disch := first | assumption | (apply Ne.symm; assumption)) only [vz, vu, vv, eqS, eqFieldsV, ↓condV_t, ↓condV_f, tabs, reduceCtorEq, Array.toList, ↓reduceIte, Nat.reduceAdd, Nat.reduceLeDiff, Nat.reduceLT, Nat.reduceMul, Nat.reduceSub, Int.reduceToNat, Int.reduceSub, Int.reduceAdd, Int.reduceNeg])
    rw [irR_f ht]; exact ⟨rfl, hle _⟩
  · (try simp (maxSteps := 1000000) (disch := first | assumption | (apply Ne.symm; assumption)) only [vz, vu, vv, eqS, eqFieldsV, ↓condV_t, ↓condV_f, tabs, reduceCtorEq, Array.toList, ↓reduceIte, Nat.reduceAdd, Nat.reduceLeDiff, Nat.reduceLT, Nat.reduceMul, Nat.reduceSub, Int.reduceToNat, Int.reduceSub, Int.reduceAdd, Int.reduceNeg])
    rw [irR_t ht]
    exact Pu.use (l14IsRun_spec q h st lp (told_of ht)) ⟨rfl, hle _⟩

theorem FnExactIsRun_true {q : Qn} {st lp : List Int} (hok : okQ q) (hn : nQ q) (o1 : ok st.length) (o2 : ok lp.length) : Pu Tryz.prog 5 [aQ q, Is st, Is lp] (B true) := by
  refine Pu.of fun H => ?_
  refine W5_ok ?_; simp (maxSteps := 1000000) (disch := first | assumption | (apply Ne.symm; assumption)) only [W5, vz, vu, vv, eqS, eqFieldsV, ↓condV_t, ↓condV_f, tabs, reduceCtorEq, Array.toList, ↓reduceIte, Nat.reduceAdd, Nat.reduceLeDiff, Nat.reduceLT, Nat.reduceMul, Nat.reduceSub, Int.reduceToNat, Int.reduceSub, Int.reduceAdd, Int.reduceNeg]
  intro r hr
  have hle := Heap.le_set (b := [I q.prog.wide, I q.prog.vars, Ns q.prog.start, Cms q.prog.cmds, Nss q.asks, Ds q.say]) hr
  refine ⟨fun _ => hle, fun c1 => ⟨fun _ => hle, fun c2 => ?_⟩⟩
  have h1 : st.length ≤ 1048576 := by omega
  have h2 : lp.length ≤ 1048576 := by omega
  refine Pu.use (szQuestion_spec q 1048576 (by omega) (by omega) hok) ?_
  (try simp (maxSteps := 1000000) (disch := first | assumption | (apply Ne.symm; assumption)) only [vz, vu, vv, eqS, eqFieldsV, ↓condV_t, ↓condV_f, tabs, reduceCtorEq, Array.toList, ↓reduceIte, Nat.reduceAdd, Nat.reduceLeDiff, Nat.reduceLT, Nat.reduceMul, Nat.reduceSub, Int.reduceToNat, Int.reduceSub, Int.reduceAdd, Int.reduceNeg])
  refine ⟨fun _ => hle, fun h1 => ?_⟩
  obtain ⟨t1, e1⟩ := szR_nonneg h1
  have hsm := smQ_of_tot t1
  have hv := vQ_of hsm hn
  refine Pu.use (toQuestion_spec q hsm) ?_
  (try simp (maxSteps := 1000000) (disch := first | assumption | (apply Ne.symm; assumption)) only [vz, vu, vv, eqS, eqFieldsV, ↓condV_t, ↓condV_f, tabs, reduceCtorEq, Array.toList, ↓reduceIte, Nat.reduceAdd, Nat.reduceLeDiff, Nat.reduceLT, Nat.reduceMul, Nat.reduceSub, Int.reduceToNat, Int.reduceSub, Int.reduceAdd, Int.reduceNeg])
  refine Pu.use (toIntS_spec st (by omega)) ?_
  (try simp (maxSteps := 1000000) (disch := first | assumption | (apply Ne.symm; assumption)) only [vz, vu, vv, eqS, eqFieldsV, ↓condV_t, ↓condV_f, tabs, reduceCtorEq, Array.toList, ↓reduceIte, Nat.reduceAdd, Nat.reduceLeDiff, Nat.reduceLT, Nat.reduceMul, Nat.reduceSub, Int.reduceToNat, Int.reduceSub, Int.reduceAdd, Int.reduceNeg])
  refine Pu.use (toIntS_spec lp (by omega)) ?_
  (try simp (maxSteps := 1000000) (disch := first | assumption | (apply Ne.symm; assumption)) only [vz, vu, vv, eqS, eqFieldsV, ↓condV_t, ↓condV_f, tabs, reduceCtorEq, Array.toList, ↓reduceIte, Nat.reduceAdd, Nat.reduceLeDiff, Nat.reduceLT, Nat.reduceMul, Nat.reduceSub, Int.reduceToNat, Int.reduceSub, Int.reduceAdd, Int.reduceNeg])
  refine Pu.use (IsRun_ref q hv st lp (by omega) (by omega)) ?_
  (try simp (maxSteps := 1000000) (disch := first | assumption | (apply Ne.symm; assumption)) only [vz, vu, vv, eqS, eqFieldsV, ↓condV_t, ↓condV_f, tabs, reduceCtorEq, Array.toList, ↓reduceIte, Nat.reduceAdd, Nat.reduceLeDiff, Nat.reduceLT, Nat.reduceMul, Nat.reduceSub, Int.reduceToNat, Int.reduceSub, Int.reduceAdd, Int.reduceNeg])
  refine Pu.use (toQuestion_spec q hsm) ?_
  (try simp (maxSteps := 1000000) (disch := first | assumption | (apply Ne.symm; assumption)) only [vz, vu, vv, eqS, eqFieldsV, ↓condV_t, ↓condV_f, tabs, reduceCtorEq, Array.toList, ↓reduceIte, Nat.reduceAdd, Nat.reduceLeDiff, Nat.reduceLT, Nat.reduceMul, Nat.reduceSub, Int.reduceToNat, Int.reduceSub, Int.reduceAdd, Int.reduceNeg])
  intro r7 n7 hr7
  have nn7 : r ≠ r7 := Ne.symm n7
  (try simp (maxSteps := 1000000) (disch := first | assumption | (apply Ne.symm; assumption)) only [vz, vu, vv, eqS, eqFieldsV, ↓condV_t, ↓condV_f, tabs, reduceCtorEq, Array.toList, ↓reduceIte, Nat.reduceAdd, Nat.reduceLeDiff, Nat.reduceLT, Nat.reduceMul, Nat.reduceSub, Int.reduceToNat, Int.reduceSub, Int.reduceAdd, Int.reduceNeg])
  refine Pu.use (toIntS_spec st (by omega)) ?_
  (try simp (maxSteps := 1000000) (disch := first | assumption | (apply Ne.symm; assumption)) only [vz, vu, vv, eqS, eqFieldsV, ↓condV_t, ↓condV_f, tabs, reduceCtorEq, Array.toList, ↓reduceIte, Nat.reduceAdd, Nat.reduceLeDiff, Nat.reduceLT, Nat.reduceMul, Nat.reduceSub, Int.reduceToNat, Int.reduceSub, Int.reduceAdd, Int.reduceNeg])
  refine Pu.use (toIntS_spec lp (by omega)) ?_
  (try simp (maxSteps := 1000000) (disch := first | assumption | (apply Ne.symm; assumption)) only [vz, vu, vv, eqS, eqFieldsV, ↓condV_t, ↓condV_f, tabs, reduceCtorEq, Array.toList, ↓reduceIte, Nat.reduceAdd, Nat.reduceLeDiff, Nat.reduceLT, Nat.reduceMul, Nat.reduceSub, Int.reduceToNat, Int.reduceSub, Int.reduceAdd, Int.reduceNeg])
  refine Pu.use (IsRun_impl q hv st lp (by omega) (by omega)) ?_
  generalize (irR q st lp).1 = a
  generalize (irR q st lp).2 = b
  (try simp (maxSteps := 1000000) (disch := first | assumption | (apply Ne.symm; assumption)) only [vz, vu, vv, eqS, eqFieldsV, ↓condV_t, ↓condV_f, tabs, reduceCtorEq, Array.toList, ↓reduceIte, Nat.reduceAdd, Nat.reduceLeDiff, Nat.reduceLT, Nat.reduceMul, Nat.reduceSub, Int.reduceToNat, Int.reduceSub, Int.reduceAdd, Int.reduceNeg])
  cases a <;> cases b
  all_goals
    (try simp (maxSteps := 1000000) (disch := first | assumption | (apply Ne.symm; assumption)) only [vz, vu, vv, eqS, eqFieldsV, ↓condV_t, ↓condV_f, tabs, reduceCtorEq, Array.toList, ↓reduceIte, Nat.reduceAdd, Nat.reduceLeDiff, Nat.reduceLT, Nat.reduceMul, Nat.reduceSub, Int.reduceToNat, Int.reduceSub, Int.reduceAdd, Int.reduceNeg])
    refine Pu.use (toQuestion_spec q hsm) ?_
    (try simp (maxSteps := 1000000) (disch := first | assumption | (apply Ne.symm; assumption)) only [vz, vu, vv, eqS, eqFieldsV, ↓condV_t, ↓condV_f, tabs, reduceCtorEq, Array.toList, ↓reduceIte, Nat.reduceAdd, Nat.reduceLeDiff, Nat.reduceLT, Nat.reduceMul, Nat.reduceSub, Int.reduceToNat, Int.reduceSub, Int.reduceAdd, Int.reduceNeg])
    refine Pu.use (eqQuestion_spec q hsm) ?_
    (try simp (maxSteps := 1000000) (disch := first | assumption | (apply Ne.symm; assumption)) only [vz, vu, vv, eqS, eqFieldsV, ↓condV_t, ↓condV_f, tabs, reduceCtorEq, Array.toList, ↓reduceIte, Nat.reduceAdd, Nat.reduceLeDiff, Nat.reduceLT, Nat.reduceMul, Nat.reduceSub, Int.reduceToNat, Int.reduceSub, Int.reduceAdd, Int.reduceNeg])
    refine Pu.use (toIntS_spec st (by omega)) ?_
    (try simp (maxSteps := 1000000) (disch := first | assumption | (apply Ne.symm; assumption)) only [vz, vu, vv, eqS, eqFieldsV, ↓condV_t, ↓condV_f, tabs, reduceCtorEq, Array.toList, ↓reduceIte, Nat.reduceAdd, Nat.reduceLeDiff, Nat.reduceLT, Nat.reduceMul, Nat.reduceSub, Int.reduceToNat, Int.reduceSub, Int.reduceAdd, Int.reduceNeg])
    refine Pu.use (eqIntS_spec st (by omega)) ?_
    (try simp (maxSteps := 1000000) (disch := first | assumption | (apply Ne.symm; assumption)) only [vz, vu, vv, eqS, eqFieldsV, ↓condV_t, ↓condV_f, tabs, reduceCtorEq, Array.toList, ↓reduceIte, Nat.reduceAdd, Nat.reduceLeDiff, Nat.reduceLT, Nat.reduceMul, Nat.reduceSub, Int.reduceToNat, Int.reduceSub, Int.reduceAdd, Int.reduceNeg])
    refine Pu.use (toIntS_spec lp (by omega)) ?_
    (try simp (maxSteps := 1000000) (disch := first | assumption | (apply Ne.symm; assumption)) only [vz, vu, vv, eqS, eqFieldsV, ↓condV_t, ↓condV_f, tabs, reduceCtorEq, Array.toList, ↓reduceIte, Nat.reduceAdd, Nat.reduceLeDiff, Nat.reduceLT, Nat.reduceMul, Nat.reduceSub, Int.reduceToNat, Int.reduceSub, Int.reduceAdd, Int.reduceNeg])
    refine Pu.use (eqIntS_spec lp (by omega)) ?_
    (try simp (maxSteps := 1000000) (disch := first | assumption | (apply Ne.symm; assumption)) only [vz, vu, vv, eqS, eqFieldsV, ↓condV_t, ↓condV_f, tabs, reduceCtorEq, Array.toList, ↓reduceIte, Nat.reduceAdd, Nat.reduceLeDiff, Nat.reduceLT, Nat.reduceMul, Nat.reduceSub, Int.reduceToNat, Int.reduceSub, Int.reduceAdd, Int.reduceNeg])
    (repeat first | exact Heap.le_refl _ | refine Heap.le_setN ?_ (by assumption))
end Go.Proofs.YtgcklgeifdefhaaGreat
/- The row of the law that IsRun answers as the reference does: whatever the arguments, it answers true, and what it is told reads as it did. -/
namespace Go.Proofs.YtgcklgeifdefhaaGreat.isRun
open Go Go.Sep Go.ChangeShapes Go.WideShapes Go.ChangeAt Go.RowKit
set_option linter.unusedVariables false

theorem own : ownKnob Tryz.prog.godebug = none := by kernel_rfl

theorem told (avs : List AV) (h : ArgsT Tryz.prog [29, 46, 46] avs) : CallT Tryz.prog 5 avs (fun _ => none) (fun v _ => v = .p (.bool true)) := by
  obtain ⟨a, b, rfl, h1, h⟩ := args_cons h
  obtain ⟨b, c, rfl, h2, h⟩ := args_cons h
  obtain ⟨c, d, rfl, h3, h⟩ := args_cons h
  cases args_nil h
  obtain ⟨x1, hx1, hn1, rfl⟩ := arg_question h1
  obtain ⟨x2, hx2, rfl⟩ := arg_ints h2
  obtain ⟨x3, hx3, rfl⟩ := arg_ints h3
  exact (FnExactIsRun_true hx1 hn1 hx2 hx3).use rfl

set_option maxRecDepth 100000 in
theorem lifted (os : Os) (started : os.Started) (H : Type) (enc : TypeId × Value → H) :
    ReturnsInHanded {} Tryz.checked os 5 .any (Rows.fnExactIsRunSpec.pre6 enc Tryz.prog Tryz.f5 Rows.fnExactIsRunRow.domain false) (Rows.fnExactIsRunSpec.post enc Tryz.prog Tryz.f5 false true false false) := by
  refine returnsInHanded_of_change (C := Tryz.checked) own started (by kernel_rfl) Tryz.func5
    (ChangeSpec.witness6 (enc := enc) (C := Tryz.checked) false ⟨#[], #[.agg #[.int .i64 0, .int .i64 0, .slice none 0 0, .slice none 0 0, .slice none 0 0, .slice none 0 0], .slice none 0 0, .slice none 0 0], []⟩ 12 (by kernel_rfl) (by kernel_rfl) (by kernel_rfl) (by kernel_rfl)) ?_
  intro W base args ds gs before hval hW _ _
  refine row_of_true (n := 12) (tb := 4) (by kernel_rfl) rfl (by kernel_rfl) (by kernel_rfl) ?_ ?_ ?_ hval hW
  · have : (Tryz.f5.params.toList.all fun t => Tryz.prog.readableRec t && decide (t < Tryz.prog.types.size) && plainB Tryz.prog 12 t) = true := by kernel_rfl
    intro t ht
    have := List.all_eq_true.1 this t ht
    rw [Bool.and_eq_true, Bool.and_eq_true, decide_eq_true_eq] at this
    exact ⟨this.1.1, this.1.2, this.2⟩
  · intro ds hd
    rw [Tryz.params5] at hd
    match ds, hd with
    | [a, b, c], _ => rfl
  · rw [Tryz.params5]
    exact told

theorem over : Rows.fnExactIsRunRow.holds Tryz.pinned (OpenSpec.ofChange Rows.fnExactIsRunSpec) :=
  OpenClaim.holds_of_wide 5 Tryz.f5 rfl rfl rfl rfl rfl rfl rfl ⟨rfl, rfl, rfl, rfl, rfl⟩ rfl rfl rfl rfl rfl (by kernel_rfl) Tryz.func5 (by kernel_rfl)
    (of_decide_eq_true (by kernel_rfl)) (by unfold Func.isWrapper; first | (rw [if_pos (by decide +kernel)]; kernel_rfl) | (rw [if_neg (by decide +kernel)]; exact ⟨rfl, rfl⟩))
    (fun os started H enc _ => lifted os started H enc)

/-- The statement. -/
theorem proved : Rows.FnExactIsRunSaid :=
  over
#print axioms proved
end Go.Proofs.YtgcklgeifdefhaaGreat.isRun
