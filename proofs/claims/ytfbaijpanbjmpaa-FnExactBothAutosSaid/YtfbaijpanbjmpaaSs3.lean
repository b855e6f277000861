/- slices.SortFunc of edges, by the shelf's contract, for live rows. -/
import Derived.Test.YtfbaijpanbjmpaaSs1
import Derived.Test.YtfbaijpanbjmpaaLayF
import Derived.Test.YtfbaijpanbjmpaaMa5
import Derived.Shelf.SlSortCmp.NoneTotal
namespace Go.Sep
open Go Go.RowKit Go.Sort Go.Proofs Go.Pt
set_option linter.unusedVariables false

/-- A function of values alone, called in any world: it answers, and the world has only drawn and grown. -/
theorem CallT.quiet {P : Program} {f : Nat} {args : List AV} {v : AV} (h : CallT P f args (fun _ => none) (fun r _ => r = v)) {xs : Array Value} (ha : ∀ Z φ, ArgsRel Z φ args xs) {x : Value} (hx : ∀ Z φ y, Cv Z φ v y → y = x) (w : World) :
    Calls P f xs w fun e w' => e = .returned x ∧ ∃ q os', w' = Go.Sort.grow (w.drewN q) os' := by
  have hor : Heap.or (fun _ => none) (fun _ => none) = (fun _ => none : Heap) := by funext x; rfl
  have sim : Sim (fun _ _ => none) (fun _ => none) w.heap.size w (Heap.or (fun _ => none) (fun _ => none)) w := by
    rw [hor]
    exact ⟨Nat.le_refl _, Bel.refl _ _, ⟨0, fun _ _ => rfl⟩, fun r blk h => (by simp at h), fun r r' pl pl' h => absurd rfl h, fun b i v h => (by cases h), fun b i v _ r pl h => absurd rfl h⟩
  refine (h.2 w.heap.size w (fun _ => none) (fun _ _ => none) (fun _ => none) w xs (fun r h => absurd rfl h) sim (ha _ _)).mono ?_
  rintro e w' ⟨y, rfl, v', H1, Z1, φ1, rfl, _, _, _, s1, hc⟩
  refine ⟨by rw [hx _ _ _ hc], w'.drawn - w.drawn, w'.heap.extract w.heap.size w'.heap.size, ?_⟩
  obtain ⟨⟨h1, h2, h3, h4, h5⟩, h6⟩ := s1.below
  have hh : w'.heap = w.heap ++ w'.heap.extract w.heap.size w'.heap.size := by
    apply Array.ext_getElem?
    intro k
    by_cases hk : k < w.heap.size
    · rw [Array.getElem?_append_left hk]; exact h5 k hk
    · rw [Array.getElem?_append_right (by omega), Array.getElem?_extract]
      by_cases hk2 : k < w'.heap.size
      · rw [if_pos (by omega)]; congr 1; omega
      · rw [if_neg (by omega)]; exact Array.getElem?_eq_none (by omega)
  cases w'; cases w
  simp only [Go.Sort.grow, World.drewN] at *
  subst h1; subst h2; subst h3
  rw [← hh]
  congr 1
  omega
theorem holds_vals {w : World} {b o : Nat} {zs : List Int} (h : Holds (Value.int .i64) w b o zs.toArray) : Holds id w b o (zs.map (Value.int .i64)).toArray := by
  intro j hj
  have hj' : j < zs.length := by simpa using hj
  have := h j (by simpa using hj')
  simpa [hj'] using this
theorem putRow_vals (w : World) (b o : Nat) (zs : List Int) : putRow id w b o (zs.map (Value.int .i64)).toArray = putRow (Value.int .i64) w b o zs.toArray := by
  unfold putRow
  congr 1
  funext c
  unfold putCells
  apply Array.ext_getElem?
  intro k
  simp only [Array.getElem?_mapIdx]
  cases c[k]? with
  | none => rfl
  | some v =>
    simp only [Option.map_some, List.size_toArray, List.length_map]
    congr 1
    by_cases hk : o ≤ k ∧ k < o + zs.length
    · rw [if_pos hk, if_pos hk]
      have : k - o < zs.length := by omega
      simp [this]
    · rw [if_neg hk, if_neg hk]
theorem flat_get {α : Type} (g : α → List Int) (hg : ∀ x, (g x).length = 3) : ∀ (xs : List α) (t : Nat), (xs.flatMap g)[t]? = (xs[t / 3]?).bind fun x => (g x)[t % 3]?
  | [], t => by simp
  | x :: xs, t => by
    rw [List.flatMap_cons, List.getElem?_append, hg]
    by_cases h : t < 3
    · rw [if_pos h]
      have h1 : t / 3 = 0 := by omega
      have h2 : t % 3 = t := by omega
      rw [h1, h2]; rfl
    · rw [if_neg h, flat_get g hg xs (t - 3)]
      have h1 : t / 3 = (t - 3) / 3 + 1 := by omega
      have h2 : (t - 3) % 3 = t % 3 := by omega
      rw [h1, h2, List.getElem?_cons_succ]
abbrev iE (x : Ed) : List Int := [x.src, x.lt, x.dst]
abbrev vE (x : Ed) : List Value := [.int .i64 x.src, .int .i64 x.lt, .int .i64 x.dst]
theorem flatE_len (xs : List Ed) : (xs.flatMap iE).length = xs.length * 3 := by
  induction xs with
  | nil => rfl
  | cons x xs ih => rw [List.flatMap_cons, List.length_append, ih]; simp only [List.length_cons, List.length_nil]; omega
theorem flatE (xs : List Ed) : flatK vE 3 xs.toArray = ((xs.flatMap iE).map (Value.int .i64)).toArray := by
  apply Array.ext_getElem?
  intro t
  have e0 : ∀ l : List Value, (l.toArray)[t]? = l[t]? := fun l => by simp
  refine Eq.trans ?_ (e0 _).symm
  rw [List.getElem?_map, flat_get iE (fun _ => rfl)]
  by_cases ht : t < xs.length * 3
  · have h1 : t / 3 < xs.length := by omega
    have h2 : t % 3 < 3 := by omega
    have h0 : (flatK vE 3 xs.toArray)[t]? = some ((vE (xs.toArray[t / 3]!))[t % 3]!) := by
      have := get_flatK vE 3 xs.toArray t (by simpa using ht)
      rw [← this]
      have hs : t < (flatK vE 3 xs.toArray).size := by simpa using ht
      rw [Array.getElem?_eq_getElem hs, getElem!_pos (flatK vE 3 xs.toArray) t hs]
    rw [h0, List.getElem?_eq_getElem h1, Option.bind_some]
    have h3 : xs.toArray[t / 3]! = xs[t / 3] := by simp [h1]
    rw [h3]
    generalize xs[t / 3] = x
    have : t % 3 = 0 ∨ t % 3 = 1 ∨ t % 3 = 2 := by omega
    rcases this with e | e | e <;> rw [e] <;> rfl
  · rw [Array.getElem?_eq_none (by simp; omega), List.getElem?_eq_none (by omega)]; rfl
end Go.Sep
namespace Go.Proofs.Ytfbaijpanbjmpaa
open Go Go.Sep Go.Pt Go.RowKit Go.Sort
set_option linter.unusedVariables false
attribute [local irreducible] CallT

def cfE (x y : Ed) : Int := if edLt x y then -1 else if edLt y x then 1 else 0
theorem cfE_lt (x y : Ed) : ltOf cfE x y = edLt x y := by
  unfold ltOf cfE
  by_cases h1 : edLt x y
  · simp [h1]
  · by_cases h2 : edLt y x <;> simp [h1, h2]
theorem edLt_iff (x y : Ed) : edLt x y = true ↔ (x.src < y.src ∨ x.src = y.src ∧ (x.lt < y.lt ∨ x.lt = y.lt ∧ x.dst < y.dst)) := by
  unfold edLt
  split
  · split
    · simp; omega
    · simp; omega
  · simp; omega
theorem edLt_iff' (x y : Ed) : edLt x y = false ↔ ¬ (x.src < y.src ∨ x.src = y.src ∧ (x.lt < y.lt ∨ x.lt = y.lt ∧ x.dst < y.dst)) := by
  rw [← edLt_iff]; simp
theorem cfE_swo : SWO (ltOf cfE) where
  irrefl x := by rw [cfE_lt, edLt_iff']; omega
  trans x y z h1 h2 := by rw [cfE_lt, edLt_iff] at *; omega
  ntrans x y z h1 h2 := by rw [cfE_lt, edLt_iff'] at *; omega
theorem cfE_tot (x y : Ed) (h1 : ltOf cfE x y = false) (h2 : ltOf cfE y x = false) : x = y := by
  rw [cfE_lt, edLt_iff'] at *
  cases x; cases y
  simp only [Ed.mk.injEq] at *
  omega
abbrev srtE (xs : List Ed) : List Ed := xs.mergeSort fun x y => !edLt y x
theorem cE_flat (xs : List Ed) : cE xs = (xs.flatMap iE).map fun n => AV.p (.int .i64 n) := by
  induction xs with
  | nil => rfl
  | cons x xs ih => simp only [List.map_cons, cells, List.flatMap_cons, List.map_append] at *; simp_all
theorem SF_hb : HasBody Try.prog 100 := ⟨_, bodyOf Try.f100, Try.func100, by kernel_rfl, rfl⟩
theorem ce_enters : ∀ args w, (callFunc 83 args).run Try.prog w = .ok (.enter 83 args) w := Go.Proofs.enters_of Try.func83 (by kernel_rfl) rfl
theorem ce_lays (blk off size : Nat) (w : World) : CmpLays Try.prog 83 #[] vE 3 cfE blk off size w := by
  intro m os dk _ x y
  refine CallT.quiet (args := [aE x, aE y]) (v := I (cfE x y)) (((compareEdges_spec x y).all _).mono fun _ _ h => h.1) (fun Z φ => ⟨rfl, ?_⟩) ?_ _
  · intro i av x' h1 h2
    have ag : ∀ z : Ed, Cv Z φ (aE z) (.agg (vE z).toArray) := fun z => .agg _ _ rfl fun i av x h1 h2 => by
      match i, h1, h2 with
      | 0, h1, h2 => cases h1; cases h2; exact .p (.int _ _)
      | 1, h1, h2 => cases h1; cases h2; exact .p (.int _ _)
      | 2, h1, h2 => cases h1; cases h2; exact .p (.int _ _)
      | i + 3, h1, h2 => cases h1
    match i, h1, h2 with
    | 0, h1, h2 => cases h1; cases h2; exact ag x
    | 1, h1, h2 => cases h1; cases h2; exact ag y
    | i + 2, h1, h2 => cases h1
  · intro Z φ y' h
    cases h with
    | p h => cases h; rfl
theorem srtE_len (xs : List Ed) : (srtE xs).length = xs.length := List.length_mergeSort ..
theorem SF_row {H : Heap} {q : Nat} {xs : List Ed} {K : AV → Heap → Prop} (hq : H q = some (cE xs)) (hl : xs.length ≤ 1000000000) (h : K (.tup []) (H.set q (cE (srtE xs)))) :
    CallT Try.prog 100 [rowE q xs, .fn 83 []] H K := by
  unfold CallT
  refine ⟨SF_hb, ?_⟩
  intro B0 w0 F Z φ w ys hd hs ha
  obtain ⟨hsz, hrel⟩ := ha
  obtain ⟨x, y, rfl⟩ : ∃ x y, ys = #[x, y] := by
    have h1 : ys.size = 2 := hsz
    refine ⟨ys[0], ys[1], Array.ext (by simp [h1]) fun i hi1 hi2 => ?_⟩
    have : i = 0 ∨ i = 1 := by simp at hi2; omega
    rcases this with rfl | rfl <;> rfl
  have hx := hrel 0 (rowE q xs) x rfl rfl
  have hy := hrel 1 (.fn 83 []) y rfl rfl
  have ey : y = .func (.func 83) #[] #[] := by
    cases hy with
    | fn _ _ xs hs h =>
      have : xs = #[] := by apply Array.eq_empty_of_size_eq_zero; exact hs
      rw [this]
  subst ey
  have hq' : (H.or F) q = some ((xs.flatMap iE).map fun n => AV.p (.int .i64 n)) := by rw [← cE_flat]; exact Heap.or_left hq
  have hFq : F q = none := hd q (by rw [hq]; simp)
  have hfl := flatE_len xs
  have empty : xs = [] → ∀ a c, x = .slice a 0 c → Calls Try.prog 100 #[x, .func (.func 83) #[] #[]] w (fun e w' => ∃ x, e = .returned x ∧ UpV B0 w0 F Z φ K x w') := by
    rintro rfl a c rfl
    refine (AnyF.slices_SortFunc_none Try.laySF a c _ w).mono ?_
    rintro e w' ⟨rfl, rfl⟩
    have hset : H.set q (cE (srtE [])) = H := by
      funext y
      by_cases e : y = q
      · subst e; rw [Heap.set_same, show srtE [] = [] from List.eq_nil_of_length_eq_zero (srtE_len [])]; exact hq.symm
      · rw [Heap.set_other e]
    rw [hset] at h
    exact ⟨_, rfl, .tup [], H, Z, φ, h, Fro.le_refl _, Pm.le_refl _, hd, hs, .tup [] #[] rfl (fun i av x h => by simp at h)⟩
  unfold rowE at hx
  generalize hm : xs.length = m at hx
  cases hx with
  | slz _ _ _ a => exact empty (List.eq_nil_of_length_eq_zero hm) a 0 rfl
  | sl hp hl' hC =>
    rename_i c pl
    subst hm
    by_cases h0 : xs.length = 0
    · exact empty (List.eq_nil_of_length_eq_zero h0) _ _ (by rw [h0])
    have hh := hs.holdsInts hq' (by omega) hp
    have hH : HoldsK vE 3 w pl.b pl.o xs.toArray := by
      unfold HoldsK; rw [flatE]; exact holds_vals hh.1
    have hcon := AnyQ.slices_SortFunc_total Try.laySF 3 (fun w => by kernel_rfl) (fun w => by kernel_rfl) vE (fun _ => rfl) (fun x v hv => by simp at hv; rcases hv with rfl | rfl | rfl <;> rfl) cfE cfE_swo 83 #[] pl.b pl.o c xs.toArray w ce_enters (ce_lays _ _ _ _) hH hh.2 (by simp; omega) cfE_tot
    rw [List.size_toArray] at hcon
    refine hcon.mono ?_
    rintro e w' ⟨rfl, n, os, rfl⟩
    have e1 : (xs.toArray.toList.mergeSort fun x y => !(ltOf cfE) y x) = srtE xs := by
      have : (fun x y => !(ltOf cfE) y x) = fun x y => !edLt y x := by funext x y; rw [cfE_lt]
      rw [this]
    have e2 : sortWorldK vE 3 w pl.b pl.o n (srtE xs).toArray os = Go.Sort.grow (putRow (Value.int .i64) (Go.Sort.ahead w n) pl.b pl.o ((srtE xs).flatMap iE).toArray) os := by
      unfold sortWorldK putRowK
      rw [flatE, putRow_vals]
    rw [e1, e2]
    have s2 := hs.putInts (zs' := (srtE xs).flatMap iE) hq' (by rw [flatE_len, flatE_len, srtE_len]) (by omega) hp n os
    rw [cE_flat] at h
    refine ⟨_, rfl, .tup [], _, Z, φ, h, Fro.le_refl _, Pm.le_refl _, hd.set hFq, ?_, .tup [] #[] rfl (fun i av x h => by simp at h)⟩
    rw [Heap.or_set]; exact s2
theorem SF_nil {H : Heap} {K : AV → Heap → Prop} (h : K (.tup []) H) : CallT Try.prog 100 [.p .nil, .fn 83 []] H K := by
  unfold CallT
  refine ⟨SF_hb, ?_⟩
  intro B0 w0 F Z φ w ys hd hs ha
  obtain ⟨hsz, hrel⟩ := ha
  obtain ⟨x, y, rfl⟩ : ∃ x y, ys = #[x, y] := by
    have h1 : ys.size = 2 := hsz
    refine ⟨ys[0], ys[1], Array.ext (by simp [h1]) fun i hi1 hi2 => ?_⟩
    have : i = 0 ∨ i = 1 := by simp at hi2; omega
    rcases this with rfl | rfl <;> rfl
  have hx := hrel 0 (.p .nil) x rfl rfl
  have ex : x = .slice none 0 0 := by
    cases hx with
    | p h => cases h; rfl
  subst ex
  refine (AnyF.slices_SortFunc_none Try.laySF none 0 _ w).mono ?_
  rintro e w' ⟨rfl, rfl⟩
  exact ⟨_, rfl, .tup [], H, Z, φ, h, Fro.le_refl _, Pm.le_refl _, hd, hs, .tup [] #[] rfl (fun i av x h => by simp at h)⟩
end Go.Proofs.Ytfbaijpanbjmpaa
