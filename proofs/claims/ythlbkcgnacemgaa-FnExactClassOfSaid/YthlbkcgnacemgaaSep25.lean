/- Sep, part 25: from a call's outcome to a row. -/
import Derived.Test.YthlbkcgnacemgaaSep24
namespace Go.Sep
open Go Go.RowKit Go.ChangeShapes Go.WideShapes

/-- An argument of a type, by value. -/
inductive ArgT (P : Program) : TypeId → AV → Prop where
  | cell {t : TypeId} {p : PV} (hs : ∀ fs, P.underlying t ≠ some (.struct fs)) (h : Typed P t [p]) : ArgT P t (.p p)
  | agg {t : TypeId} {fs : Array Field} {pvs : List PV} (hu : P.underlying t = some (.struct fs)) (h : TypedAll P (fs.toList.map (·.type)) pvs) : ArgT P t (.agg (pvs.map .p))
inductive ArgsT (P : Program) : List TypeId → List AV → Prop where
  | nil : ArgsT P [] []
  | cons {t : TypeId} {ts : List TypeId} {v : AV} {vs : List AV} (h : ArgT P t v) (r : ArgsT P ts vs) : ArgsT P (t :: ts) (v :: vs)

section
variable {H : Type} {enc : TypeId × Value → H} {P : Program} {w : World} {sp : Nat → Bool} {held : Bool}

theorem arg_ok {t : TypeId} {v : Value} {d : DataW H} {ps : List MemPlace} {b : Nat} {φ : Pm} (h : DataW.Trod enc P w 0 sp held t v d ps) (hv : Value.okWide P w .any b t v) {n : Nat} (hp : plainB P n t = true) :
    ∃ av, ArgT P t av ∧ Cv (zOf w) φ av v := by
  obtain ⟨fuel, hf⟩ := h
  obtain ⟨pvs, hty, ht⟩ := read_cells fuel t _ _ hf n hp
  by_cases hs : ∃ fs, P.underlying t = some (.struct fs)
  · obtain ⟨fs, hu⟩ := hs
    obtain ⟨cs, rfl, _⟩ := okWide_struct hu hv
    refine ⟨.agg (pvs.map .p), ?_, ?_⟩
    · cases hty with
      | struct h' hf' => exact .agg h' hf'
      | bool h' => rw [hu] at h'; cases h'
      | int h' => rw [hu] at h'; cases h'
      | str h' => rw [hu] at h'; cases h'
      | sl h' => rw [hu] at h'; cases h'
    · refine .agg _ _ (by rw [List.length_map, ht.1]; simp [Value.cells]) ?_
      intro i av x hi hx
      rw [List.getElem?_map] at hi
      cases hq : pvs[i]? with
      | none => rw [hq] at hi; cases hi
      | some p =>
        rw [hq] at hi; cases hi
        exact .p (ht.2 i p x hq (by simpa [Value.cells] using hx))
  · have hs' : ∀ fs, P.underlying t ≠ some (.struct fs) := fun fs e => hs ⟨fs, e⟩
    have hc : v.cells = #[v] := by
      cases n with
      | zero => simp [plainB] at hp
      | succ n =>
        unfold plainB at hp
        unfold Value.okWide at hv
        split at hp <;> rename_i hu <;> (try rw [hu] at hv) <;> first | (exact absurd hu (hs' _)) | (cases hp; done) | skip
        all_goals
          cases v <;> first | rfl | skip
          all_goals simp_all [Cell.okWide, Cell.ok]
    rw [hc] at ht
    obtain ⟨p, rfl⟩ : ∃ p, pvs = [p] := by
      match pvs, ht.1 with
      | [p], _ => exact ⟨p, rfl⟩
    exact ⟨.p p, .cell hs' hty, .p (ht.2 0 p v rfl rfl)⟩

theorem args_ok {φ : Pm} {n b : Nat} : ∀ (ts : List TypeId) (vs : List Value) (ds : List (DataW H)) (ps : List MemPlace), DataW.TrodAll enc P w 0 sp held ts vs ds ps →
    (∀ (j : Nat) t v, ts[j]? = some t → vs[j]? = some v → Value.okWide P w .any b t v) → (∀ t ∈ ts, plainB P n t = true) →
    ∃ avs, ArgsT P ts avs ∧ vs.length = avs.length ∧ ∀ (i : Nat) (av : AV) (x : Value), avs[i]? = some av → vs[i]? = some x → Cv (zOf w) φ av x := by
  intro ts
  induction ts with
  | nil =>
    intro vs ds ps h _ _
    cases vs with
    | nil => exact ⟨[], .nil, rfl, fun i av x hi => by simp at hi⟩
    | cons v vs => exact h.elim
  | cons t ts ih =>
    intro vs ds ps h hv hp
    match vs, ds, h with
    | v :: vs, d :: ds, h =>
      obtain ⟨p, q, h1, h2, rfl⟩ := h
      obtain ⟨av, ha, hc⟩ := arg_ok (φ := φ) h1 (hv 0 t v rfl rfl) (hp t (by simp))
      obtain ⟨avs, hb, hl, hcs⟩ := ih vs ds q h2 (fun j t' v' ht hv' => hv (j + 1) t' v' (by simpa using ht) (by simpa using hv')) (fun t' ht => hp t' (by simp [ht]))
      refine ⟨av :: avs, .cons ha hb, by simp [hl], ?_⟩
      intro i av' x hi hx
      cases i with
      | zero => simp at hi hx; subst hi; subst hx; exact hc
      | succ i => simp at hi hx; exact hcs i av' x hi hx

theorem stay_all (hl : laidOutB P = true) {w' : World} {sp' : Nat → Bool} : ∀ (ts : List TypeId) (vs : List Value) (ds : List (DataW H)) (ps : List MemPlace), DataW.TrodAll enc P w 0 (fun _ => true) true ts vs ds ps →
    (∀ t ∈ ts, P.readableRec t = true ∧ t < P.types.size) → (∀ p ∈ ps, w.sameAt w' p) → (∀ p ∈ ps, sp' p.block = true) → DataW.TrodAll enc P w' 0 sp' true ts vs ds ps := by
  intro ts
  induction ts with
  | nil =>
    intro vs ds ps h _ _ _
    match vs, ds, h with
    | [], [], h => exact h
  | cons t ts ih =>
    intro vs ds ps h ht hs hb
    match vs, ds, h with
    | v :: vs, d :: ds, h =>
      obtain ⟨p, q, h1, h2, rfl⟩ := h
      exact ⟨p, q, WideElems.Trod_stays hl (ht t (by simp)).1 (ht t (by simp)).2 h1 (fun x hx => hs x (by simp [hx])) (fun x hx => hb x (by simp [hx])),
        ih vs ds q h2 (fun t' ht' => ht t' (by simp [ht'])) (fun x hx => hs x (by simp [hx])) (fun x hx => hb x (by simp [hx])), rfl⟩

/-- A law that answers true for whatever it is told: its contract. -/
theorem row_of_true (hl : laidOutB P = true) {f : Nat} {fn : Func} {s : ChangeSpec} {tb : TypeId} {n : Nat} (hvars : s.vars = []) (hres : fn.resultTypes = #[tb]) (hb : P.underlying tb = some .bool)
    (hts : ∀ t ∈ fn.params.toList, P.readableRec t = true ∧ t < P.types.size ∧ plainB P n t = true)
    (hfn : ∀ ds : List (DataW H), ds.length = fn.params.toList.length → s.fn H ds = { results := [.lit (.bool true)], args := ds })
    (hlaw : ∀ avs, ArgsT P fn.params.toList avs → CallT P f avs (fun _ => none) (fun v _ => v = .p (.bool true)))
    {W : World} {base : Nat} {args : Array Value} {ds gs : List (DataW H)} {before : List MemPlace}
    (hval : ∀ (j : Nat) t v, fn.params[j]? = some t → args[j]? = some v → Value.okWide P W .any base t v) (hW : DataW.Whole enc P fn.params.toList s.vars false W args.toList ds gs before) {fresh handsOn : Bool} :
    Calls P f args W fun e W' => ∃ v, e = .returned v ∧ s.post enc P fn false fresh handsOn false W args v W' := by
  have hW' := hW
  obtain ⟨p, q, hA, hV, rfl, hfz, hnd⟩ := hW
  rw [hvars] at hV
  obtain ⟨rfl, rfl⟩ := trodVars_none hV
  simp only [List.append_nil] at hW'
  obtain ⟨avs, ha, hlen, hcv⟩ := args_ok (φ := fun _ => none) (n := n) fn.params.toList args.toList ds p hA (fun j t v ht hv => hval j t v (by simpa using ht) (by simpa using hv)) (fun t ht => (hts t ht).2.2)
  have hlt : ∀ x ∈ p, x.block < W.heap.size := fun x hx => hW'.lt x (by simpa using hx)
  have hor : Heap.or (fun _ => none) (fun _ => none) = (fun _ => none : Heap) := by funext x; rfl
  have sim : Sim (zOf W) (fun _ => none) W.heap.size W (Heap.or (fun _ => none) (fun _ => none)) W := by
    rw [hor]
    exact ⟨Nat.le_refl _, Below.refl _ _, ⟨0, fun _ _ => rfl⟩, fun r blk h => (by simp at h), fun r r' pl pl' h => absurd rfl h, fun b i v h => h, fun b i v _ r pl h => absurd rfl h⟩
  refine ((hlaw avs ha).2 W.heap.size W (fun _ => none) (zOf W) (fun _ => none) W args (fun r h => absurd rfl h) sim ⟨by rw [← hlen]; simp, fun i av x hi hx => hcv i av x hi (by simpa using hx)⟩).mono ?_
  rintro e W' ⟨x, rfl, v, H1, Z1, φ1, rfl, _, _, _, sim1, hc⟩
  have hx : x = .bool true := by cases hc with | p hz => cases hz; rfl
  subst hx
  have hbl := sim1.below
  have hdl : ds.length = fn.params.toList.length := by
    have key : ∀ (ts : List TypeId) (vs : List Value) (ds : List (DataW H)) (ps : List MemPlace), DataW.TrodAll enc P W 0 (fun _ => true) true ts vs ds ps → ds.length = ts.length := by
      intro ts
      induction ts with
      | nil => intro vs ds ps h; match vs, ds, h with | [], [], _ => rfl
      | cons t ts ih => intro vs ds ps h; match vs, ds, h with | v :: vs, d :: ds, h => obtain ⟨a, b, _, h2, _⟩ := h; simp [ih vs ds b h2]
    exact key _ _ _ _ hA
  have hs := hfn (ds ++ []) (by simpa using hdl)
  refine ⟨_, rfl, ds, [], p, [], p, [], by simpa using hW', ?_, ?_, ?_, hbl.frame _, fun h => by cases h⟩
  · rw [hs, hres]; exact trodAll_mk1 (shut_bool hb true)
  · rw [hs]
    simp only [List.append_nil]
    exact stay_all hl _ _ _ _ hA (fun t ht => ⟨(hts t ht).1, (hts t ht).2.1⟩) (fun x hx => hbl.same (hlt x hx)) (fun x hx => by simpa using hlt x hx)
  · rw [hs, hvars]; exact rfl
end
end Go.Sep
