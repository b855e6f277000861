/- Sep, part 24: what an argument reads, by value. -/
import Derived.ProofKit
import Derived.Test.YthlbkcgnacemgaaSep23
namespace Go.Sep
open Go Go.RowKit

/-- The cells of a world, all taken as frozen. -/
def zOf (w : World) : Fro := fun b i => w.cell? ⟨b, i, none⟩

mutual
/-- Cells of a type, by value. -/
inductive Typed (P : Program) : TypeId → List PV → Prop where
  | bool {t : TypeId} {b : Bool} (h : P.underlying t = some .bool) : Typed P t [.bool b]
  | int {t : TypeId} {k : IntKind} {n : Int} (h : P.underlying t = some (.int k)) (hw : (Lit.int k n).wf = true) : Typed P t [.int k n]
  | str {t : TypeId} {s : ByteArray} (h : P.underlying t = some .string) (hs : s.size ≤ maxLen) : Typed P t [.str s]
  | sl {t e : TypeId} {es : List (List PV)} (h : P.underlying t = some (.slice e)) (hl : es.length ≤ maxLen) (he : ∀ x ∈ es, Typed P e x) : Typed P t [.sl es]
  | struct {t : TypeId} {fs : Array Field} {pvs : List PV} (h : P.underlying t = some (.struct fs)) (hf : TypedAll P (fs.toList.map (·.type)) pvs) : Typed P t pvs
inductive TypedAll (P : Program) : List TypeId → List PV → Prop where
  | nil : TypedAll P [] []
  | cons {t : TypeId} {ts : List TypeId} {a b : List PV} (h : Typed P t a) (r : TypedAll P ts b) : TypedAll P (t :: ts) (a ++ b)
end

/-- Fields that lie one behind the other. -/
def contig (P : Program) : Nat → List Field → Nat → Bool
  | off, [], n => off == n
  | off, f :: fs, n => f.offset == off && contig P (off + P.cellsOf f.type) fs n

/-- Types of plain data. -/
def plainB (P : Program) : Nat → TypeId → Bool
  | 0, _ => false
  | n + 1, t => match P.underlying t with
    | some .bool => P.cellsOf t == 1
    | some (.int _) => P.cellsOf t == 1
    | some .string => P.cellsOf t == 1
    | some (.slice e) => P.cellsOf t == 1 && decide (0 < P.cellsOf e) && plainB P n e
    | some (.struct fs) => contig P 0 fs.toList (P.cellsOf t) && fs.toList.all fun f => plainB P n f.type
    | _ => false

/-- Cells as they are told. -/
def Told (w : World) (pvs : List PV) (cs : List Value) : Prop := pvs.length = cs.length ∧ ∀ (i : Nat) (p : PV) (v : Value), pvs[i]? = some p → cs[i]? = some v → Cz (zOf w) p v

theorem Told.one {w : World} {p : PV} {v : Value} (h : Cz (zOf w) p v) : Told w [p] [v] := by
  refine ⟨rfl, ?_⟩
  intro i q x hq hx
  cases i with
  | zero => simp at hq hx; subst hq; subst hx; exact h
  | succ i => simp at hq
theorem Told.app {w : World} {a b : List PV} {c d : List Value} (h : Told w a c) (k : Told w b d) : Told w (a ++ b) (c ++ d) := by
  refine ⟨by simp [h.1, k.1], ?_⟩
  intro i q x hq hx
  by_cases hl : i < a.length
  · rw [List.getElem?_append_left hl] at hq
    rw [List.getElem?_append_left (by rw [← h.1]; exact hl)] at hx
    exact h.2 i q x hq hx
  · rw [List.getElem?_append_right (by omega)] at hq
    rw [List.getElem?_append_right (by rw [← h.1]; omega), ← h.1] at hx
    exact k.2 _ q x hq hx

theorem cell_spot {w : World} {a : Addr} {v : Value} (h : w.cell? a = some v) : a.spot = none := by
  unfold World.cell? at h
  split at h
  · split at h
    · cases h
    · rename_i hs; cases hp : a.spot with
      | none => rfl
      | some x => simp [hp] at hs
  · cases h

section
variable {H : Type} {enc : TypeId × Value → H} {P : Program} {w : World} {sp : Nat → Bool} {held : Bool}

theorem read_fields {fuel : Nat} {n : Nat} (cs : List Value) (hlen : cs.length = n) (rec : ∀ t cs (x : DataW H × List MemPlace), DataW.trod enc P w 0 sp held fuel t cs = some x → ∀ m, plainB P m t = true → ∃ pvs, Typed P t pvs ∧ Told w pvs cs) :
    ∀ (fs : List Field) (off m : Nat), contig P off fs n = true → (∀ f ∈ fs, plainB P m f.type = true) → (∀ f ∈ fs, ∃ x, DataW.trod enc P w 0 sp held fuel f.type ((cs.drop f.offset).take (P.cellsOf f.type)) = some x) →
      (∀ f ∈ fs, ∀ pvs, Told w pvs ((cs.drop f.offset).take (P.cellsOf f.type)) → True) →
      ∃ pvs, TypedAll P (fs.map (·.type)) pvs ∧ Told w pvs (cs.drop off) := by
  intro fs
  induction fs with
  | nil =>
    intro off m hc _ _ _
    simp only [contig, beq_iff_eq] at hc
    refine ⟨[], .nil, ?_⟩
    rw [List.drop_of_length_le (by omega)]
    exact ⟨rfl, fun i p v h => by simp at h⟩
  | cons f fs ih =>
    intro off m hc hp hx ht
    simp only [contig, Bool.and_eq_true, beq_iff_eq] at hc
    obtain ⟨x, hx0⟩ := hx f (by simp)
    obtain ⟨a, ha, hta⟩ := rec _ _ _ hx0 m (hp f (by simp))
    obtain ⟨b, hb, htb⟩ := ih (off + P.cellsOf f.type) m hc.2 (fun g hg => hp g (by simp [hg])) (fun g hg => hx g (by simp [hg])) (fun _ _ _ _ => trivial)
    refine ⟨a ++ b, .cons ha hb, ?_⟩
    rw [hc.1] at hta
    have : cs.drop off = (cs.drop off).take (P.cellsOf f.type) ++ cs.drop (off + P.cellsOf f.type) := by
      rw [← List.drop_drop, List.take_append_drop]
    rw [this]
    exact hta.app htb

theorem read_cells : ∀ (fuel : Nat) (t : TypeId) (cs : List Value) (x : DataW H × List MemPlace), DataW.trod enc P w 0 sp held fuel t cs = some x → ∀ m, plainB P m t = true → ∃ pvs, Typed P t pvs ∧ Told w pvs cs := by
  intro fuel
  induction fuel with
  | zero => intro t cs x h; simp [DataW.trod] at h
  | succ fuel ih =>
    intro t cs x h m hm
    cases m with
    | zero => simp [plainB] at hm
    | succ m =>
      unfold plainB at hm
      split at hm
      · rename_i hu
        obtain ⟨b, rfl, rfl⟩ := DataW.trod_bool hu h
        exact ⟨_, .bool hu, .one (.bool b)⟩
      · rename_i k hu
        obtain ⟨n, rfl, rfl, hw⟩ := DataW.trod_int hu h
        exact ⟨_, .int hu hw, .one (.int k n)⟩
      · rename_i hu
        obtain ⟨s, rfl, rfl, hs⟩ := DataW.trod_string hu h
        exact ⟨_, .str hu hs, .one (.str s)⟩
      · rename_i e hu
        simp only [Bool.and_eq_true, decide_eq_true_eq, beq_iff_eq] at hm
        obtain ⟨⟨_, hpos⟩, hpe⟩ := hm
        rcases DataW.trod_slice hu h with ⟨rfl, rfl⟩ | ⟨a, len, cap, elems, rest, n, hn, rfl, hx, hb, hlc, hcm, hel, hget, _, _⟩
        · exact ⟨[.sl []], .sl hu (Nat.zero_le _) (fun x hx => by cases hx), .one (.emp none 0)⟩
        · cases hn
          classical
          by_cases hz : len = 0
          · subst hz
            exact ⟨[.sl []], .sl hu (Nat.zero_le _) (fun x hx => by cases hx), .one (.emp (some a) cap)⟩
          · have hspot : a.spot = none := by
              have hg := hget 0 (by omega)
              rw [List.getElem?_eq_getElem (by rw [hel]; omega)] at hg
              obtain ⟨cs', hcs, hrec⟩ := Option.bind_eq_some_iff.1 hg
              obtain ⟨_, hl2, hc2⟩ := World.cells?_some hcs
              have h0 := hc2 0 hpos
              rw [List.getElem?_eq_getElem (by omega)] at h0
              have := cell_spot h0
              simpa [Addr.add] using this
            obtain ⟨ab, ao, as⟩ := a
            simp only at hspot
            subst hspot
            have hsome : ∀ i, i < len → ∃ ei : List PV, Typed P e ei ∧ ei.length = P.cellsOf e ∧ ∀ j p, ei[j]? = some p → ∃ v, w.cell? ⟨ab, ao + (i * P.cellsOf e + j), none⟩ = some v ∧ Cz (zOf w) p v := by
              intro i hi
              have hg := hget i hi
              rw [List.getElem?_eq_getElem (by rw [hel]; exact hi)] at hg
              obtain ⟨cs', hcs, hrec⟩ := Option.bind_eq_some_iff.1 hg
              obtain ⟨_, hl2, hc2⟩ := World.cells?_some hcs
              obtain ⟨pvs, h1, h2⟩ := ih _ _ _ hrec m hpe
              refine ⟨pvs, h1, by rw [h2.1, hl2], ?_⟩
              intro j p hj
              have hjl : j < cs'.length := by rw [← h2.1]; exact (List.getElem?_eq_some_iff.1 hj).1
              have hcj := hc2 j (by omega)
              rw [List.getElem?_eq_getElem hjl, addr_add, addr_add, Nat.add_assoc] at hcj
              exact ⟨cs'[j], hcj, h2.2 j p _ hj (List.getElem?_eq_getElem hjl)⟩
            let es : List (List PV) := (List.range len).map fun i => if hi : i < len then (hsome i hi).choose else []
            have hes : ∀ i (hi : i < len), es[i]? = some (hsome i hi).choose := by
              intro i hi
              simp only [es, List.getElem?_map, List.getElem?_range hi, Option.map_some, hi, dif_pos]
            have hlen : es.length = len := by simp [es]
            have hmem : ∀ x ∈ es, ∃ i, ∃ hi : i < len, x = (hsome i hi).choose := by
              intro x hx
              obtain ⟨i, hi⟩ := List.getElem?_of_mem hx
              have hil : i < len := by rw [← hlen]; exact (List.getElem?_eq_some_iff.1 hi).1
              rw [hes i hil] at hi
              exact ⟨i, hil, (Option.some.inj hi).symm⟩
            refine ⟨[.sl es], .sl hu (by rw [hlen]; omega) ?_, .one ?_⟩
            · intro x hx
              obtain ⟨i, hi, rfl⟩ := hmem x hx
              exact (hsome i hi).choose_spec.1
            · have hc : Cz (zOf w) (.sl es) (.slice (some ⟨ab, ao, none⟩) es.length cap) := by
                refine Cz.sl es (P.cellsOf e) ab ao cap (fun k => (w.cell? ⟨ab, ao + k, none⟩).getD undef) (by omega) ?_ ?_ ?_
                · intro x hx
                  obtain ⟨i, hi, rfl⟩ := hmem x hx
                  exact (hsome i hi).choose_spec.2.1
                · intro k hk
                  have hki : k / P.cellsOf e < len := by rw [hlen] at hk; exact Nat.div_lt_of_lt_mul (by rw [Nat.mul_comm]; exact hk)
                  have hs := (hsome _ hki).choose_spec
                  have hkj : k % P.cellsOf e < (hsome _ hki).choose.length := by rw [hs.2.1]; exact Nat.mod_lt _ hpos
                  obtain ⟨v, hv, _⟩ := hs.2.2 _ _ (List.getElem?_eq_getElem hkj)
                  rw [Nat.div_add_mod' k (P.cellsOf e)] at hv
                  show w.cell? _ = some _
                  rw [hv]; rfl
                · intro i ei hei j p hj
                  have hil : i < len := by rw [← hlen]; exact (List.getElem?_eq_some_iff.1 hei).1
                  rw [hes i hil] at hei
                  cases hei
                  obtain ⟨v, hv, hcz⟩ := (hsome i hil).choose_spec.2.2 j p hj
                  simp only [hv, Option.getD_some]
                  exact hcz
              rw [hlen] at hc
              exact hc
      · rename_i fs hu
        simp only [Bool.and_eq_true, List.all_eq_true] at hm
        obtain ⟨xs, n, hn, rfl, hl, hxl, hf⟩ := DataW.trod_struct hu h
        cases hn
        obtain ⟨pvs, h1, h2⟩ := read_fields cs hl ih fs.toList 0 m hm.1 hm.2 (by
          intro f hfm
          obtain ⟨i, hi⟩ := List.getElem?_of_mem hfm
          have hi2 : fs[i]? = some f := by simpa using hi
          have := hf i f hi2
          have hil : i < xs.length := by rw [hxl]; exact (Array.getElem?_eq_some_iff.1 hi2).1
          rw [List.getElem?_eq_getElem hil] at this
          exact ⟨_, this⟩) (fun _ _ _ _ => trivial)
        exact ⟨pvs, .struct hu h1, by simpa using h2⟩
      · cases hm
end
end Go.Sep
