/- A contract of the library that turns a row of numbers in place, told of live rows. -/
import Derived.Test.YtgcklgeifdefhaaGreatLb2
import Derived.Sort.Grow
namespace Go.Sep
open Go Go.RowKit Go.Sort Go.Proofs.YtgcklgeifdefhaaGreat
set_option linter.unusedVariables false

theorem Sim.ahead {Z : Fro} {φ : Pm} {B0 : Nat} {w0 w : World} {H : Heap} (s : Sim Z φ B0 w0 H w) (n : Nat) : Sim Z φ B0 w0 H (Go.Sort.ahead w n) :=
  ⟨s.b0, ⟨⟨s.below.os, s.below.tape, s.below.output, s.below.size, s.below.block⟩, s.below.drawn.trans (.of (Nat.le_add_right _ _))⟩, s.bnd, fun r blk e => let ⟨pl, hp, hl⟩ := s.live r blk e; ⟨pl, hp, hl.world fun _ h => h⟩, s.disj, fun b i v hz => s.froz b i v hz, s.zsep⟩
theorem mapBlock_setRow {w : World} {b : Nat} {cur : Array Value} {e : TypeId} {fr : Nat × Nat} (h : w.heap[b]? = some (.cells cur e fr)) (f : Array Value → Array Value) : mapBlock w b f = w.setRow b (f cur) := by
  unfold mapBlock World.setRow
  congr 1
  apply Array.ext_getElem?
  intro k
  simp only [Array.getElem?_modify]
  by_cases hk : b = k
  · subst hk; simp [h, onCells]
  · simp [hk]
theorem Sim.grow {Z : Fro} {φ : Pm} {B0 : Nat} {w0 w : World} {H : Heap} (s : Sim Z φ B0 w0 H w) (os : Array Obj) : Sim Z φ B0 w0 H (Go.Sort.grow w os) :=
  s.later ⟨⟨rfl, rfl, rfl, by simp, fun k hk => heap_grow_old w os hk⟩, .of (Nat.le_refl _)⟩
/-- A row of numbers written over by as many numbers. -/
theorem Sim.putInts {Z : Fro} {φ : Pm} {B0 : Nat} {w0 w : World} {H : Heap} (s : Sim Z φ B0 w0 H w) {r : Nat} {zs zs' : List Int} (hr : H r = some (zs.map fun n => AV.p (.int .i64 n))) (hl : zs'.length = zs.length) (hpos : 0 < zs.length) {pl : Place} (hp : φ r = some pl) (n : Nat) (os : Array Obj) :
    Sim Z φ B0 w0 (H.set r (zs'.map fun n => AV.p (.int .i64 n))) (Go.Sort.grow (putRow (Value.int .i64) (Go.Sort.ahead w n) pl.b pl.o zs'.toArray) os) := by
  obtain ⟨pl', hp', hlive⟩ := s.live r _ hr
  rw [hp] at hp'; cases hp'
  rcases hlive with ⟨_, h0⟩ | ⟨cur, e, h1, h2, h3, h4, h5⟩
  · cases zs with
    | nil => simp at hpos
    | cons a zs => simp at h0
  rw [List.length_map] at h3
  refine Sim.grow ?_ os
  have s1 := s.ahead n
  have h1' : (Go.Sort.ahead w n).heap[pl.b]? = some (.cells cur e (0, 0)) := h1
  rw [putRow, mapBlock_setRow h1']
  refine s1.setRow hr hp h1' (by omega) _ (by simp [putCells]) ?_ _ (by rw [List.length_map]; omega) ?_
  · intro i hi
    simp only [putCells, Array.getElem?_mapIdx]
    cases cur[i]? with
    | none => rfl
    | some v => simp only [Option.map_some]; rw [if_neg (by simp; omega)]
  · intro i av hi
    rw [List.getElem?_map] at hi
    cases hz : zs'[i]? with
    | none => rw [hz] at hi; cases hi
    | some x =>
      rw [hz] at hi
      cases hi
      have hlt : i < zs'.length := (List.getElem?_eq_some_iff.1 hz).1
      refine ⟨.int .i64 x, ?_, .p (.int _ _)⟩
      have hc : pl.o + i < cur.size := by omega
      simp only [putCells, Array.getElem?_mapIdx, Array.getElem?_eq_getElem hc, Option.map_some]
      rw [if_pos (by simp; omega)]
      have : (List.toArray zs')[pl.o + i - pl.o]! = x := by
        rw [Nat.add_sub_cancel_left]
        have := (List.getElem?_eq_some_iff.1 hz).2
        simp [hlt, this]
      rw [this]
theorem Sim.holdsInts {Z : Fro} {φ : Pm} {B0 : Nat} {w0 w : World} {H : Heap} (s : Sim Z φ B0 w0 H w) {r : Nat} {zs : List Int} (hr : H r = some (zs.map fun n => AV.p (.int .i64 n))) (hpos : 0 < zs.length) {pl : Place} (hp : φ r = some pl) :
    Holds (Value.int .i64) w pl.b pl.o zs.toArray ∧ pl.b < w.heap.size := by
  obtain ⟨pl', hp', hlive⟩ := s.live r _ hr
  rw [hp] at hp'; cases hp'
  rcases hlive with ⟨_, h0⟩ | ⟨cur, e, h1, h2, h3, h4, h5⟩
  · cases zs with
    | nil => simp at hpos
    | cons a zs => simp at h0
  refine ⟨fun j hj => ⟨?_, ?_⟩, (Array.getElem?_eq_some_iff.1 h1).1⟩
  · have hj' : j < zs.length := by simpa using hj
    have hz : zs[j]? = some zs[j] := List.getElem?_eq_getElem hj'
    obtain ⟨x, hx, hc⟩ := h5 j (.p (.int .i64 zs[j])) (by rw [List.getElem?_map, hz]; rfl)
    have ex : x = .int .i64 zs[j] := by
      cases hc with
      | p h => cases h; rfl
    rw [cell_of_row w pl.b _ cur e _ h1, hx, ex]
    simp [hj']
  · unfold World.frozen?
    rw [h1]; simp
/-- A contract that turns a row in place, for a live row. -/
theorem CallT.inPlace {P : Program} {f : Nat} (hb : HasBody P f) {H : Heap} {q : Nat} {zs : List Int} (hq : H q = some (zs.map fun n => AV.p (.int .i64 n))) (g : List Int) (hg : g.length = zs.length)
    (hc : ∀ blk off cap w, zs.length ≤ cap → Holds (Value.int .i64) w blk off zs.toArray → blk < w.heap.size → Calls P f #[.slice (some ⟨blk, off, none⟩) zs.length cap] w fun e w' =>
      e = .returned (.tuple #[]) ∧ ∃ n os, w' = Go.Sort.grow (putRow (Value.int .i64) (Go.Sort.ahead w n) blk off g.toArray) os)
    (hn : zs = [] → ∀ p cap w, Calls P f #[.slice p 0 cap] w fun e w' => e = .returned (.tuple #[]) ∧ w' = w)
    {K : AV → Heap → Prop} (h : K (.tup []) (H.set q (g.map fun n => AV.p (.int .i64 n)))) : CallT P f [.sl q 1 0 zs.length] H K := by
  refine ⟨hb, ?_⟩
  intro B0 w0 F Z φ w xs hd hs ha
  obtain ⟨hsz, hrel⟩ := ha
  obtain ⟨x, rfl⟩ : ∃ x, xs = #[x] := by
    have h1 : xs.size = 1 := hsz
    exact ⟨xs[0], by
      apply Array.ext
      · simp [h1]
      · intro i hi1 hi2
        have : i = 0 := by simp at hi2; omega
        subst this; simp⟩
  have hx := hrel 0 (.sl q 1 0 zs.length) x rfl rfl
  have hq' : (H.or F) q = some (zs.map fun n => AV.p (.int .i64 n)) := Heap.or_left hq
  have hFq : F q = none := hd q (by rw [hq]; simp)
  have empty : zs = [] → ∀ a c, x = .slice a 0 c → Calls P f #[x] w (fun e w' => ∃ x, e = .returned x ∧ UpV B0 w0 F Z φ K x w') := by
    rintro rfl a c rfl
    refine (hn rfl a c w).mono ?_
    rintro e w' ⟨rfl, rfl⟩
    have hg0 : g = [] := List.eq_nil_of_length_eq_zero hg
    subst hg0
    have hset : H.set q [] = H := by
      funext y
      by_cases e : y = q
      · subst e; rw [Heap.set_same]; exact hq.symm
      · rw [Heap.set_other e]
    refine ⟨_, rfl, .tup [], H, Z, φ, ?_, Fro.le_refl _, Pm.le_refl _, hd, hs, .tup [] #[] rfl (fun i av x h => by simp at h)⟩
    rw [← hset]; exact h
  generalize hm : zs.length = m at hx
  cases hx with
  | slz _ _ _ a => exact empty (List.eq_nil_of_length_eq_zero hm) a 0 rfl
  | sl hp hl hC =>
    rename_i c pl
    subst hm
    by_cases h0 : zs.length = 0
    · exact empty (List.eq_nil_of_length_eq_zero h0) _ _ (by rw [h0])
    have hh := hs.holdsInts hq' (by omega) hp
    refine (hc pl.b pl.o c w hl hh.1 hh.2).mono ?_
    rintro e w' ⟨rfl, n, os, rfl⟩
    have s2 := hs.putInts (zs' := g) hq' hg (by omega) hp n os
    refine ⟨_, rfl, .tup [], H.set q (g.map fun n => AV.p (.int .i64 n)), Z, φ, h, Fro.le_refl _, Pm.le_refl _, hd.set hFq, ?_, .tup [] #[] rfl (fun i av x h => by simp at h)⟩
    rw [Heap.or_set]; exact s2
/-- The same of one that hands the row's beginning back. -/
theorem CallT.inPlaceC {P : Program} {f : Nat} (hb : HasBody P f) {H : Heap} {q : Nat} {zs : List Int} (hq : H q = some (zs.map fun n => AV.p (.int .i64 n))) (g tl : List Int) (hg : (g ++ tl).length = zs.length)
    (hc : ∀ blk off cap w, zs.length ≤ cap → Holds (Value.int .i64) w blk off zs.toArray → blk < w.heap.size → Calls P f #[.slice (some ⟨blk, off, none⟩) zs.length cap] w fun e w' =>
      e = .returned (.slice (some ⟨blk, off, none⟩) g.length cap) ∧ ∃ n, w' = putRow (Value.int .i64) (Go.Sort.ahead w n) blk off (g ++ tl).toArray)
    (hn : zs = [] → ∀ p cap w, Calls P f #[.slice p 0 cap] w fun e w' => e = .returned (.slice p 0 cap) ∧ w' = w)
    {K : AV → Heap → Prop} (h : K (.sl q 1 0 g.length) (H.set q ((g ++ tl).map fun n => AV.p (.int .i64 n)))) : CallT P f [.sl q 1 0 zs.length] H K := by
  refine ⟨hb, ?_⟩
  intro B0 w0 F Z φ w xs hd hs ha
  obtain ⟨hsz, hrel⟩ := ha
  obtain ⟨x, rfl⟩ : ∃ x, xs = #[x] := by
    have h1 : xs.size = 1 := hsz
    exact ⟨xs[0], by
      apply Array.ext
      · simp [h1]
      · intro i hi1 hi2
        have : i = 0 := by simp at hi2; omega
        subst this; simp⟩
  have hx := hrel 0 (.sl q 1 0 zs.length) x rfl rfl
  have hq' : (H.or F) q = some (zs.map fun n => AV.p (.int .i64 n)) := Heap.or_left hq
  have hFq : F q = none := hd q (by rw [hq]; simp)
  have empty : zs = [] → ∀ a c, x = .slice a 0 c → Cv Z φ (.sl q 1 0 0) x → Calls P f #[x] w (fun e w' => ∃ x, e = .returned x ∧ UpV B0 w0 F Z φ K x w') := by
    rintro rfl a c rfl hcv
    refine (hn rfl a c w).mono ?_
    rintro e w' ⟨rfl, rfl⟩
    have hg0 := List.eq_nil_of_length_eq_zero hg
    rw [List.append_eq_nil_iff] at hg0
    obtain ⟨rfl, rfl⟩ := hg0
    have hset : H.set q [] = H := by
      funext y
      by_cases e : y = q
      · subst e; rw [Heap.set_same]; exact hq.symm
      · rw [Heap.set_other e]
    refine ⟨_, rfl, _, H, Z, φ, ?_, Fro.le_refl _, Pm.le_refl _, hd, hs, hcv⟩
    rw [← hset]; exact h
  have hx0 := hx
  generalize hm : zs.length = m at hx
  cases hx with
  | slz _ _ _ a => exact empty (List.eq_nil_of_length_eq_zero hm) a 0 rfl (.slz _ _ _ _)
  | sl hp hl hC =>
    rename_i c pl
    subst hm
    by_cases h0 : zs.length = 0
    · exact empty (List.eq_nil_of_length_eq_zero h0) _ _ (by rw [h0]) (by rw [h0] at hx0; rw [h0]; exact hx0)
    have hh := hs.holdsInts hq' (by omega) hp
    refine (hc pl.b pl.o c w hl hh.1 hh.2).mono ?_
    rintro e w' ⟨rfl, n, rfl⟩
    have s2 := hs.putInts (zs' := g ++ tl) hq' hg (by omega) hp n #[]
    rw [Go.Sort.grow_empty] at s2
    rw [List.length_append] at hg
    refine ⟨_, rfl, .sl q 1 0 g.length, H.set q ((g ++ tl).map fun n => AV.p (.int .i64 n)), Z, φ, h, Fro.le_refl _, Pm.le_refl _, hd.set hFq, ?_, .sl hp (by omega) hC⟩
    rw [Heap.or_set]; exact s2
/-- A call with nil that changes nothing. -/
theorem CallT.nilArg {P : Program} {f : Nat} (hb : HasBody P f) {v : AV} {r : Value} (hr : ∀ Z φ, Cv Z φ v r) (hn : ∀ w, Calls P f #[.slice none 0 0] w fun e w' => e = .returned r ∧ w' = w) {H : Heap} {K : AV → Heap → Prop} (h : K v H) : CallT P f [.p .nil] H K := by
  refine ⟨hb, ?_⟩
  intro B0 w0 F Z φ w xs hd hs ha
  obtain ⟨hsz, hrel⟩ := ha
  obtain ⟨x, rfl⟩ : ∃ x, xs = #[x] := by
    have h1 : xs.size = 1 := hsz
    exact ⟨xs[0], by
      apply Array.ext
      · simp [h1]
      · intro i hi1 hi2
        have : i = 0 := by simp at hi2; omega
        subst this; simp⟩
  have hx := hrel 0 (.p .nil) x rfl rfl
  have ex : x = .slice none 0 0 := by
    cases hx with
    | p h => cases h; rfl
  subst ex
  refine (hn w).mono ?_
  rintro e w' ⟨rfl, rfl⟩
  exact ⟨_, rfl, v, H, Z, φ, h, Fro.le_refl _, Pm.le_refl _, hd, hs, hr _ _⟩
end Go.Sep
