/- Texts laid together: Ss1 LayF Lb1a Lb3 Pt1 Le1 Le2 Pm1 Ma1 Ma3 Lt1 Lt2 Lt3 Lt4 Ma2 Ma4 Ma5 Ss3 Lb1 Pc1 Lc1 Lc2 Lc3 LayL Rs1 Lay Ps1 Ss2. -/
import Derived.Test.YtginibofnkiofaaPR3
import Derived.Sort.Grow
import Derived.Shelf.SlSortCmp.NoneTotal
import Derived.Shelf.SlGeneric
import Derived.Shelf.SlLaysF
import Derived.Shelf.SlLaysF0
import Derived.Test.YtginibofnkiofaaProg
import Derived.Shelf.SlLaysNS
import Derived.Lib.SlicesCompact
import Derived.Shelf.SortG.Plain
import Derived.Shelf.SortG.SortNone
import Derived.Shelf.SlicesG.CompactI
set_option linter.unusedVariables false
set_option linter.unusedSimpArgs false
open Nat renaming reduceAdd → ν1, reduceLeDiff → ν2, reduceLT → ν3, reduceMul → ν4, reduceSub → ν5
open Int renaming reduceToNat → ι1, reduceSub → ι2, reduceAdd → ι3, reduceNeg → ι4
open Array renaming toList → ι5
open Ne renaming symm → ν6
open List renaming forall_mem_cons → ν7
namespace Go.Sep
open Go Go.RowKit Go.Sort Go.Proofs.Ytginibofnkiofaa
theorem Sim.ahead {Z : Fro} {φ : Pm} {B0 : Nat} {w0 w : World} {H : Heap} (s : Sim Z φ B0 w0 H w) (n : Nat) : Sim Z φ B0 w0 H (Go.Sort.ahead w n) :=
  ⟨s.b0, ⟨⟨s.below.os, s.below.tape, s.below.output, s.below.size, s.below.block⟩, s.below.drawn.trans (.of (Nat.le_add_right _ _))⟩, s.bnd, fun r blk e => let ⟨pl, hp, hl⟩ := s.live r blk e; ⟨pl, hp, hl.world fun _ h => h⟩, s.disj, fun b i v hz => s.froz b i v hz, s.zsep⟩
theorem mapBlock_setRow {w : World} {b : Nat} {cur : Array Value} {e : TypeId} {fr : Nat × Nat} (h : w.heap[b]? = some (.cells cur e fr)) (f : Array Value → Array Value) : mapBlock w b f = w.setRow b (f cur) := by
  unfold mapBlock World.setRow
  congr 1
  apply Array.ext_getElem?
  intro k
  simp only [Array.getElem?_modify]
  by_cases hk : b = k
  · subst hk; simp [h, onCells]
  · simp [hk]
theorem Sim.grow {Z : Fro} {φ : Pm} {B0 : Nat} {w0 w : World} {H : Heap} (s : Sim Z φ B0 w0 H w) (os : Array Obj) : Sim Z φ B0 w0 H (Go.Sort.grow w os) :=
  s.later ⟨⟨rfl, rfl, rfl, by simp, fun k hk => heap_grow_old w os hk⟩, .of (Nat.le_refl _)⟩
theorem Sim.putInts {Z : Fro} {φ : Pm} {B0 : Nat} {w0 w : World} {H : Heap} (s : Sim Z φ B0 w0 H w) {r : Nat} {zs zs' : List Int} (hr : H r = some (zs.map fun n => AV.p (.int .i64 n))) (hl : zs'.length = zs.length) (hpos : 0 < zs.length) {pl : Place} (hp : φ r = some pl) (n : Nat) (os : Array Obj) :
    Sim Z φ B0 w0 (H.set r (zs'.map fun n => AV.p (.int .i64 n))) (Go.Sort.grow (putRow (Value.int .i64) (Go.Sort.ahead w n) pl.b pl.o zs'.toArray) os) := by
  obtain ⟨pl', hp', hlive⟩ := s.live r _ hr
  rw [hp] at hp'; cases hp'
  rcases hlive with ⟨_, h0⟩ | ⟨cur, e, h1, h2, h3, h4, h5⟩
  · cases zs with
    | nil => simp at hpos
    | cons a zs => simp at h0
  rw [List.length_map] at h3
  refine Sim.grow ?_ os
  have s1 := s.ahead n
  have h1' : (Go.Sort.ahead w n).heap[pl.b]? = some (.cells cur e (0, 0)) := h1
  rw [putRow, mapBlock_setRow h1']
  refine s1.setRow hr hp h1' (by omega) _ (by simp [putCells]) ?_ _ (by rw [List.length_map]; omega) ?_
  · intro i hi
    simp only [putCells, Array.getElem?_mapIdx]
    cases cur[i]? with
    | none => rfl
    | some v => simp only [Option.map_some]; rw [if_neg (by simp; omega)]
  · intro i av hi
    rw [List.getElem?_map] at hi
    cases hz : zs'[i]? with
    | none => rw [hz] at hi; cases hi
    | some x =>
      rw [hz] at hi
      cases hi
      have hlt : i < zs'.length := (List.getElem?_eq_some_iff.1 hz).1
      refine ⟨.int .i64 x, ?_, .p (.int _ _)⟩
      have hc : pl.o + i < cur.size := by omega
      simp only [putCells, Array.getElem?_mapIdx, Array.getElem?_eq_getElem hc, Option.map_some]
      rw [if_pos (by simp; omega)]
      have : (List.toArray zs')[pl.o + i - pl.o]! = x := by
        rw [Nat.add_sub_cancel_left]
        have := (List.getElem?_eq_some_iff.1 hz).2
        simp [hlt, this]
      rw [this]
theorem Sim.holdsInts {Z : Fro} {φ : Pm} {B0 : Nat} {w0 w : World} {H : Heap} (s : Sim Z φ B0 w0 H w) {r : Nat} {zs : List Int} (hr : H r = some (zs.map fun n => AV.p (.int .i64 n))) (hpos : 0 < zs.length) {pl : Place} (hp : φ r = some pl) :
    Holds (Value.int .i64) w pl.b pl.o zs.toArray ∧ pl.b < w.heap.size := by
  obtain ⟨pl', hp', hlive⟩ := s.live r _ hr
  rw [hp] at hp'; cases hp'
  rcases hlive with ⟨_, h0⟩ | ⟨cur, e, h1, h2, h3, h4, h5⟩
  · cases zs with
    | nil => simp at hpos
    | cons a zs => simp at h0
  refine ⟨fun j hj => ⟨?_, ?_⟩, (Array.getElem?_eq_some_iff.1 h1).1⟩
  · have hj' : j < zs.length := by simpa using hj
    have hz : zs[j]? = some zs[j] := List.getElem?_eq_getElem hj'
    obtain ⟨x, hx, hc⟩ := h5 j (.p (.int .i64 zs[j])) (by rw [List.getElem?_map, hz]; rfl)
    have ex : x = .int .i64 zs[j] := by
      cases hc with
      | p h => cases h; rfl
    rw [cell_of_row w pl.b _ cur e _ h1, hx, ex]
    simp [hj']
  · unfold World.frozen?
    rw [h1]; simp
theorem CallT.inPlaceC {P : Program} {f : Nat} (hb : HasBody P f) {H : Heap} {q : Nat} {zs : List Int} (hq : H q = some (zs.map fun n => AV.p (.int .i64 n))) (g tl : List Int) (hg : (g ++ tl).length = zs.length)
    (hc : ∀ blk off cap w, zs.length ≤ cap → Holds (Value.int .i64) w blk off zs.toArray → blk < w.heap.size → Calls P f #[.slice (some ⟨blk, off, none⟩) zs.length cap] w fun e w' =>
      e = .returned (.slice (some ⟨blk, off, none⟩) g.length cap) ∧ ∃ n, w' = putRow (Value.int .i64) (Go.Sort.ahead w n) blk off (g ++ tl).toArray)
    (hn : zs = [] → ∀ p cap w, Calls P f #[.slice p 0 cap] w fun e w' => e = .returned (.slice p 0 cap) ∧ w' = w)
    {K : AV → Heap → Prop} (h : K (.sl q 1 0 g.length) (H.set q ((g ++ tl).map fun n => AV.p (.int .i64 n)))) : CallT P f [.sl q 1 0 zs.length] H K := by
  refine ⟨hb, ?_⟩
  intro B0 w0 F Z φ w xs hd hs ha
  obtain ⟨hsz, hrel⟩ := ha
  obtain ⟨x, rfl⟩ : ∃ x, xs = #[x] := by
    have h1 : xs.size = 1 := hsz
    exact ⟨xs[0], by
      apply Array.ext
      · simp [h1]
      · intro i hi1 hi2
        have : i = 0 := by simp at hi2; omega
        subst this; simp⟩
  have hx := hrel 0 (.sl q 1 0 zs.length) x rfl rfl
  have hq' : (H.or F) q = some (zs.map fun n => AV.p (.int .i64 n)) := Heap.or_left hq
  have hFq : F q = none := hd q (by rw [hq]; simp)
  have empty : zs = [] → ∀ a c, x = .slice a 0 c → Cv Z φ (.sl q 1 0 0) x → Calls P f #[x] w (fun e w' => ∃ x, e = .returned x ∧ UpV B0 w0 F Z φ K x w') := by
    rintro rfl a c rfl hcv
    refine (hn rfl a c w).mono ?_
    rintro e w' ⟨rfl, rfl⟩
    have hg0 := List.eq_nil_of_length_eq_zero hg
    rw [List.append_eq_nil_iff] at hg0
    obtain ⟨rfl, rfl⟩ := hg0
    have hset : H.set q [] = H := by
      funext y
      by_cases e : y = q
      · subst e; rw [Heap.set_same]; exact hq.symm
      · rw [Heap.set_other e]
    refine ⟨_, rfl, _, H, Z, φ, ?_, Fro.le_refl _, Pm.le_refl _, hd, hs, hcv⟩
    rw [← hset]; exact h
  have hx0 := hx
  generalize hm : zs.length = m at hx
  cases hx with
  | slz _ _ _ a => exact empty (List.eq_nil_of_length_eq_zero hm) a 0 rfl (.slz _ _ _ _)
  | sl hp hl hC =>
    rename_i c pl
    subst hm
    by_cases h0 : zs.length = 0
    · exact empty (List.eq_nil_of_length_eq_zero h0) _ _ (by rw [h0]) (by rw [h0] at hx0; rw [h0]; exact hx0)
    have hh := hs.holdsInts hq' (by omega) hp
    refine (hc pl.b pl.o c w hl hh.1 hh.2).mono ?_
    rintro e w' ⟨rfl, n, rfl⟩
    have s2 := hs.putInts (zs' := g ++ tl) hq' hg (by omega) hp n #[]
    rw [Go.Sort.grow_empty] at s2
    rw [List.length_append] at hg
    refine ⟨_, rfl, .sl q 1 0 g.length, H.set q ((g ++ tl).map fun n => AV.p (.int .i64 n)), Z, φ, h, Fro.le_refl _, Pm.le_refl _, hd.set hFq, ?_, .sl hp (by omega) hC⟩
    rw [Heap.or_set]; exact s2
end Go.Sep
namespace Go.Proofs.Ytginibofnkiofaa
open Go Go.Sep
attribute [local irreducible] CallT
theorem l1In_spec (a lo hi : Int) : Pu Try.prog 31 [I a, I lo, I hi] (B (decide (lo ≤ a) && decide (a ≤ hi))) := by
  refine Pu.of fun H => ?_
  refine W31_ok ?_; simp (maxSteps := 1000000) (disch := first | assumption | (apply ν6; assumption)) only [W31, vz, vu, vv, eqS, eF_, ↓c1_, ↓c2_, tabs, reduceCtorEq, ι5, ↓reduceIte, ν1, ν2, ν3, ν4, ν5, ι1, ι2, ι3, ι4]
  exact ⟨fun h => by simp [h], fun h => by simp [h]⟩
end Go.Proofs.Ytginibofnkiofaa
namespace Go.Proofs.Ytginibofnkiofaa
open Go Go.Sep
end Go.Proofs.Ytginibofnkiofaa
namespace Go.Pt
structure Nd where
  op : Int
  n : Int
deriving Inhabited, DecidableEq
structure Ch where
  var : Int
  by_ : List Nd
deriving Inhabited, DecidableEq
structure Cm where
  when_ : List Nd
  chs : List Ch
deriving Inhabited, DecidableEq
structure Pg where
  wide : Int
  vars : Int
  start : List Nd
  cmds : List Cm
deriving Inhabited, DecidableEq
def inB (n lo hi : Int) : Bool := decide (lo ≤ n) && decide (n ≤ hi)
def own (op : Int) : Int :=
  if op = 1 ∨ op = 2 ∨ op = 13 ∨ (3 ≤ op ∧ op ≤ 12) then 1
  else if op = 20 ∨ op = 19 ∨ (14 ≤ op ∧ op ≤ 16) ∨ op = 17 ∨ op = 18 then 2 else 0
def many (op : Int) : Nat :=
  if op = 13 ∨ op = 19 then 1 else if (3 ≤ op ∧ op ≤ 12) ∨ (14 ≤ op ∧ op ≤ 16) ∨ op = 17 ∨ op = 18 then 2 else 0
def part (op : Int) : Int :=
  if op = 13 ∨ (3 ≤ op ∧ op ≤ 12) ∨ (14 ≤ op ∧ op ≤ 16) then 1 else 2
def leafOk (wide vars : Int) (x : Nd) : Bool :=
  if x.op = 1 then inB wide 1 64 && decide (x.n < 2 ^ wide.toNat)
  else if x.op = 2 then decide (x.n < vars)
  else if x.op = 20 then decide (x.n ≤ 1)
  else decide (x.n = 0)
def step (w v : Int) (p : List Int) (x : Nd) : Option (List Int) :=
  if own x.op = 0 ∨ leafOk w v x = false ∨ p.length < many x.op then none
  else if (p.drop (p.length - many x.op)).any (fun k => decide (k ≠ part x.op)) then none
  else some (p.take (p.length - many x.op) ++ [own x.op])
def run (w v : Int) : List Int → List Nd → Option (List Int)
  | p, [] => some p
  | p, x :: xs => (step w v p x).bind fun p' => run w v p' xs
def frame (w v : Int) (t : List Nd) : Bool := inB w 1 64 && inB v 1 4 && (decide (1 ≤ t.length) && decide (t.length ≤ 48))
def kind (w v : Int) (t : List Nd) : Int :=
  if frame w v t then (match run w v [] t with
    | some [k] => k
    | _ => 0) else 0
theorem take_succ_snoc {α : Type} [Inhabited α] {xs : List α} {i : Nat} (h : i < xs.length) : xs.take (i + 1) = xs.take i ++ [xs.getD i default] := by
  rw [List.take_succ_eq_append_getElem h]; simp [List.getD, h]
end Go.Pt
namespace Go.Proofs.Ytginibofnkiofaa
open Go Go.Sep Go.Pt
attribute [local irreducible] CallT
abbrev eN (x : Nd) : List PV := [.int .i64 x.op, .int .u64 x.n]
abbrev Ns (xs : List Nd) : AV := .p (.sl (xs.map eN))
abbrev eCh (c : Ch) : List PV := [.int .i64 c.var, .sl (c.by_.map eN)]
abbrev eCm (c : Cm) : List PV := [.sl (c.when_.map eN), .sl (c.chs.map eCh)]
abbrev Cms (cs : List Cm) : AV := .p (.sl (cs.map eCm))
abbrev aPg (p : Pg) : AV := .agg [I p.wide, I p.vars, Ns p.start, Cms p.cmds]
abbrev aS (of : List Int) : AV := .agg [Is of]
def ok (n : Nat) : Prop := n ≤ 9223372036854775807
end Go.Proofs.Ytginibofnkiofaa
namespace Go.Proofs.Ytginibofnkiofaa
open Go Go.Sep Go.Pt
attribute [local irreducible] CallT
end Go.Proofs.Ytginibofnkiofaa
namespace Go.Pt
structure Ed where
  src : Int
  lt : Int
  dst : Int
deriving Inhabited
structure Au where
  states : Int
  first : List Int
  edges : List Ed
  goals : List (List Int)
deriving Inhabited
def riseAt (l : List Int) (n : Int) (i : Nat) : Bool := (decide (0 ≤ l.getD i default) && decide (l.getD i default < n)) && (decide (i = 0) || decide (l.getD (i - 1) default < l.getD i default))
def rising (l : List Int) (n : Int) : Bool := (List.range l.length).all (riseAt l n)
end Go.Pt
namespace Go.Proofs.Ytginibofnkiofaa
open Go Go.Sep Go.Pt
attribute [local irreducible] CallT
abbrev eE (x : Ed) : List PV := [.int .i64 x.src, .int .i64 x.lt, .int .i64 x.dst]
abbrev Es (xs : List Ed) : AV := .p (.sl (xs.map eE))
abbrev aAu (a : Au) : AV := .agg [I a.states, Is a.first, Es a.edges, Ls a.goals]
end Go.Proofs.Ytginibofnkiofaa
namespace Go.Proofs.Ytginibofnkiofaa
open Go Go.Sep Go.Pt
attribute [local irreducible] CallT
theorem Compare_spec (a b : Int) : Pu Try.prog 61 [I a, I b] (I (if a < b then -1 else if a = b then 0 else 1)) := by
  have nan : ∀ c : Int, Pu Try.prog 86 [I c] (B false) := fun c => by
    refine Pu.of fun H => ?_
    refine W86_ok ?_; simp (maxSteps := 1000000) (disch := first | assumption | (apply ν6; assumption)) only [W86, vz, vu, vv, eqS, eF_, ↓c1_, ↓c2_, tabs, reduceCtorEq, ι5, ↓reduceIte, ν1, ν2, ν3, ν4, ν5, ι1, ι2, ι3, ι4]
  refine Pu.of fun H => ?_
  refine W61_ok ?_; simp (maxSteps := 1000000) (disch := first | assumption | (apply ν6; assumption)) only [W61, vz, vu, vv, eqS, eF_, ↓c1_, ↓c2_, tabs, reduceCtorEq, ι5, ↓reduceIte, ν1, ν2, ν3, ν4, ν5, ι1, ι2, ι3, ι4]
  refine Pu.use (nan a) ?_
  (try simp (maxSteps := 1000000) (disch := first | assumption | (apply ν6; assumption)) only [vz, vu, vv, eqS, eF_, ↓c1_, ↓c2_, tabs, reduceCtorEq, ι5, ↓reduceIte, ν1, ν2, ν3, ν4, ν5, ι1, ι2, ι3, ι4])
  refine Pu.use (nan b) ?_
  (try simp (maxSteps := 1000000) (disch := first | assumption | (apply ν6; assumption)) only [vz, vu, vv, eqS, eF_, ↓c1_, ↓c2_, tabs, reduceCtorEq, ι5, ↓reduceIte, ν1, ν2, ν3, ν4, ν5, ι1, ι2, ι3, ι4])
  refine ⟨fun h => by rw [if_pos h], fun h => ⟨fun h2 => by rw [if_neg h, if_neg (by omega)], fun h2 => by rw [if_neg h, if_pos (by omega)]⟩⟩
theorem IndexFuncL_at (xs : List (List Int)) (g : Nat) (caps : List AV) (p : List Int → Bool) {H : Heap} (hl : xs.length ≤ 1000000000) (hp : ∀ x ∈ xs, PuAt Try.prog g (Is x :: caps) H (B (p x))) :
    PuAt Try.prog 87 [Ls xs, .fn g caps] H (I (if xs.any p then (xs.findIdx p : Int) else -1)) := by
  intro K hK
  refine CallT.fin ?_
  refine W87_ok ?_; simp (maxSteps := 1000000) (disch := first | assumption | (apply ν6; assumption)) only [W87, vz, vu, vv, eqS, eF_, ↓c1_, ↓c2_, tabs, reduceCtorEq, ι5, ↓reduceIte, ν1, ν2, ν3, ν4, ν5, ι1, ι2, ι3, ι4]
  refine L87_0_rule (0 : Nat) (fun i => I i) (fun _ => H) (fun i => i ≤ xs.length ∧ ∀ j (hj : j < xs.length), j < i → p xs[j] = false) (fun i => xs.length - i) ⟨⟨by omega, by intros; omega⟩, .refl _, Heap.le_refl _⟩ ?_
  rintro i ⟨hi1, ha⟩
  (try simp (maxSteps := 1000000) (disch := first | assumption | (apply ν6; assumption)) only [vz, vu, vv, eqS, eF_, ↓c1_, ↓c2_, tabs, reduceCtorEq, ι5, ↓reduceIte, ν1, ν2, ν3, ν4, ν5, ι1, ι2, ι3, ι4, B87_0])
  refine ⟨fun h => ⟨by omega, h, ?_⟩, fun h => ?_⟩
  · have hlt : i < xs.length := by omega
    rw [getD_lt hlt]
    refine PuAt.use (hp _ (List.getElem_mem hlt)) ?_
    (try simp (maxSteps := 1000000) (disch := first | assumption | (apply ν6; assumption)) only [vz, vu, vv, eqS, eF_, ↓c1_, ↓c2_, tabs, reduceCtorEq, ι5, ↓reduceIte, ν1, ν2, ν3, ν4, ν5, ι1, ι2, ι3, ι4])
    refine ⟨fun h1 => ?_, fun h1 => ⟨i + 1, ⟨by omega, fun j hj hji => ?_⟩, by omega, ?_⟩⟩
    · have h2 : xs.any p = true := List.any_eq_true.2 ⟨xs[i], List.getElem_mem hlt, h1⟩
      have h3 : xs.findIdx p = i := by
        rw [List.findIdx_eq hlt]; exact ⟨h1, fun j hj => ha j (by omega) hj⟩
      rw [h2, h3] at hK; exact wkK.keep (by simpa using hK)
    · rcases Nat.lt_succ_iff_lt_or_eq.1 hji with h2 | rfl
      · exact ha j hj h2
      · exact h1
    · rw [wk_int, i64_id (by omega) (by omega)]; simp
  · have hi : i = xs.length := by omega
    have h2 : xs.any p = false := by
      rw [List.any_eq_false]
      intro x hx
      obtain ⟨j, hj, rfl⟩ := List.mem_iff_getElem.1 hx
      rw [ha j hj (by omega)]; simp
    rw [h2] at hK; exact wkK.keep (by simpa using hK)
theorem ContainsFuncL_at (xs : List (List Int)) (g : Nat) (caps : List AV) (p : List Int → Bool) {H : Heap} (hl : xs.length ≤ 1000000000) (hp : ∀ x ∈ xs, PuAt Try.prog g (Is x :: caps) H (B (p x))) :
    PuAt Try.prog 63 [Ls xs, .fn g caps] H (B (xs.any p)) := by
  intro K hK
  refine W63_ok ?_; simp (maxSteps := 1000000) (disch := first | assumption | (apply ν6; assumption)) only [W63, vz, vu, vv, eqS, eF_, ↓c1_, ↓c2_, tabs, reduceCtorEq, ι5, ↓reduceIte, ν1, ν2, ν3, ν4, ν5, ι1, ι2, ι3, ι4]
  refine PuAt.use (IndexFuncL_at xs g caps p hl hp) ?_
  (try simp (maxSteps := 1000000) (disch := first | assumption | (apply ν6; assumption)) only [vz, vu, vv, eqS, eF_, ↓c1_, ↓c2_, tabs, reduceCtorEq, ι5, ↓reduceIte, ν1, ν2, ν3, ν4, ν5, ι1, ι2, ι3, ι4])
  cases h : xs.any p <;> simp [h] at hK ⊢ <;> exact hK
end Go.Proofs.Ytginibofnkiofaa
namespace Go.Sep
open Go Go.RowKit
abbrev Lay (α : Type) := α → List AV → Heap → List Nat → Prop
def LPl {α : Type} (e : α → List PV) : Lay α := fun a cs _ D => cs = (e a).map .p ∧ D = []
def LL {α : Type} (L : Lay α) : List α → List AV → Heap → List Nat → Prop
  | [], cs, _, D => cs = [] ∧ D = []
  | a :: az, cs, G, D => ∃ c1 c2 D1 D2, cs = c1 ++ c2 ∧ D = D1 ++ D2 ∧ L a c1 G D1 ∧ LL L az c2 G D2
def LRow {α : Type} (L : Lay α) (sz : Nat) : List α → AV → Heap → List Nat → Prop := fun xs x G D => ∃ q cs D', x = .sl q sz 0 xs.length ∧ G q = some cs ∧ LL L xs cs G D' ∧ D = q :: D'
def Lay.Local {α : Type} (L : Lay α) : Prop := ∀ a cs G G' D, L a cs G D → (∀ y ∈ D, ∀ b, G y = some b → G' y = some b) → L a cs G' D
def Lay.Size {α : Type} (L : Lay α) (sz : Nat) : Prop := ∀ a cs G D, L a cs G D → cs.length = sz
theorem LPl.local {α : Type} (e : α → List PV) : Lay.Local (LPl e) := fun a cs G G' D h _ => h
theorem LPl.size {α : Type} {e : α → List PV} {sz : Nat} (h : ∀ a, (e a).length = sz) : Lay.Size (LPl e) sz := fun a cs G D hl => by rw [hl.1, List.length_map, h]
theorem LL.local {α : Type} {L : Lay α} (hL : L.Local) : ∀ {az : List α} {cs : List AV} {G G' : Heap} {D : List Nat}, LL L az cs G D → (∀ y ∈ D, ∀ b, G y = some b → G' y = some b) → LL L az cs G' D
  | [], cs, G, G', D, h, _ => h
  | a :: az, cs, G, G', D, ⟨c1, c2, D1, D2, e1, e2, h1, h2⟩, hf => by
    subst e2
    exact ⟨c1, c2, D1, D2, e1, rfl, hL _ _ _ _ _ h1 (fun y hy => hf y (List.mem_append_left _ hy)), LL.local hL h2 (fun y hy => hf y (List.mem_append_right _ hy))⟩
theorem LL.size {α : Type} {L : Lay α} {sz : Nat} (hL : L.Size sz) : ∀ {az : List α} {cs : List AV} {G : Heap} {D : List Nat}, LL L az cs G D → cs.length = az.length * sz
  | [], cs, G, D, h => by rw [h.1]; simp
  | a :: az, cs, G, D, ⟨c1, c2, D1, D2, e1, e2, h1, h2⟩ => by
    rw [e1, List.length_append, hL _ _ _ _ h1, LL.size hL h2, List.length_cons, Nat.add_mul, Nat.one_mul]; omega
theorem LRow.local {α : Type} {L : Lay α} {sz : Nat} (hL : L.Local) {xs : List α} {x : AV} {G G' : Heap} {D : List Nat} (h : LRow L sz xs x G D) (hf : ∀ y ∈ D, ∀ b, G y = some b → G' y = some b) : LRow L sz xs x G' D := by
  obtain ⟨q, cs, D', e1, e2, e3, e4⟩ := h
  subst e4
  exact ⟨q, cs, D', e1, hf q (by simp) _ e2, LL.local hL e3 (fun y hy => hf y (by simp [hy])), rfl⟩
def Lay.Has {α : Type} (L : Lay α) : Prop := ∀ a cs G D, L a cs G D → ∀ y ∈ D, G y ≠ none
theorem LPl.has {α : Type} (e : α → List PV) : Lay.Has (LPl e) := fun a cs G D h y hy => by rw [h.2] at hy; cases hy
theorem LL.has {α : Type} {L : Lay α} (hL : L.Has) : ∀ {az : List α} {cs : List AV} {G : Heap} {D : List Nat}, LL L az cs G D → ∀ y ∈ D, G y ≠ none
  | [], cs, G, D, h => fun y hy => by rw [h.2] at hy; cases hy
  | a :: az, cs, G, D, ⟨c1, c2, D1, D2, e1, e2, h1, h2⟩ => fun y hy => by
    rw [e2] at hy
    rcases List.mem_append.1 hy with hy | hy
    · exact hL _ _ _ _ h1 y hy
    · exact LL.has hL h2 y hy
theorem LRow.has {α : Type} {L : Lay α} {sz : Nat} (hL : L.Has) {xs : List α} {x : AV} {G : Heap} {D : List Nat} (h : LRow L sz xs x G D) : ∀ y ∈ D, G y ≠ none := by
  obtain ⟨q, cs, D', e1, e2, e3, e4⟩ := h
  intro y hy
  rw [e4] at hy
  rcases List.mem_cons.1 hy with rfl | hy
  · rw [e2]; simp
  · exact LL.has hL e3 y hy
theorem LL.plain {α : Type} {e : α → List PV} {G : Heap} : ∀ (xs : List α), LL (LPl e) xs (cells (xs.map e)) G []
  | [] => ⟨rfl, rfl⟩
  | x :: xs => ⟨(e x).map .p, cells (xs.map e), [], [], by simp [cells], rfl, ⟨rfl, rfl⟩, LL.plain xs⟩
theorem LL.snoc {α : Type} {L : Lay α} {a : α} {c2 : List AV} {G : Heap} {D2 : List Nat} (h2 : L a c2 G D2) : ∀ {az : List α} {c1 : List AV} {D1 : List Nat}, LL L az c1 G D1 → LL L (az ++ [a]) (c1 ++ c2) G (D1 ++ D2)
  | [], c1, D1, h => by
    obtain ⟨rfl, rfl⟩ := h
    exact ⟨c2, [], D2, [], by simp, by simp, h2, rfl, rfl⟩
  | b :: az, c1, D1, ⟨d1, d2, E1, E2, e1, e2, h1, h3⟩ => by
    subst e1; subst e2
    exact ⟨d1, d2 ++ c2, E1, E2 ++ D2, by simp, by simp, h1, LL.snoc h2 h3⟩
theorem LL.split {α : Type} [Inhabited α] {L : Lay α} {sz : Nat} (hL : L.Size sz) : ∀ {az : List α} {cs : List AV} {G : Heap} {D : List Nat} {i : Nat}, LL L az cs G D → i < az.length →
    ∃ c1 c c2 D1 Di D2, cs = c1 ++ (c ++ c2) ∧ D = D1 ++ (Di ++ D2) ∧ c1.length = i * sz ∧ L (az.getD i default) c G Di ∧ LL L (az.take i) c1 G D1 ∧ LL L (az.drop (i + 1)) c2 G D2
  | a :: az, cs, G, D, 0, ⟨c1, c2, D1, D2, e1, e2, h1, h2⟩, _ => ⟨[], c1, c2, [], D1, D2, by simpa using e1, by simpa using e2, by simp, by simpa using h1, ⟨rfl, rfl⟩, by simpa using h2⟩
  | a :: az, cs, G, D, i + 1, ⟨c1, c2, D1, D2, e1, e2, h1, h2⟩, hi => by
    obtain ⟨d1, d, d2, E1, Ei, E2, f1, f2, f3, f4, f5, f6⟩ := LL.split hL h2 (i := i) (by simpa using hi)
    subst e1; subst e2; subst f1; subst f2
    refine ⟨c1 ++ d1, d, d2, D1 ++ E1, Ei, E2, by simp, by simp, ?_, by simpa using f4, ⟨c1, d1, D1, E1, rfl, rfl, h1, f5⟩, by simpa using f6⟩
    rw [List.length_append, hL _ _ _ _ h1, f3, Nat.add_mul, Nat.one_mul]; omega
def Lay.Frz {α : Type} (L : Lay α) (e : α → List PV) : Prop := ∀ (a : α) (cs : List AV) (G : Heap) (D : List Nat) (v : AV) (s : Nat) (pre post : List AV), L a cs G D → D.Nodup → s ∉ D → G s = some (pre ++ (cs ++ post)) →
  ∃ G', Wk v G v G' ∧ G' s = some (pre ++ ((e a).map .p ++ post)) ∧ ∀ y, y ≠ s → y ∉ D → G' y = G y
theorem LPl.frz {α : Type} (e : α → List PV) : (LPl e).Frz e := by
  rintro a cs G D v s pre post ⟨rfl, rfl⟩ _ _ hs
  exact ⟨G, .refl _ _, hs, fun _ _ _ => rfl⟩
theorem LL.frz {α : Type} {L : Lay α} {e : α → List PV} (hl : L.Local) (hf : L.Frz e) : ∀ (az : List α) (cs : List AV) (G : Heap) (D : List Nat) (v : AV) (s : Nat) (pre post : List AV), LL L az cs G D → D.Nodup → s ∉ D → G s = some (pre ++ (cs ++ post)) →
    ∃ G', Wk v G v G' ∧ G' s = some (pre ++ ((az.map e).flatten.map .p ++ post)) ∧ ∀ y, y ≠ s → y ∉ D → G' y = G y
  | [], cs, G, D, v, s, pre, post, h, hD, hs, hG => by
    obtain ⟨rfl, rfl⟩ := h
    exact ⟨G, .refl _ _, by simpa using hG, fun _ _ _ => rfl⟩
  | a :: az, cs, G, D, v, s, pre, post, ⟨c1, c2, D1, D2, e1, e2, h1, h2⟩, hD, hs, hG => by
    subst e1; subst e2
    rw [List.nodup_append] at hD
    rw [List.mem_append, not_or] at hs
    obtain ⟨G1, w1, k1, f1⟩ := hf a c1 G D1 v s pre (c2 ++ post) h1 hD.1 hs.1 (by rw [hG]; simp)
    have h2' : LL L az c2 G1 D2 := LL.local hl h2 fun y hy b hb => by rw [f1 y (fun e => hs.2 (e ▸ hy)) (fun hy1 => hD.2.2 y hy1 y hy rfl)]; exact hb
    obtain ⟨G2, w2, k2, f2⟩ := LL.frz hl hf az c2 G1 D2 v s (pre ++ (e a).map .p) post h2' hD.2.1 hs.2 (by rw [k1]; simp)
    refine ⟨G2, .trans w1 w2, by rw [k2]; simp, fun y hy hyD => ?_⟩
    rw [List.mem_append, not_or] at hyD
    rw [f2 y hy hyD.2, f1 y hy hyD.1]
theorem FrzL.refl' {r sz : Nat} {es : List (List PV)} : ∀ vs, FrzL r sz es vs vs
  | [] => .nil
  | v :: vs => .cons (.same v) (FrzL.refl' vs)
theorem FrzL.at {r sz : Nat} {es : List (List PV)} {x x' : AV} (h : FrzR r sz es x x') (post : List AV) : ∀ pre, FrzL r sz es (pre ++ ([x] ++ post)) (pre ++ ([x'] ++ post))
  | [] => .cons h (FrzL.refl' post)
  | v :: pre => .cons (.same v) (FrzL.at h post pre)
theorem LRow.frzIn {α : Type} {L : Lay α} {e : α → List PV} {sz : Nat} (hpos : 0 < sz) (he : ∀ a, (e a).length = sz) (hl : L.Local) (hf : L.Frz e) {xs : List α} {x : AV} {G : Heap} {D : List Nat} {v : AV} {s : Nat} {pre post : List AV} (h : LRow L sz xs x G D) (hD : D.Nodup) (hs : s ∉ D) (hG : G s = some (pre ++ ([x] ++ post))) :
    ∃ G', Wk v G v G' ∧ G' s = some (pre ++ ([.p (.sl (xs.map e))] ++ post)) ∧ ∀ y, y ≠ s → y ∉ D → G' y = G y := by
  obtain ⟨q, cs, D', rfl, hq, hll, rfl⟩ := h
  rw [List.nodup_cons] at hD
  rw [List.mem_cons, not_or] at hs
  obtain ⟨G1, w1, k1, f1⟩ := LL.frz hl hf xs cs G D' v q [] [] hll hD.2 hD.1 (by simpa using hq)
  have hG1 : G1 s = some (pre ++ ([.sl q sz 0 xs.length] ++ post)) := by rw [f1 s hs.1 hs.2]; exact hG
  have k1' : G1 q = some ((xs.map e).flatten.map .p) := by simpa using k1
  have hr : FrzR q sz (xs.map e) (.sl q sz 0 xs.length) (.p (.sl (xs.map e))) := by
    have : FrzR q sz (xs.map e) (.sl q sz 0 (xs.map e).length) (.p (.sl (xs.map e))) := .here
    rwa [List.length_map] at this
  refine ⟨(G1.del q).set s (pre ++ ([.p (.sl (xs.map e))] ++ post)), .trans w1 (Wk.frzAt hpos k1' (sized_map he xs) hG1 hs.1 (FrzL.at hr post pre) (.same v) (by simp)), Heap.set_same _ _ _, fun y hy hyD => ?_⟩
  rw [List.mem_cons, not_or] at hyD
  rw [Heap.set_other hy, Heap.del_other hyD.1, f1 y hyD.1 hyD.2]
theorem LRow.frzV {α : Type} {L : Lay α} {e : α → List PV} {sz : Nat} (hpos : 0 < sz) (he : ∀ a, (e a).length = sz) (hl : L.Local) (hf : L.Frz e) {xs : List α} {x : AV} {G : Heap} {D : List Nat} {v v' : AV} (h : LRow L sz xs x G D) (hD : D.Nodup)
    (hv : ∀ q, x = .sl q sz 0 xs.length → FrzR q sz (xs.map e) x (.p (.sl (xs.map e))) → FrzR q sz (xs.map e) v v') :
    ∃ G', Wk v G v' G' ∧ ∀ y, y ∉ D → G' y = G y := by
  obtain ⟨q, cs, D', rfl, hq, hll, rfl⟩ := h
  rw [List.nodup_cons] at hD
  obtain ⟨G1, w1, k1, f1⟩ := LL.frz hl hf xs cs G D' v q [] [] hll hD.2 hD.1 (by simpa using hq)
  have k1' : G1 q = some ((xs.map e).flatten.map .p) := by simpa using k1
  have hr : FrzR q sz (xs.map e) (.sl q sz 0 xs.length) (.p (.sl (xs.map e))) := by
    have : FrzR q sz (xs.map e) (.sl q sz 0 (xs.map e).length) (.p (.sl (xs.map e))) := .here
    rwa [List.length_map] at this
  refine ⟨G1.del q, .trans w1 (Wk.frz hpos k1' (sized_map he xs) (hv q rfl hr)), fun y hyD => ?_⟩
  rw [List.mem_cons, not_or] at hyD
  rw [Heap.del_other hyD.1, f1 y hyD.1 hyD.2]
def Lay.Gd {α : Type} (L : Lay α) : Prop := ∀ a cs G D, L a cs G D → (∀ c ∈ cs, GdC c) ∧ ∀ y ∈ D, ∀ bs, G y = some bs → ∀ c ∈ bs, GdC c
theorem LPl.gd {α : Type} {e : α → List PV} (h : ∀ a, ∀ x ∈ e a, Plain (.p x)) : Lay.Gd (LPl e) := by
  rintro a cs G D ⟨rfl, rfl⟩
  refine ⟨fun c hc => ?_, fun y hy => by cases hy⟩
  obtain ⟨x, hx, rfl⟩ := List.mem_map.1 hc
  exact .p (h a x hx)
theorem LL.gd {α : Type} {L : Lay α} (hL : L.Gd) : ∀ {az : List α} {cs : List AV} {G : Heap} {D : List Nat}, LL L az cs G D → (∀ c ∈ cs, GdC c) ∧ ∀ y ∈ D, ∀ bs, G y = some bs → ∀ c ∈ bs, GdC c
  | [], _, _, _, ⟨e1, e2⟩ => by subst e1; subst e2; exact ⟨(fun c hc => by cases hc), (fun y hy => by cases hy)⟩
  | a :: az, _, _, _, ⟨c1, c2, D1, D2, e1, e2, h1, h2⟩ => by
    subst e1; subst e2
    obtain ⟨a1, a2⟩ := hL _ _ _ _ h1
    obtain ⟨b1, b2⟩ := LL.gd hL h2
    refine ⟨fun c hc => ?_, fun y hy => ?_⟩
    · rcases List.mem_append.1 hc with hc | hc
      · exact a1 c hc
      · exact b1 c hc
    · rcases List.mem_append.1 hy with hy | hy
      · exact a2 y hy
      · exact b2 y hy
theorem LRow.gd {α : Type} {L : Lay α} {sz : Nat} (hL : L.Gd) {xs : List α} {x : AV} {G : Heap} {D : List Nat} (h : LRow L sz xs x G D) : GdC x ∧ ∀ y ∈ D, ∀ bs, G y = some bs → ∀ c ∈ bs, GdC c := by
  obtain ⟨q, cs, D', rfl, hq, hll, rfl⟩ := h
  obtain ⟨h1, h2⟩ := LL.gd hL hll
  refine ⟨.inl ⟨_, _, _, _, rfl⟩, fun y hy bs hb => ?_⟩
  rcases List.mem_cons.1 hy with rfl | hy
  · rw [hq] at hb; cases hb; exact h1
  · exact h2 y hy bs hb
def only (D : List Nat) (G : Heap) : Heap := fun y => if y ∈ D then G y else none
end Go.Sep
namespace Go.Proofs.Ytginibofnkiofaa
open Go Go.Sep Go.Pt
attribute [local irreducible] CallT
abbrev LN : List Nd → AV → Heap → List Nat → Prop := LRow (LPl eN) 2
abbrev LI : List Int → AV → Heap → List Nat → Prop := LRow (LPl eI) 1
def LCh : Lay Ch := fun c cs G D => ∃ x, cs = [I c.var, x] ∧ LN c.by_ x G D
def LCm : Lay Cm := fun c cs G D => ∃ x y D1 D2, cs = [x, y] ∧ D = D1 ++ D2 ∧ LN c.when_ x G D1 ∧ LRow LCh 2 c.chs y G D2
theorem LCh.local : Lay.Local LCh := by
  rintro c cs G G' D ⟨x, e, h⟩ hf
  exact ⟨x, e, LRow.local (LPl.local eN) h hf⟩
theorem LCh.size : Lay.Size LCh 2 := by
  rintro c cs G D ⟨x, rfl, h⟩; rfl
theorem LCh.has : Lay.Has LCh := by
  rintro c cs G D ⟨x, e, h⟩
  exact LRow.has (LPl.has eN) h
theorem LCh.frz : Lay.Frz LCh eCh := by
  rintro c cs G D v s pre post ⟨x, rfl, h⟩ hD hs hG
  obtain ⟨G', w, k, f⟩ := LRow.frzIn (e := eN) (sz := 2) (pre := pre ++ [I c.var]) (post := post) (v := v) (by omega) (fun _ => rfl) (LPl.local eN) (LPl.frz eN) h hD hs (by rw [hG]; simp)
  exact ⟨G', w, by rw [k]; simp, f⟩
theorem LCm.local : Lay.Local LCm := by
  rintro c cs G G' D ⟨x, y, D1, D2, e, rfl, h1, h2⟩ hf
  exact ⟨x, y, D1, D2, e, rfl, LRow.local (LPl.local eN) h1 (fun z hz => hf z (List.mem_append_left _ hz)), LRow.local LCh.local h2 (fun z hz => hf z (List.mem_append_right _ hz))⟩
theorem LCm.size : Lay.Size LCm 2 := by
  rintro c cs G D ⟨x, y, D1, D2, rfl, e, h1, h2⟩; rfl
theorem LCm.has : Lay.Has LCm := by
  rintro c cs G D ⟨x, y, D1, D2, e, rfl, h1, h2⟩ z hz
  rcases List.mem_append.1 hz with hz | hz
  · exact LRow.has (LPl.has eN) h1 z hz
  · exact LRow.has LCh.has h2 z hz
theorem LCm.frz : Lay.Frz LCm eCm := by
  rintro c cs G D v s pre post ⟨x, y, D1, D2, rfl, rfl, h1, h2⟩ hD hs hG
  rw [List.nodup_append] at hD
  rw [List.mem_append, not_or] at hs
  obtain ⟨G1, w1, k1, f1⟩ := LRow.frzIn (e := eN) (sz := 2) (pre := pre) (post := y :: post) (v := v) (by omega) (fun _ => rfl) (LPl.local eN) (LPl.frz eN) h1 hD.1 hs.1 (by rw [hG]; simp)
  have h2' : LRow LCh 2 c.chs y G1 D2 := LRow.local LCh.local h2 fun z hz b hb => by rw [f1 z (fun e => hs.2 (e ▸ hz)) (fun hz1 => hD.2.2 z hz1 z hz rfl)]; exact hb
  obtain ⟨G2, w2, k2, f2⟩ := LRow.frzIn (e := eCh) (sz := 2) (pre := pre ++ [Ns c.when_]) (post := post) (v := v) (by omega) (fun _ => rfl) LCh.local LCh.frz h2' hD.2.1 hs.2 (by rw [k1]; simp)
  refine ⟨G2, .trans w1 w2, by rw [k2]; simp, fun z hz hzD => ?_⟩
  rw [List.mem_append, not_or] at hzD
  rw [f2 z hz hzD.2, f1 z hz hzD.1]
structure New (H G : Heap) (D : List Nat) : Prop where
  nd : D.Nodup
  fr : ∀ y ∈ D, H y = none
  le : Heap.le H G
theorem New.trans {H G G' : Heap} {D D' : List Nat} (n : New H G D) (m : New G G' D') (hh : ∀ y ∈ D, G y ≠ none) : New H G' (D ++ D') := by
  refine ⟨List.nodup_append.2 ⟨n.nd, m.nd, fun a ha b hb e => hh a ha (by rw [e]; exact m.fr b hb)⟩, fun y hy => ?_, Heap.le_trans n.le m.le⟩
  rcases List.mem_append.1 hy with hy | hy
  · exact n.fr y hy
  · cases hh : H y with
    | none => rfl
    | some b => rw [← m.fr y hy, n.le y b hh]
theorem New.base {H H' G : Heap} {D : List Nat} (n : New H' G D) (hle : Heap.le H H') : New H G D :=
  ⟨n.nd, fun y hy => by
    cases hh : H y with
    | none => rfl
    | some b => rw [← n.fr y hy, hle y b hh], Heap.le_trans hle n.le⟩
theorem New.put {H G : Heap} {D : List Nat} (n : New H G D) {q : Nat} (hq : H q = none) (b : List AV) : New H (G.set q b) D := ⟨n.nd, n.fr, Heap.le_setN n.le hq⟩
theorem LRow.sl {α : Type} {L : Lay α} {sz : Nat} {xs : List α} {x : AV} {G : Heap} {D : List Nat} (h : LRow L sz xs x G D) : ∃ q, x = .sl q sz 0 xs.length := by
  obtain ⟨q, cs, D', e1, e2, e3, e4⟩ := h; exact ⟨q, e1⟩
end Go.Proofs.Ytginibofnkiofaa
namespace Go.Proofs.Ytginibofnkiofaa
open Go Go.Sep Go.Pt
attribute [local irreducible] CallT
def LPg (p : Pg) (v : AV) (G : Heap) (D : List Nat) : Prop := ∃ x y D1 D2, v = .agg [I p.wide, I p.vars, x, y] ∧ D = D1 ++ D2 ∧ LN p.start x G D1 ∧ LRow LCm 2 p.cmds y G D2
theorem LPg.local {p : Pg} {v : AV} {G G' : Heap} {D : List Nat} (h : LPg p v G D) (hf : ∀ y ∈ D, ∀ b, G y = some b → G' y = some b) : LPg p v G' D := by
  obtain ⟨x, y, D1, D2, e, rfl, h1, h2⟩ := h
  exact ⟨x, y, D1, D2, e, rfl, LRow.local (LPl.local eN) h1 (fun z hz => hf z (List.mem_append_left _ hz)), LRow.local LCm.local h2 (fun z hz => hf z (List.mem_append_right _ hz))⟩
theorem LPg.has {p : Pg} {v : AV} {G : Heap} {D : List Nat} (h : LPg p v G D) : ∀ y ∈ D, G y ≠ none := by
  obtain ⟨x, y, D1, D2, e, rfl, h1, h2⟩ := h
  intro z hz
  rcases List.mem_append.1 hz with hz | hz
  · exact LRow.has (LPl.has eN) h1 z hz
  · exact LRow.has LCm.has h2 z hz
theorem LPg.wk {p : Pg} {v : AV} {G : Heap} {D : List Nat} (h : LPg p v G D) (hD : D.Nodup) (C : AV → AV) (hC : ∀ {q sz es a a'}, FrzR q sz es a a' → FrzR q sz es (C a) (C a')) : ∃ G', Wk (C v) G (C (aPg p)) G' ∧ ∀ y, y ∉ D → G' y = G y := by
  obtain ⟨x, y, D1, D2, rfl, rfl, h1, h2⟩ := h
  rw [List.nodup_append] at hD
  obtain ⟨G1, w1, f1⟩ := LRow.frzV (e := eN) (sz := 2) (v := C (.agg [I p.wide, I p.vars, x, y])) (v' := C (.agg [I p.wide, I p.vars, Ns p.start, y])) (by omega) (fun _ => rfl) (LPl.local eN) (LPl.frz eN) h1 hD.1
    (fun q _ hr => hC (.agg (.cons (.same _) (.cons (.same _) (.cons hr (.cons (.same _) .nil))))))
  have h2' := LRow.local LCm.local h2 (G' := G1) fun z hz b hb => by rw [f1 z (fun hz1 => hD.2.2 z hz1 z hz rfl)]; exact hb
  obtain ⟨G2, w2, f2⟩ := LRow.frzV (e := eCm) (sz := 2) (v := C (.agg [I p.wide, I p.vars, Ns p.start, y])) (v' := C (aPg p)) (by omega) (fun _ => rfl) LCm.local LCm.frz h2' hD.2.1
    (fun q _ hr => hC (.agg (.cons (.same _) (.cons (.same _) (.cons (.same _) (.cons hr .nil))))))
  refine ⟨G2, .trans w1 w2, fun z hz => ?_⟩
  rw [List.mem_append, not_or] at hz
  rw [f2 z hz.2, f1 z hz.1]
def LSt (of : List Int) (v : AV) (G : Heap) (D : List Nat) : Prop := ∃ x, v = .agg [x] ∧ LI of x G D
theorem LI_mk {xs : List Int} {q : Nat} {G : Heap} (h : G q = some (cells (xs.map eI))) : LI xs (rowP q xs) G [q] := ⟨q, _, [], rfl, h, LL.plain xs, rfl⟩
theorem LSt.local {of : List Int} {v : AV} {G G' : Heap} {D : List Nat} (h : LSt of v G D) (hf : ∀ y ∈ D, ∀ b, G y = some b → G' y = some b) : LSt of v G' D := by
  obtain ⟨x, e, h⟩ := h; exact ⟨x, e, LRow.local (LPl.local eI) h hf⟩
theorem LSt.has {of : List Int} {v : AV} {G : Heap} {D : List Nat} (h : LSt of v G D) : ∀ y ∈ D, G y ≠ none := by
  obtain ⟨x, e, h⟩ := h; exact LRow.has (LPl.has eI) h
theorem LSt.wk {of : List Int} {v : AV} {G : Heap} {D : List Nat} (h : LSt of v G D) (hD : D.Nodup) (C : AV → AV) (hC : ∀ {q sz es a a'}, FrzR q sz es a a' → FrzR q sz es (C a) (C a')) : ∃ G', Wk (C v) G (C (aS of)) G' ∧ ∀ y, y ∉ D → G' y = G y := by
  obtain ⟨x, rfl, h⟩ := h
  exact LRow.frzV (e := eI) (sz := 1) (v := C (.agg [x])) (v' := C (aS of)) (by omega) (fun _ => rfl) (LPl.local eI) (LPl.frz eI) h hD (fun q _ hr => hC (.agg (.cons hr .nil)))
def marked (k : Int) (n : Nat) : List Int := (List.range n).map fun (j : Nat) => k + (j : Int)
end Go.Proofs.Ytginibofnkiofaa
namespace Go.Proofs.Ytginibofnkiofaa
open Go Go.Sep Go.Pt
attribute [local irreducible] CallT
structure Half {α : Type} (L : Lay α) (G0 : Heap) (q : Nat) (D : List Nat) (xs : List α) (i : Nat) (G : Heap) (done : List α) : Prop where
  ex : ∃ cd cr Dd Dr, G q = some (cd ++ cr) ∧ LL L done cd G Dd ∧ LL L (xs.drop i) cr G Dr ∧ D = Dd ++ Dr
  len : done.length = i
  fr : ∀ y, y ∉ q :: D → G y = G0 y
end Go.Proofs.Ytginibofnkiofaa
namespace Go.Proofs.Ytginibofnkiofaa
open Go Go.Sep Go.Pt
attribute [local irreducible] CallT
abbrev LE : List Ed → AV → Heap → List Nat → Prop := LRow (LPl eE) 3
def LIc : Lay (List Int) := fun l cs G D => ∃ x, cs = [x] ∧ LI l x G D
abbrev LII : List (List Int) → AV → Heap → List Nat → Prop := LRow LIc 1
theorem LIc.local : Lay.Local LIc := by
  rintro c cs G G' D ⟨x, e, h⟩ hf
  exact ⟨x, e, LRow.local (LPl.local eI) h hf⟩
theorem LIc.size : Lay.Size LIc 1 := by
  rintro c cs G D ⟨x, rfl, h⟩; rfl
theorem LIc.has : Lay.Has LIc := by
  rintro c cs G D ⟨x, e, h⟩
  exact LRow.has (LPl.has eI) h
theorem LIc.frz : Lay.Frz LIc eL := by
  rintro c cs G D v s pre post ⟨x, rfl, h⟩ hD hs hG
  obtain ⟨G', w, k, f⟩ := LRow.frzIn (e := eI) (sz := 1) (pre := pre) (post := post) (v := v) (by omega) (fun _ => rfl) (LPl.local eI) (LPl.frz eI) h hD hs (by rw [hG])
  exact ⟨G', w, by rw [k]; rfl, f⟩
def LAu (a : Au) (v : AV) (G : Heap) (D : List Nat) : Prop := ∃ x y z D1 D2 D3, v = .agg [I a.states, x, y, z] ∧ D = D1 ++ (D2 ++ D3) ∧ LI a.first x G D1 ∧ LE a.edges y G D2 ∧ LII a.goals z G D3
theorem LAu.local {a : Au} {v : AV} {G G' : Heap} {D : List Nat} (h : LAu a v G D) (hf : ∀ y ∈ D, ∀ b, G y = some b → G' y = some b) : LAu a v G' D := by
  obtain ⟨x, y, z, D1, D2, D3, e, rfl, h1, h2, h3⟩ := h
  exact ⟨x, y, z, D1, D2, D3, e, rfl, LRow.local (LPl.local eI) h1 (fun u hu => hf u (by simp [hu])), LRow.local (LPl.local eE) h2 (fun u hu => hf u (by simp [hu])), LRow.local LIc.local h3 (fun u hu => hf u (by simp [hu]))⟩
theorem LAu.has {a : Au} {v : AV} {G : Heap} {D : List Nat} (h : LAu a v G D) : ∀ y ∈ D, G y ≠ none := by
  obtain ⟨x, y, z, D1, D2, D3, e, rfl, h1, h2, h3⟩ := h
  intro u hu
  simp only [List.mem_append] at hu
  rcases hu with hu | hu | hu
  · exact LRow.has (LPl.has eI) h1 u hu
  · exact LRow.has (LPl.has eE) h2 u hu
  · exact LRow.has LIc.has h3 u hu
theorem nd3' {A B C : List Nat} (h : (A ++ (B ++ C)).Nodup) : A.Nodup ∧ B.Nodup ∧ C.Nodup ∧ (∀ y ∈ A, y ∉ B) ∧ (∀ y ∈ A, y ∉ C) ∧ (∀ y ∈ B, y ∉ C) := by
  rw [List.nodup_append, List.nodup_append] at h
  obtain ⟨h1, ⟨h2, h3, h4⟩, h5⟩ := h
  exact ⟨h1, h2, h3, fun y hy hb => h5 y hy y (List.mem_append_left _ hb) rfl, fun y hy hb => h5 y hy y (List.mem_append_right _ hb) rfl, fun y hy hb => h4 y hy y hb rfl⟩
theorem LAu.wk {a : Au} {v : AV} {G : Heap} {D : List Nat} (h : LAu a v G D) (hD : D.Nodup) (C : AV → AV) (hC : ∀ {q sz es a a'}, FrzR q sz es a a' → FrzR q sz es (C a) (C a')) : ∃ G', Wk (C v) G (C (aAu a)) G' ∧ ∀ y, y ∉ D → G' y = G y := by
  obtain ⟨x, y, z, D1, D2, D3, rfl, rfl, h1, h2, h3⟩ := h
  obtain ⟨n1, n2, n3, d12, d13, d23⟩ := nd3' hD
  obtain ⟨G1, w1, f1⟩ := LRow.frzV (e := eI) (sz := 1) (v := C (.agg [I a.states, x, y, z])) (v' := C (.agg [I a.states, Is a.first, y, z])) (by omega) (fun _ => rfl) (LPl.local eI) (LPl.frz eI) h1 n1
    (fun q _ hr => hC (.agg (.cons (.same _) (.cons hr (.cons (.same _) (.cons (.same _) .nil))))))
  have h2' := LRow.local (LPl.local eE) h2 (G' := G1) fun u hu b hb => by rw [f1 u (fun h => d12 u h hu)]; exact hb
  obtain ⟨G2, w2, f2⟩ := LRow.frzV (e := eE) (sz := 3) (v := C (.agg [I a.states, Is a.first, y, z])) (v' := C (.agg [I a.states, Is a.first, Es a.edges, z])) (by omega) (fun _ => rfl) (LPl.local eE) (LPl.frz eE) h2' n2
    (fun q _ hr => hC (.agg (.cons (.same _) (.cons (.same _) (.cons hr (.cons (.same _) .nil))))))
  have h3' := LRow.local LIc.local h3 (G' := G2) fun u hu b hb => by rw [f2 u (fun h => d23 u h hu), f1 u (fun h => d13 u h hu)]; exact hb
  obtain ⟨G3, w3, f3⟩ := LRow.frzV (e := eL) (sz := 1) (v := C (.agg [I a.states, Is a.first, Es a.edges, z])) (v' := C (aAu a)) (by omega) (fun _ => rfl) LIc.local LIc.frz h3' n3
    (fun q _ hr => hC (.agg (.cons (.same _) (.cons (.same _) (.cons (.same _) (.cons hr .nil))))))
  refine ⟨G3, .trans w1 (.trans w2 w3), fun u hu => ?_⟩
  simp only [List.mem_append, not_or] at hu
  rw [f3 u hu.2.2, f2 u hu.2.1, f1 u hu.1]
end Go.Proofs.Ytginibofnkiofaa
namespace Go.Proofs.Ytginibofnkiofaa
open Go Go.Sep Go.Pt
attribute [local irreducible] CallT
theorem cI_len (xs : List Int) : (cP fI xs).length = xs.length := by simp [cP]
theorem cI_app (xs ys : List Int) : cP fI (xs ++ ys) = cP fI xs ++ cP fI ys := by simp [cP]
theorem app_intsX {q : Nat} {xs ys : List Int} {ex : List AV} {G : Heap} {K : AV → Heap → Prop} (hq : G q = some (cP fI xs ++ ex)) (hl : xs.length + ys.length ≤ 1000000000)
    (h : ∀ q', G q' = none → q' ≠ q → K (rowP q' (xs ++ ys)) ((G.del q).set q' (cP fI (xs ++ ys)))) : appendV tab 28 28 (rowP q xs) (Is ys) G (wkK K) := by
  have hlen := cI_len xs
  simp only [appendV, tab_28, tab_3, srcV, baseV, hq]
  have e2 : List.map AV.p (List.map eI ys).flatten = cP fI ys := flat_P fI ys
  refine ⟨szI ys, trivial, by rw [List.length_append, hlen]; omega, by simp only [List.length_map]; omega, by simp only [List.length_map]; omega, cells_cell _, fun q' hq' => wkK.keep ?_⟩
  have hne : q' ≠ q := fun e => by rw [e, hq] at hq'; cases hq'
  have := h q' hq' hne
  have e : List.take (xs.length * 1) (List.drop 0 (cP fI xs ++ ex)) = cP fI xs := by rw [List.drop_zero, Nat.mul_one, ← hlen, List.take_left]
  rw [e, e2, List.length_map]
  rw [cI_app] at this
  simpa only [rowP, List.length_append] using this
theorem app_topI {q : Nat} {xs ys : List Int} {G : Heap} {K : AV → Heap → Prop} (hq : G q = none) (hl : xs.length + ys.length ≤ 1000000) (h : ∀ q', G q' = none → K (rowP q' (xs ++ ys)) (G.set q' (cP fI (xs ++ ys)))) :
    appendV tab 28 28 (rowP q xs) (Is ys) (G.set q (cP fI xs)) (wkK K) :=
  app_intsX (ex := []) (by rw [Heap.set_same, List.append_nil]) (by omega) fun q' hq' hne => by
    rw [Heap.del_set hq]
    rw [Heap.set_none] at hq'
    exact h q' hq'.2
theorem push_topI {q : Nat} {xs : List Int} {b : Int} {G : Heap} {K : AV → Heap → Prop} (hq : G q = none) (hl : xs.length ≤ 100000) (h : ∀ q', G q' = none → K (rowP q' (xs ++ [b])) (G.set q' (cP fI (xs ++ [b])))) :
    buildSliceV tab 28 1 [(0, I b)] (G.set q (cP fI xs)) (wkK fun v H1 => appendV tab 28 28 (rowP q xs) v H1 (wkK K)) := by
  refine lit1 tab_28 rfl tab_3 ⟨rfl, rfl⟩ ?_
  exact app_topI (ys := [b]) hq (by simp; omega) h
theorem lit0I {G : Heap} {K : AV → Heap → Prop} (h : ∀ q, G q = none → K (rowP q ([] : List Int)) (G.set q (cP fI []))) : buildSliceV tab 28 0 [] G (wkK K) := by
  simp only [buildSliceV, tab_28, tab_3]
  refine ⟨by omega, ?_⟩
  simp only [fillV, zerosA, List.replicate_zero, List.flatten_nil]
  exact fun r hr => wkK.keep (h r hr)
def below (n : Nat) : List Int := (List.range n).map fun (i : Nat) => (i : Int)
theorem LI_mk' {xs : List Int} {q : Nat} {G : Heap} (h : G q = some (cP fI xs)) : LI xs (rowP q xs) G [q] := LI_mk (by
  have e : cells (xs.map eI) = cP fI xs := cells_P fI xs
  rw [e]; exact h)
theorem IndexI_spec (l : List Int) (x : Int) (hl : l.length ≤ 1048576) : Pu Try.prog 50 [Is l, I x] (I (if x ∈ l then (l.idxOf x : Int) else -1)) := by
  refine Pu.of fun H => ?_
  refine W50_ok ?_; simp (maxSteps := 1000000) (disch := first | assumption | (apply ν6; assumption)) only [W50, vz, vu, vv, eqS, eF_, ↓c1_, ↓c2_, tabs, reduceCtorEq, ι5, ↓reduceIte, ν1, ν2, ν3, ν4, ν5, ι1, ι2, ι3, ι4]
  refine L50_0_rule (0 : Nat) (fun i => I i) (fun _ => H) (fun i => i ≤ l.length ∧ ∀ j, j < i → l.getD j default ≠ x) (fun i => l.length - i) ⟨⟨by omega, by intros; omega⟩, .refl _, Heap.le_refl _⟩ ?_
  rintro i ⟨hi, ha⟩
  (try simp (maxSteps := 1000000) (disch := first | assumption | (apply ν6; assumption)) only [vz, vu, vv, eqS, eF_, ↓c1_, ↓c2_, tabs, reduceCtorEq, ι5, ↓reduceIte, ν1, ν2, ν3, ν4, ν5, ι1, ι2, ι3, ι4, B50_0])
  refine ⟨fun h1 => ⟨by omega, h1, fun h2 => ?_, fun h2 => ⟨i + 1, ⟨by omega, fun j hj => ?_⟩, by omega, ?_⟩⟩, fun h1 => ?_⟩
  · have hlt : i < l.length := by omega
    have hm : x ∈ l := by rw [h2]; exact getD_all (p := fun x => x ∈ l) (fun _ h => h) hlt
    rw [if_pos hm]
    refine congrArg (fun n : Int => I n) ?_
    have : l.idxOf x = i := by
      rw [List.idxOf, List.findIdx_eq hlt]
      refine ⟨by rw [← getD_lt (d := default) hlt, ← h2]; simp, fun j hj => ?_⟩
      have := ha j hj
      rw [getD_lt (by omega : j < l.length)] at this
      simpa using this
    omega
  · rcases Nat.lt_succ_iff_lt_or_eq.1 hj with h | rfl
    · exact ha j h
    · exact fun e => h2 e.symm
  · rw [wk_int, i64_id (by omega) (by omega)]; simp
  · have hm : x ∉ l := by
      intro hm
      obtain ⟨j, hj, e⟩ := List.mem_iff_getElem.1 hm
      exact ha j (by omega) (by rw [getD_lt hj]; exact e)
    rw [if_neg hm]
theorem ContainsI_spec (l : List Int) (x : Int) (hl : l.length ≤ 1048576) : Pu Try.prog 29 [Is l, I x] (B (decide (x ∈ l))) := by
  refine Pu.of fun H => ?_
  refine W29_ok ?_; simp (maxSteps := 1000000) (disch := first | assumption | (apply ν6; assumption)) only [W29, vz, vu, vv, eqS, eF_, ↓c1_, ↓c2_, tabs, reduceCtorEq, ι5, ↓reduceIte, ν1, ν2, ν3, ν4, ν5, ι1, ι2, ι3, ι4]
  refine Pu.use (IndexI_spec l x hl) ?_
  (try simp (maxSteps := 1000000) (disch := first | assumption | (apply ν6; assumption)) only [vz, vu, vv, eqS, eF_, ↓c1_, ↓c2_, tabs, reduceCtorEq, ι5, ↓reduceIte, ν1, ν2, ν3, ν4, ν5, ι1, ι2, ι3, ι4])
  refine congrArg (fun b : Bool => B b) ?_
  by_cases h : x ∈ l
  · simp [h]
  · simp [h]
theorem l1Has_spec (l : List Int) (x : Int) (hl : l.length ≤ 1048576) : Pu Try.prog 32 [Is l, I x] (B (decide (x ∈ l))) := by
  refine Pu.of fun H => ?_
  refine W32_ok ?_; simp (maxSteps := 1000000) (disch := first | assumption | (apply ν6; assumption)) only [W32, vz, vu, vv, eqS, eF_, ↓c1_, ↓c2_, tabs, reduceCtorEq, ι5, ↓reduceIte, ν1, ν2, ν3, ν4, ν5, ι1, ι2, ι3, ι4]
  refine L32_0_rule (0 : Nat) (fun i => I i) (fun _ => H) (fun i => i ≤ l.length ∧ ∀ j, j < i → l.getD j default ≠ x) (fun i => l.length - i) ⟨⟨by omega, by intros; omega⟩, .refl _, Heap.le_refl _⟩ ?_
  rintro i ⟨hi, ha⟩
  (try simp (maxSteps := 1000000) (disch := first | assumption | (apply ν6; assumption)) only [vz, vu, vv, eqS, eF_, ↓c1_, ↓c2_, tabs, reduceCtorEq, ι5, ↓reduceIte, ν1, ν2, ν3, ν4, ν5, ι1, ι2, ι3, ι4, B32_0])
  refine ⟨fun h1 => ⟨by omega, h1, fun h2 => ?_, fun h2 => ⟨i + 1, ⟨by omega, fun j hj => ?_⟩, by omega, ?_⟩⟩, fun h1 => ?_⟩
  · have hlt : i < l.length := by omega
    have hm : x ∈ l := by rw [← h2]; exact getD_all (p := fun x => x ∈ l) (fun _ h => h) hlt
    rw [decide_eq_true hm]
  · rcases Nat.lt_succ_iff_lt_or_eq.1 hj with h | rfl
    · exact ha j h
    · exact h2
  · rw [wk_int, i64_id (by omega) (by omega)]; simp
  · have hm : x ∉ l := by
      intro hm
      obtain ⟨j, hj, e⟩ := List.mem_iff_getElem.1 hm
      exact ha j (by omega) (by rw [getD_lt hj]; exact e)
    rw [decide_eq_false hm]
end Go.Proofs.Ytginibofnkiofaa
namespace Go.Proofs.Ytginibofnkiofaa
open Go Go.Sep Go.Pt
attribute [local irreducible] CallT
def GAt (x : AV) (gs : List (List Int)) (G : Heap) (D : List Nat) : Prop := ∃ cs D', LL LIc gs cs G D' ∧ ((x = .p .nil ∧ cs = [] ∧ D = []) ∨ ∃ q, x = .sl q 1 0 gs.length ∧ G q = some cs ∧ D = q :: D')
theorem GAt.nil (G : Heap) : GAt (.p .nil) [] G [] := ⟨[], [], ⟨rfl, rfl⟩, .inl ⟨rfl, rfl, rfl⟩⟩
theorem GAt.local {x : AV} {gs : List (List Int)} {G G' : Heap} {D : List Nat} (g : GAt x gs G D) (h : ∀ y ∈ D, ∀ b, G y = some b → G' y = some b) : GAt x gs G' D := by
  obtain ⟨cs, D', hl, h1⟩ := g
  rcases h1 with ⟨rfl, rfl, rfl⟩ | ⟨q, rfl, hq, rfl⟩
  · cases gs with
    | nil => obtain ⟨_, rfl⟩ := hl; exact ⟨[], [], ⟨rfl, rfl⟩, .inl ⟨rfl, rfl, rfl⟩⟩
    | cons a gs => obtain ⟨c1, c2, D1, D2, e, _, ⟨z, rfl, _⟩, _⟩ := hl; simp at e
  · exact ⟨cs, D', LL.local LIc.local hl (fun y hy b hb => h y (List.mem_cons_of_mem _ hy) b hb), .inr ⟨q, rfl, h q (List.mem_cons_self ..) _ hq, rfl⟩⟩
theorem GAt.push {x : AV} {gs : List (List Int)} {G : Heap} {D : List Nat} {l : List Int} {qn ql : Nat} {K : AV → Heap → Prop} (g : GAt x gs G D) (hD : D.Nodup) (hl : G qn = some (cP fI l)) (hn : qn ∉ D) (hql : G ql = some [rowP qn l]) (hlen : gs.length ≤ 1000)
    (h : ∀ q' G' D'', G q' = none → GAt (.sl q' 1 0 (gs.length + 1)) (gs ++ [l]) G' D'' → D''.Nodup → (∀ y ∈ D'', y ∈ D ∨ y = qn ∨ y = q') → (∀ y b, G y = some b → y ∉ D → G' y = some b) → K (.sl q' 1 0 (gs.length + 1)) G') :
    appendV tab 24 24 x (.sl ql 1 0 1) G (wkK K) := by
  obtain ⟨cs, D', hll, h1⟩ := g
  have hcl : cs.length = gs.length := by rw [LL.size LIc.size hll, Nat.mul_one]
  have hqnN : ∀ {q'}, G q' = none → q' ≠ qn := fun hq' e => by rw [e, hl] at hq'; cases hq'
  simp only [appendV, tab_24, tab_28, srcV, hql]
  rcases h1 with ⟨rfl, rfl, rfl⟩ | ⟨q, rfl, hq, rfl⟩
  · have hgs : gs = [] := List.eq_nil_of_length_eq_zero hcl.symm
    subst hgs
    obtain ⟨_, rfl⟩ := hll
    simp only [baseV]
    refine ⟨trivial, by simp, by omega, by omega, rfl, fun q' hq' => wkK.keep ?_⟩
    have hlL : LI l (rowP qn l) (G.set q' ([] ++ [rowP qn l])) [qn] := LI_mk' (by rw [Heap.set_other (Ne.symm (hqnN hq'))]; exact hl)
    refine h q' _ [q', qn] hq' ⟨[rowP qn l], [qn], ?_, .inr ⟨q', rfl, Heap.set_same _ _ _, rfl⟩⟩ (by simp [hqnN hq']) (fun y hy => by simp at hy; rcases hy with rfl | rfl <;> simp) (fun y b hb _ => by rw [Heap.set_other (fun e => by rw [e, hq'] at hb; cases hb)]; exact hb)
    exact ⟨[rowP qn l], [], [qn], [], rfl, by simp, ⟨_, rfl, hlL⟩, ⟨rfl, rfl⟩⟩
  · rw [List.mem_cons, not_or] at hn
    rw [List.nodup_cons] at hD
    simp only [baseV, hq]
    have e1 : List.take (gs.length * 1) (List.drop 0 cs) = cs := by rw [List.drop_zero, Nat.mul_one, ← hcl, List.take_length]
    have e2 : List.take (1 * 1) (List.drop 0 [rowP qn l]) = [rowP qn l] := rfl
    refine ⟨trivial, by simp, trivial, by omega, by omega, by omega, rfl, fun q' hq' => wkK.keep ?_⟩
    rw [e1, e2]
    have nq : q' ≠ q := fun e => by rw [e, hq] at hq'; cases hq'
    have old : ∀ y b, G y = some b → y ≠ q → ((G.del q).set q' (cs ++ [rowP qn l])) y = some b := fun y b hb hy => by
      rw [Heap.set_other (fun e => by rw [e, hq'] at hb; cases hb), Heap.del_other hy]; exact hb
    have hlL : LI l (rowP qn l) ((G.del q).set q' (cs ++ [rowP qn l])) [qn] := LI_mk' (old _ _ hl hn.1)
    have hnD : ∀ y ∈ D', y ≠ q := fun y hy e => hD.1 (e ▸ hy)
    refine h q' _ (q' :: (D' ++ [qn])) hq' ⟨cs ++ [rowP qn l], D' ++ [qn], LL.snoc ⟨_, rfl, hlL⟩ (LL.local LIc.local hll fun y hy b hb => old y b hb (hnD y hy)), .inr ⟨q', by simp, Heap.set_same _ _ _, rfl⟩⟩ ?_ ?_ ?_
    · have hq'D : q' ∉ D' := fun hm => LL.has LIc.has hll q' hm hq'
      rw [List.nodup_cons, List.nodup_append]
      refine ⟨by simp only [List.mem_append, List.mem_singleton, not_or]; exact ⟨hq'D, hqnN hq'⟩, hD.2, by simp, fun a ha b hb e => ?_⟩
      rw [List.mem_singleton] at hb
      exact hn.2 (by rw [← hb, ← e]; exact ha)
    · intro y hy
      simp only [List.mem_cons, List.mem_append, List.not_mem_nil, or_false] at hy ⊢
      rcases hy with rfl | hy | rfl
      · exact .inr (.inr rfl)
      · exact .inl (.inr hy)
      · exact .inr (.inl rfl)
    · intro y b hb hy
      rw [List.mem_cons, not_or] at hy
      exact old y b hb hy.1
end Go.Proofs.Ytginibofnkiofaa
namespace Go.Sep
open Go Go.RowKit Go.Sort Go.Proofs Go.Pt
theorem CallT.quiet {P : Program} {f : Nat} {args : List AV} {v : AV} (h : CallT P f args (fun _ => none) (fun r _ => r = v)) {xs : Array Value} (ha : ∀ Z φ, ArgsRel Z φ args xs) {x : Value} (hx : ∀ Z φ y, Cv Z φ v y → y = x) (w : World) :
    Calls P f xs w fun e w' => e = .returned x ∧ ∃ q os', w' = Go.Sort.grow (w.drewN q) os' := by
  have hor : Heap.or (fun _ => none) (fun _ => none) = (fun _ => none : Heap) := by funext x; rfl
  have sim : Sim (fun _ _ => none) (fun _ => none) w.heap.size w (Heap.or (fun _ => none) (fun _ => none)) w := by
    rw [hor]
    exact ⟨Nat.le_refl _, Bel.refl _ _, ⟨0, fun _ _ => rfl⟩, fun r blk h => (by simp at h), fun r r' pl pl' h => absurd rfl h, fun b i v h => (by cases h), fun b i v _ r pl h => absurd rfl h⟩
  refine (h.2 w.heap.size w (fun _ => none) (fun _ _ => none) (fun _ => none) w xs (fun r h => absurd rfl h) sim (ha _ _)).mono ?_
  rintro e w' ⟨y, rfl, v', H1, Z1, φ1, rfl, _, _, _, s1, hc⟩
  refine ⟨by rw [hx _ _ _ hc], w'.drawn - w.drawn, w'.heap.extract w.heap.size w'.heap.size, ?_⟩
  obtain ⟨⟨h1, h2, h3, h4, h5⟩, h6⟩ := s1.below
  unfold DrawnLe at h6
  have hh : w'.heap = w.heap ++ w'.heap.extract w.heap.size w'.heap.size := by
    apply Array.ext_getElem?
    intro k
    by_cases hk : k < w.heap.size
    · rw [Array.getElem?_append_left hk]; exact h5 k hk
    · rw [Array.getElem?_append_right (by omega), Array.getElem?_extract]
      by_cases hk2 : k < w'.heap.size
      · rw [if_pos (by omega)]; congr 1; omega
      · rw [if_neg (by omega)]; exact Array.getElem?_eq_none (by omega)
  cases w'; cases w
  simp only [Go.Sort.grow, World.drewN] at *
  subst h1; subst h2; subst h3
  rw [← hh]
  congr 1
  omega
end Go.Sep
namespace Go.Proofs.Ytginibofnkiofaa
open Go Go.Sep Go.Pt Go.RowKit Go.Sort
attribute [local irreducible] CallT
end Go.Proofs.Ytginibofnkiofaa
namespace Go.Proofs.Ytginibofnkiofaa
open Go Go.Sep
attribute [local irreducible] CallT
abbrev cur (code : List Int) (k : Nat) (seed : Int) : List AV := [.p (.sl (code.map e8)), I k, U seed]
structure Code (code : List Int) : Prop where
  byte : ∀ b ∈ code, 0 ≤ b ∧ b < 256
  len : code.length ≤ 4194304
theorem and255 (x : Int) : 0 ≤ bitsI .and .u64 x 255 ∧ bitsI .and .u64 x 255 < 256 := by
  have h : (BitVec.ofInt IntKind.u64.bits x &&& BitVec.ofInt IntKind.u64.bits 255).toNat ≤ 255 := by
    rw [BitVec.toNat_and]; exact Nat.le_trans Nat.and_le_right (by decide)
  simp only [bitsI]
  rw [IntKind.wrap_u64]; omega
theorem next_spec {code : List Int} (hc : Code code) {k : Nat} {seed : Int} (hk : k ≤ 1000000000) {H : Heap} {r : Nat} (hr : H r = some (cur code k seed)) {K : AV → Heap → Prop}
    (h : ∀ b seed', 0 ≤ b → b < 256 → K (I b) (H.set r (cur code (k + 1) seed'))) : CallT Try.prog 49 [.ptr r 0] H K := by
  have hw : IntKind.i64.wrap (↑k + 1) = ((k + 1 : Nat) : Int) := i64_id (by omega) (by omega)
  refine W49_ok ?_; simp (maxSteps := 1000000) (disch := first | assumption | (apply ν6; assumption)) only [W49, vz, vu, vv, eqS, eF_, ↓c1_, ↓c2_, tabs, reduceCtorEq, ι5, ↓reduceIte, ν1, ν2, ν3, ν4, ν5, ι1, ι2, ι3, ι4, J49_0, load_at hr, store_at hr, hw]
  have hb : ∀ x : Int, (0 ≤ x ∧ x < 256) → 0 ≤ IntKind.i64.wrap x ∧ IntKind.i64.wrap x < 256 := fun x hx => by rw [i64_id (by omega) (by omega)]; exact hx
  refine ⟨fun h1 => ⟨by omega, h1, fun _ => ?_, fun _ => ⟨by omega, ?_⟩⟩, fun h1 => ⟨fun _ => ?_, fun _ => ⟨by omega, ?_⟩⟩⟩
  · have := hb _ (getD_all (d := default) hc.byte (i := k) (by omega))
    exact h _ _ this.1 this.2
  · have := hb _ (and255 ((IntKind.u64.wrap (IntKind.u64.wrap (IntKind.u64.wrap (seed * 6364136223846793005) + IntKind.u64.wrap (IntKind.i64.wrap (code.getD k default))) + 1442695040888963407)).fdiv (2 ^ min 40 IntKind.u64.bits)))
    exact h _ _ this.1 this.2
  · exact h _ _ (by omega) (by omega)
  · have := hb _ (and255 ((IntKind.u64.wrap (IntKind.u64.wrap (IntKind.u64.wrap (seed * 6364136223846793005) + IntKind.u64.wrap 0) + 1442695040888963407)).fdiv (2 ^ min 40 IntKind.u64.bits)))
    exact h _ _ this.1 this.2
theorem pick_spec {code : List Int} (hc : Code code) {k : Nat} {seed : Int} (n : Int) (hn : n ≤ 65536) (hk : k ≤ 900000000) {H : Heap} {r : Nat} (hr : H r = some (cur code k seed)) {K : AV → Heap → Prop}
    (h : ∀ x k' seed', 0 ≤ x → (x = 0 ∨ x < n) → k ≤ k' → k' ≤ k + 2 → K (I x) (H.set r (cur code k' seed'))) : CallT Try.prog 27 [.ptr r 0, I n] H K := by
  have hs : H.set r (cur code k seed) = H := by
    funext x; by_cases e : x = r
    · subst e; rw [Heap.set_same, hr]
    · rw [Heap.set_other e]
  refine W27_ok ?_; simp (maxSteps := 1000000) (disch := first | assumption | (apply ν6; assumption)) only [W27, vz, vu, vv, eqS, eF_, ↓c1_, ↓c2_, tabs, reduceCtorEq, ι5, ↓reduceIte, ν1, ν2, ν3, ν4, ν5, ι1, ι2, ι3, ι4]
  refine ⟨fun h1 => ?_, fun h1 => ?_⟩
  · have := h 0 k seed (by omega) (.inl rfl) (by omega) (by omega)
    rwa [hs] at this
  · refine next_spec hc (by omega) hr fun b s1 hb0 hb1 => ?_
    (try simp (maxSteps := 1000000) (disch := first | assumption | (apply ν6; assumption)) only [vz, vu, vv, eqS, eF_, ↓c1_, ↓c2_, tabs, reduceCtorEq, ι5, ↓reduceIte, ν1, ν2, ν3, ν4, ν5, ι1, ι2, ι3, ι4])
    refine ⟨fun h2 => ?_, fun h2 => ?_⟩
    · refine next_spec hc (by omega) (Heap.set_same _ _ _) fun b2 s2 hb2 hb3 => ?_
      (try simp (maxSteps := 1000000) (disch := first | assumption | (apply ν6; assumption)) only [vz, vu, vv, eqS, eF_, ↓c1_, ↓c2_, tabs, reduceCtorEq, ι5, ↓reduceIte, ν1, ν2, ν3, ν4, ν5, ι1, ι2, ι3, ι4])
      rw [i64_id (n := b * 256) (by omega) (by omega), i64_id (by omega) (by omega)]
      exact ⟨by omega, h _ _ _ (Int.tmod_nonneg _ (by omega)) (.inr (Int.tmod_lt_of_pos _ (by omega))) (by omega) (by omega)⟩
    · exact ⟨by omega, h _ _ _ (Int.tmod_nonneg _ (by omega)) (.inr (Int.tmod_lt_of_pos _ (by omega))) (by omega) (by omega)⟩
theorem one_spec {code : List Int} (hc : Code code) {k : Nat} {seed : Int} (n : Int) (hn : n ≤ 65536) (hk : k ≤ 900000000) {H : Heap} {r : Nat} (hr : H r = some (cur code k seed)) {K : AV → Heap → Prop}
    (h : ∀ x k' seed', k ≤ k' → k' ≤ k + 2 → K (B x) (H.set r (cur code k' seed'))) : CallT Try.prog 54 [.ptr r 0, I n] H K := by
  refine W54_ok ?_; simp (maxSteps := 1000000) (disch := first | assumption | (apply ν6; assumption)) only [W54, vz, vu, vv, eqS, eF_, ↓c1_, ↓c2_, tabs, reduceCtorEq, ι5, ↓reduceIte, ν1, ν2, ν3, ν4, ν5, ι1, ι2, ι3, ι4]
  refine pick_spec hc n hn hk hr fun x k' s' _ _ h1 h2 => ?_
  (try simp (maxSteps := 1000000) (disch := first | assumption | (apply ν6; assumption)) only [vz, vu, vv, eqS, eF_, ↓c1_, ↓c2_, tabs, reduceCtorEq, ι5, ↓reduceIte, ν1, ν2, ν3, ν4, ν5, ι1, ι2, ι3, ι4])
  exact h _ _ _ h1 h2
end Go.Proofs.Ytginibofnkiofaa
namespace Go.Pc
structure Gt where
  k : Int
  a : Int
  b : Int
deriving Inhabited, DecidableEq
def inR (n lo hi : Int) : Bool := decide (lo ≤ n) && decide (n ≤ hi)
def goodL (names : Int) (l : List Int) : Bool := decide (l.length ≤ 8) && l.all fun x => decide (x ≠ 0) && inR x (-names) names
def goodF (names : Int) (cs : List (List Int)) : Bool := inR names 0 400 && decide (cs.length ≤ 1400) && cs.all (goodL names)
def litT (v : List Bool) (n : Int) : Bool := v.getD (n.natAbs - 1) false == decide (0 < n)
def meets (cs : List (List Int)) (v : List Bool) : Bool := cs.all fun l => l.any (litT v)
theorem inR_iff {n lo hi : Int} : inR n lo hi = true ↔ lo ≤ n ∧ n ≤ hi := by simp [inR]
end Go.Pc
namespace Go.Proofs.Ytginibofnkiofaa
open Go Go.Sep Go.Pc
attribute [local irreducible] CallT
theorem IndexFunc_at (xs : List Int) (g : Nat) (caps : List AV) (p : Int → Bool) {H : Heap} (hl : xs.length ≤ 1000000000) (hp : ∀ x ∈ xs, PuAt Try.prog g (I x :: caps) H (B (p x))) :
    PuAt Try.prog 75 [Is xs, .fn g caps] H (I (if xs.any p then (xs.findIdx p : Int) else -1)) := by
  intro K hK
  refine CallT.fin ?_
  refine W75_ok ?_; simp (maxSteps := 1000000) (disch := first | assumption | (apply ν6; assumption)) only [W75, vz, vu, vv, eqS, eF_, ↓c1_, ↓c2_, tabs, reduceCtorEq, ι5, ↓reduceIte, ν1, ν2, ν3, ν4, ν5, ι1, ι2, ι3, ι4]
  refine L75_0_rule (0 : Nat) (fun i => I i) (fun _ => H) (fun i => i ≤ xs.length ∧ ∀ j (hj : j < xs.length), j < i → p xs[j] = false) (fun i => xs.length - i) ⟨⟨by omega, by intros; omega⟩, .refl _, Heap.le_refl _⟩ ?_
  rintro i ⟨hi1, ha⟩
  (try simp (maxSteps := 1000000) (disch := first | assumption | (apply ν6; assumption)) only [vz, vu, vv, eqS, eF_, ↓c1_, ↓c2_, tabs, reduceCtorEq, ι5, ↓reduceIte, ν1, ν2, ν3, ν4, ν5, ι1, ι2, ι3, ι4, B75_0])
  refine ⟨fun h => ⟨by omega, h, ?_⟩, fun h => ?_⟩
  · have hlt : i < xs.length := by omega
    rw [getD_lt hlt]
    refine PuAt.use (hp _ (List.getElem_mem hlt)) ?_
    (try simp (maxSteps := 1000000) (disch := first | assumption | (apply ν6; assumption)) only [vz, vu, vv, eqS, eF_, ↓c1_, ↓c2_, tabs, reduceCtorEq, ι5, ↓reduceIte, ν1, ν2, ν3, ν4, ν5, ι1, ι2, ι3, ι4])
    refine ⟨fun h1 => ?_, fun h1 => ⟨i + 1, ⟨by omega, fun j hj hji => ?_⟩, by omega, ?_⟩⟩
    · have h2 : xs.any p = true := List.any_eq_true.2 ⟨xs[i], List.getElem_mem hlt, h1⟩
      have h3 : xs.findIdx p = i := by
        rw [List.findIdx_eq hlt]; exact ⟨h1, fun j hj => ha j (by omega) hj⟩
      rw [h2, h3] at hK; exact wkK.keep (by simpa using hK)
    · rcases Nat.lt_succ_iff_lt_or_eq.1 hji with h2 | rfl
      · exact ha j hj h2
      · exact h1
    · rw [wk_int, i64_id (by omega) (by omega)]; simp
  · have hi : i = xs.length := by omega
    have h2 : xs.any p = false := by
      rw [List.any_eq_false]
      intro x hx
      obtain ⟨j, hj, rfl⟩ := List.mem_iff_getElem.1 hx
      rw [ha j hj (by omega)]; simp
    rw [h2] at hK; exact wkK.keep (by simpa using hK)
theorem ContainsFunc_at (xs : List Int) (g : Nat) (caps : List AV) (p : Int → Bool) {H : Heap} (hl : xs.length ≤ 1000000000) (hp : ∀ x ∈ xs, PuAt Try.prog g (I x :: caps) H (B (p x))) :
    PuAt Try.prog 55 [Is xs, .fn g caps] H (B (xs.any p)) := by
  intro K hK
  refine W55_ok ?_; simp (maxSteps := 1000000) (disch := first | assumption | (apply ν6; assumption)) only [W55, vz, vu, vv, eqS, eF_, ↓c1_, ↓c2_, tabs, reduceCtorEq, ι5, ↓reduceIte, ν1, ν2, ν3, ν4, ν5, ι1, ι2, ι3, ι4]
  refine PuAt.use (IndexFunc_at xs g caps p hl hp) ?_
  (try simp (maxSteps := 1000000) (disch := first | assumption | (apply ν6; assumption)) only [vz, vu, vv, eqS, eF_, ↓c1_, ↓c2_, tabs, reduceCtorEq, ι5, ↓reduceIte, ν1, ν2, ν3, ν4, ν5, ι1, ι2, ι3, ι4])
  cases h : xs.any p <;> simp [h] at hK ⊢ <;> exact hK
end Go.Proofs.Ytginibofnkiofaa
namespace Go.Proofs.Ytginibofnkiofaa
open Go Go.Sep Go.Pc
attribute [local irreducible] CallT
theorem l1In_R (a lo hi : Int) : Pu Try.prog 31 [I a, I lo, I hi] (B (inR a lo hi)) := l1In_spec a lo hi
theorem inR_f {n lo hi : Int} (h : inR n lo hi = false) : ¬ (lo ≤ n ∧ n ≤ hi) := fun h2 => by rw [inR_iff.2 h2] at h; cases h
end Go.Proofs.Ytginibofnkiofaa
namespace Go.Proofs.Ytginibofnkiofaa
open Go Go.Sep Go.Pc
attribute [local irreducible] CallT
theorem nameOf_spec (n : Int) (h0 : -1000000000 ≤ n) (h1 : n ≤ 1000000000) : Pu Try.prog 62 [I n] (I n.natAbs) := by
  refine Pu.of fun H => ?_
  refine W62_ok ?_; simp (maxSteps := 1000000) (disch := first | assumption | (apply ν6; assumption)) only [W62, vz, vu, vv, eqS, eF_, ↓c1_, ↓c2_, tabs, reduceCtorEq, ι5, ↓reduceIte, ν1, ν2, ν3, ν4, ν5, ι1, ι2, ι3, ι4]
  rw [i64_id (by omega) (by omega)]
  congr 2
  split <;> omega
def goodX (names x : Int) : Bool := decide (x ≠ 0) && inR x (-names) names
theorem goodX_iff {names x : Int} : goodX names x = true ↔ x ≠ 0 ∧ -names ≤ x ∧ x ≤ names := by simp [goodX, inR_iff]
theorem goodX_f {names x : Int} (h : ¬ (x ≠ 0 ∧ -names ≤ x ∧ x ≤ names)) : goodX names x = false := by rw [Bool.eq_false_iff]; intro h2; exact h (goodX_iff.1 h2)
theorem isLiteral_spec (n names : Int) (h0 : -1000000 ≤ names) (h1 : names ≤ 1000000) : Pu Try.prog 57 [I n, I names] (B (goodX names n)) := by
  refine Pu.of fun H => ?_
  have e : IntKind.i64.wrap (0 - names) = -names := by rw [i64_id (by omega) (by omega)]; omega
  refine W57_ok ?_; simp (maxSteps := 1000000) (disch := first | assumption | (apply ν6; assumption)) only [W57, vz, vu, vv, eqS, eF_, ↓c1_, ↓c2_, tabs, reduceCtorEq, ι5, ↓reduceIte, ν1, ν2, ν3, ν4, ν5, ι1, ι2, ι3, ι4, e]
  refine ⟨fun h => ⟨fun h2 => ?_, fun h2 => ?_⟩, fun h => ?_⟩
  · congr 2
    rw [Bool.eq_iff_iff, goodX_iff, decide_eq_true_eq]; omega
  · rw [goodX_f (by omega)]
  · rw [goodX_f (by omega)]
theorem isClause1_at (n names : Int) (r : Nat) {H : Heap} (hr : H r = some [I names]) (h0 : -1000000 ≤ names) (h1 : names ≤ 1000000) : PuAt Try.prog 56 [I n, .ptr r 0] H (B (!goodX names n)) := by
  intro K hK
  refine W56_ok ?_; simp (maxSteps := 1000000) (disch := first | assumption | (apply ν6; assumption)) only [W56, vz, vu, vv, eqS, eF_, ↓c1_, ↓c2_, tabs, reduceCtorEq, ι5, ↓reduceIte, ν1, ν2, ν3, ν4, ν5, ι1, ι2, ι3, ι4, load_at hr]
  refine Pu.use (isLiteral_spec n names h0 h1) ?_
  (try simp (maxSteps := 1000000) (disch := first | assumption | (apply ν6; assumption)) only [vz, vu, vv, eqS, eF_, ↓c1_, ↓c2_, tabs, reduceCtorEq, ι5, ↓reduceIte, ν1, ν2, ν3, ν4, ν5, ι1, ι2, ι3, ι4])
  exact hK
theorem isClause_spec (l : List Int) (names : Int) (hl : l.length ≤ 1000000) (h0 : -1000000 ≤ names) (h1 : names ≤ 1000000) : Pu Try.prog 35 [Is l, I names] (B (goodL names l)) := by
  refine Pu.of fun H => ?_
  refine W35_ok ?_; simp (maxSteps := 1000000) (disch := first | assumption | (apply ν6; assumption)) only [W35, vz, vu, vv, eqS, eF_, ↓c1_, ↓c2_, tabs, reduceCtorEq, ι5, ↓reduceIte, ν1, ν2, ν3, ν4, ν5, ι1, ι2, ι3, ι4]
  intro r hr
  refine ⟨fun h => ?_, fun h => ?_⟩
  · refine PuAt.use (ContainsFunc_at l _ _ (fun x => !goodX names x) (by omega) fun x _ => isClause1_at x names r (Heap.set_same _ _ _) h0 h1) ?_
    (try simp (maxSteps := 1000000) (disch := first | assumption | (apply ν6; assumption)) only [vz, vu, vv, eqS, eF_, ↓c1_, ↓c2_, tabs, reduceCtorEq, ι5, ↓reduceIte, ν1, ν2, ν3, ν4, ν5, ι1, ι2, ι3, ι4])
    refine ⟨?_, Heap.le_set hr⟩
    have : l.length ≤ 8 := by omega
    simp only [goodL, this, decide_true, Bool.true_and, List.all_eq_not_any_not, goodX]
  · have : ¬ l.length ≤ 8 := by omega
    exact ⟨by simp only [goodL, this, decide_false, Bool.false_and], Heap.le_set hr⟩
abbrev aF (names : Int) (cs : List (List Int)) : AV := .agg [I names, Ls cs]
theorem GoodCnf1_at (l : List Int) (names : Int) (r : Nat) {x : AV} {H : Heap} (hr : H r = some [I names, x]) (hl : l.length ≤ 1000000) (h0 : -1000000 ≤ names) (h1 : names ≤ 1000000) : PuAt Try.prog 64 [Is l, .ptr r 0] H (B (!goodL names l)) := by
  intro K hK
  refine W64_ok ?_; simp (maxSteps := 1000000) (disch := first | assumption | (apply ν6; assumption)) only [W64, vz, vu, vv, eqS, eF_, ↓c1_, ↓c2_, tabs, reduceCtorEq, ι5, ↓reduceIte, ν1, ν2, ν3, ν4, ν5, ι1, ι2, ι3, ι4, load_at hr]
  refine Pu.use (isClause_spec l names hl h0 h1) ?_
  (try simp (maxSteps := 1000000) (disch := first | assumption | (apply ν6; assumption)) only [vz, vu, vv, eqS, eF_, ↓c1_, ↓c2_, tabs, reduceCtorEq, ι5, ↓reduceIte, ν1, ν2, ν3, ν4, ν5, ι1, ι2, ι3, ι4])
  exact hK
theorem goodF_f {names : Int} {cs : List (List Int)} (h : ¬ ((0 ≤ names ∧ names ≤ 400) ∧ cs.length ≤ 1400)) : B false = B (goodF names cs) := by
  have : goodF names cs = false := by
    rw [Bool.eq_false_iff]; intro h2
    simp only [goodF, Bool.and_eq_true, inR_iff, decide_eq_true_eq] at h2
    exact h h2.1
  rw [this]
theorem goodF_e {names : Int} {cs : List (List Int)} (h : (0 ≤ names ∧ names ≤ 400) ∧ cs.length ≤ 1400) : goodF names cs = cs.all (goodL names) := by
  simp only [goodF, inR, h.1.1, h.1.2, h.2, decide_true, Bool.and_self, Bool.true_and]
theorem GoodCnf_impl (names : Int) (cs : List (List Int)) (hl : cs.length ≤ 1000000) (hc : ∀ l ∈ cs, l.length ≤ 1000000) : Pu Try.prog 40 [aF names cs] (B (goodF names cs)) := by
  refine Pu.of fun H => ?_
  refine W40_ok ?_; simp (maxSteps := 1000000) (disch := first | assumption | (apply ν6; assumption)) only [W40, vz, vu, vv, eqS, eF_, ↓c1_, ↓c2_, tabs, reduceCtorEq, ι5, ↓reduceIte, ν1, ν2, ν3, ν4, ν5, ι1, ι2, ι3, ι4]
  intro r hr
  have hle : Heap.le H (H.set r [I names, Ls cs]) := Heap.le_set hr
  refine ⟨fun h1 => ⟨goodF_f (by omega), hle⟩, fun h1 => ⟨fun h2 => ⟨goodF_f (by omega), hle⟩, fun h2 => ⟨fun h3 => ⟨goodF_f (by omega), hle⟩, fun h3 => ?_⟩⟩⟩
  refine PuAt.use (ContainsFuncL_at cs _ _ (fun l => !goodL names l) (by omega) fun l hm => GoodCnf1_at l names r (Heap.set_same _ _ _) (hc l hm) (by omega) (by omega)) ?_
  (try simp (maxSteps := 1000000) (disch := first | assumption | (apply ν6; assumption)) only [vz, vu, vv, eqS, eF_, ↓c1_, ↓c2_, tabs, reduceCtorEq, ι5, ↓reduceIte, ν1, ν2, ν3, ν4, ν5, ι1, ι2, ι3, ι4])
  refine ⟨?_, hle⟩
  rw [goodF_e (by omega), List.all_eq_not_any_not]
theorem l6Clause_spec (names : Int) (l : List Int) (hl : l.length ≤ 1000000) (h0 : -1000000 ≤ names) (h1 : names ≤ 1000000) : Pu Try.prog 39 [I names, Is l] (B (goodL names l)) := by
  refine Pu.of fun H => ?_
  have e : IntKind.i64.wrap (0 - names) = -names := by rw [i64_id (by omega) (by omega)]; omega
  refine W39_ok ?_; simp (maxSteps := 1000000) (disch := first | assumption | (apply ν6; assumption)) only [W39, vz, vu, vv, eqS, eF_, ↓c1_, ↓c2_, tabs, reduceCtorEq, ι5, ↓reduceIte, ν1, ν2, ν3, ν4, ν5, ι1, ι2, ι3, ι4]
  refine ⟨fun h => ?_, fun h => ?_⟩
  · have : ¬ l.length ≤ 8 := by omega
    simp only [goodL, this, decide_false, Bool.false_and]
  · have h8 : l.length ≤ 8 := by omega
    refine L39_0_rule (0 : Nat) (fun i => I i) (fun _ => H) (fun i => i ≤ l.length ∧ (l.take i).all (goodX names) = true) (fun i => l.length - i) ⟨⟨by omega, by simp⟩, .refl _, Heap.le_refl _⟩ ?_
    rintro i ⟨hi, ha⟩
    (try simp (maxSteps := 1000000) (disch := first | assumption | (apply ν6; assumption)) only [vz, vu, vv, eqS, eF_, ↓c1_, ↓c2_, tabs, reduceCtorEq, ι5, ↓reduceIte, ν1, ν2, ν3, ν4, ν5, ι1, ι2, ι3, ι4, B39_0, e])
    refine ⟨fun h => ⟨by omega, h, ?_⟩, fun h => ?_⟩
    · have hlt : i < l.length := by omega
      have hm : l.getD i default ∈ l := getD_all (p := fun x => x ∈ l) (fun _ h => h) hlt
      have hbad : goodX names (l.getD i default) = false → B false = B (goodL names l) := by
        intro hx
        have : (l.all (goodX names)) = false := by rw [List.all_eq_false]; exact ⟨_, hm, by rw [hx]; simp⟩
        have e2 : goodL names l = (decide (l.length ≤ 8) && l.all (goodX names)) := rfl
        rw [e2, this, Bool.and_false]
      refine ⟨fun hz => hbad (goodX_f (by omega)), fun hz => ?_⟩
      refine Pu.use (l1In_R ..) ?_
      cases hin : inR (l.getD i default) (-names) names
      · (try simp (maxSteps := 1000000) (disch := first | assumption | (apply ν6; assumption)) only [vz, vu, vv, eqS, eF_, ↓c1_, ↓c2_, tabs, reduceCtorEq, ι5, ↓reduceIte, ν1, ν2, ν3, ν4, ν5, ι1, ι2, ι3, ι4])
        exact hbad (goodX_f (by have := inR_f hin; omega))
      · (try simp (maxSteps := 1000000) (disch := first | assumption | (apply ν6; assumption)) only [vz, vu, vv, eqS, eF_, ↓c1_, ↓c2_, tabs, reduceCtorEq, ι5, ↓reduceIte, ν1, ν2, ν3, ν4, ν5, ι1, ι2, ι3, ι4])
        rw [inR_iff] at hin
        have hx : goodX names (l.getD i default) = true := goodX_iff.2 ⟨hz, hin⟩
        refine ⟨i + 1, ⟨by omega, ?_⟩, by omega, ?_⟩
        · rw [take_all_succ hlt, ha, ← getD_lt (d := default) hlt, hx]; rfl
        · rw [wk_int, i64_id (by omega) (by omega)]; simp
    · have hi2 : i = l.length := by omega
      subst hi2
      rw [List.take_length] at ha
      have e2 : goodL names l = (decide (l.length ≤ 8) && l.all (goodX names)) := rfl
      rw [e2, ha, decide_eq_true h8]; rfl
theorem meets11_at (n : Int) (v : List Bool) (r : Nat) {H : Heap} (hr : H r = some [Bs v]) (hn : n ≠ 0) (hv : n.natAbs ≤ v.length) (hl : v.length ≤ 1000000) : PuAt Try.prog 66 [I n, .ptr r 0] H (B (litT v n)) := by
  intro K hK
  refine W66_ok ?_; simp (maxSteps := 1000000) (disch := first | assumption | (apply ν6; assumption)) only [W66, vz, vu, vv, eqS, eF_, ↓c1_, ↓c2_, tabs, reduceCtorEq, ι5, ↓reduceIte, ν1, ν2, ν3, ν4, ν5, ι1, ι2, ι3, ι4, load_at hr]
  refine Pu.use (nameOf_spec n (by omega) (by omega)) ?_
  have e : IntKind.i64.wrap ((n.natAbs : Int) - 1) = ((n.natAbs - 1 : Nat) : Int) := by rw [i64_id (by omega) (by omega)]; omega
  (try simp (maxSteps := 1000000) (disch := first | assumption | (apply ν6; assumption)) only [vz, vu, vv, eqS, eF_, ↓c1_, ↓c2_, tabs, reduceCtorEq, ι5, ↓reduceIte, ν1, ν2, ν3, ν4, ν5, ι1, ι2, ι3, ι4, load_at hr, e])
  refine ⟨by omega, by omega, ?_⟩
  exact hK
theorem meets1_at (l : List Int) (v : List Bool) (r : Nat) {H : Heap} (hr : H r = some [Bs v]) (hn : ∀ n ∈ l, n ≠ 0 ∧ n.natAbs ≤ v.length) (hl : v.length ≤ 1000000) (hl2 : l.length ≤ 1000000) : PuAt Try.prog 65 [Is l, .ptr r 0] H (B (!l.any (litT v))) := by
  intro K hK
  refine W65_ok ?_; simp (maxSteps := 1000000) (disch := first | assumption | (apply ν6; assumption)) only [W65, vz, vu, vv, eqS, eF_, ↓c1_, ↓c2_, tabs, reduceCtorEq, ι5, ↓reduceIte, ν1, ν2, ν3, ν4, ν5, ι1, ι2, ι3, ι4]
  refine PuAt.use (ContainsFunc_at l _ _ (litT v) (by omega) fun n hm => meets11_at n v r hr (hn n hm).1 (hn n hm).2 hl) ?_
  (try simp (maxSteps := 1000000) (disch := first | assumption | (apply ν6; assumption)) only [vz, vu, vv, eqS, eF_, ↓c1_, ↓c2_, tabs, reduceCtorEq, ι5, ↓reduceIte, ν1, ν2, ν3, ν4, ν5, ι1, ι2, ι3, ι4])
  exact hK
theorem goodF_lit {names : Int} {cs : List (List Int)} (h : goodF names cs = true) {l : List Int} (hm : l ∈ cs) : l.length ≤ 8 ∧ ∀ n ∈ l, n ≠ 0 ∧ -names ≤ n ∧ n ≤ names := by
  simp only [goodF, Bool.and_eq_true, inR_iff, decide_eq_true_eq] at h
  have := List.all_eq_true.1 h.2 l hm
  simp only [goodL, Bool.and_eq_true, decide_eq_true_eq] at this
  refine ⟨this.1, fun n hn => ?_⟩
  have := List.all_eq_true.1 this.2 n hn
  exact goodX_iff.1 this
theorem goodF_names {names : Int} {cs : List (List Int)} (h : goodF names cs = true) : (0 ≤ names ∧ names ≤ 400) ∧ cs.length ≤ 1400 := by
  simp only [goodF, Bool.and_eq_true, inR_iff, decide_eq_true_eq] at h
  exact h.1
theorem cnfMeets_spec (names : Int) (cs : List (List Int)) (v : List Bool) (hg : goodF names cs = true) (hv : (v.length : Int) = names) : Pu Try.prog 41 [aF names cs, Bs v] (B (meets cs v)) := by
  refine Pu.of fun H => ?_
  refine W41_ok ?_; simp (maxSteps := 1000000) (disch := first | assumption | (apply ν6; assumption)) only [W41, vz, vu, vv, eqS, eF_, ↓c1_, ↓c2_, tabs, reduceCtorEq, ι5, ↓reduceIte, ν1, ν2, ν3, ν4, ν5, ι1, ι2, ι3, ι4]
  intro r hr r' hr1 hr'
  (try simp (maxSteps := 1000000) (disch := first | assumption | (apply ν6; assumption)) only [vz, vu, vv, eqS, eF_, ↓c1_, ↓c2_, tabs, reduceCtorEq, ι5, ↓reduceIte, ν1, ν2, ν3, ν4, ν5, ι1, ι2, ι3, ι4])
  have hn := goodF_names hg
  refine PuAt.use (ContainsFuncL_at cs _ _ (fun l => !l.any (litT v)) (by omega) fun l hm => ?_) ?_
  · have hl := goodF_lit hg hm
    exact meets1_at l v r' (Heap.set_same _ _ _) (fun n hn2 => by have := hl.2 n hn2; omega) (by omega) (by omega)
  · (try simp (maxSteps := 1000000) (disch := first | assumption | (apply ν6; assumption)) only [vz, vu, vv, eqS, eF_, ↓c1_, ↓c2_, tabs, reduceCtorEq, ι5, ↓reduceIte, ν1, ν2, ν3, ν4, ν5, ι1, ι2, ι3, ι4])
    refine ⟨?_, Heap.le_setN (Heap.le_set hr) hr'⟩
    rw [meets, List.all_eq_not_any_not]
theorem Meets_spec (names : Int) (cs : List (List Int)) (v : List Bool) (hl : cs.length ≤ 1000000) (hc : ∀ l ∈ cs, l.length ≤ 1000000) (hv : v.length ≤ 1000000) :
    Pu Try.prog 18 [aF names cs, Bs v] (.tup [B (goodF names cs && decide ((v.length : Int) = names) && meets cs v), B (goodF names cs && decide ((v.length : Int) = names))]) := by
  refine Pu.of fun H => ?_
  refine W18_ok ?_; simp (maxSteps := 1000000) (disch := first | assumption | (apply ν6; assumption)) only [W18, vz, vu, vv, eqS, eF_, ↓c1_, ↓c2_, tabs, reduceCtorEq, ι5, ↓reduceIte, ν1, ν2, ν3, ν4, ν5, ι1, ι2, ι3, ι4]
  intro r hr
  (try simp (maxSteps := 1000000) (disch := first | assumption | (apply ν6; assumption)) only [vz, vu, vv, eqS, eF_, ↓c1_, ↓c2_, tabs, reduceCtorEq, ι5, ↓reduceIte, ν1, ν2, ν3, ν4, ν5, ι1, ι2, ι3, ι4])
  have hle : Heap.le H (H.set r [I names, Ls cs]) := Heap.le_set hr
  refine Pu.use (GoodCnf_impl names cs hl hc) ?_
  cases hg : goodF names cs
  · (try simp (maxSteps := 1000000) (disch := first | assumption | (apply ν6; assumption)) only [vz, vu, vv, eqS, eF_, ↓c1_, ↓c2_, tabs, reduceCtorEq, ι5, ↓reduceIte, ν1, ν2, ν3, ν4, ν5, ι1, ι2, ι3, ι4])
    exact hle
  · (try simp (maxSteps := 1000000) (disch := first | assumption | (apply ν6; assumption)) only [vz, vu, vv, eqS, eF_, ↓c1_, ↓c2_, tabs, reduceCtorEq, ι5, ↓reduceIte, ν1, ν2, ν3, ν4, ν5, ι1, ι2, ι3, ι4])
    refine ⟨fun h => ?_, fun h => ?_⟩
    · refine ⟨?_, hle⟩
      have : ¬ (v.length : Int) = names := by omega
      simp only [this, decide_false, Bool.and_false, Bool.false_and]
    · refine Pu.use (cnfMeets_spec names cs v hg (by omega)) ?_
      (try simp (maxSteps := 1000000) (disch := first | assumption | (apply ν6; assumption)) only [vz, vu, vv, eqS, eF_, ↓c1_, ↓c2_, tabs, reduceCtorEq, ι5, ↓reduceIte, ν1, ν2, ν3, ν4, ν5, ι1, ι2, ι3, ι4])
      refine ⟨?_, hle⟩
      have : (v.length : Int) = names := by omega
      simp only [this, decide_true, Bool.and_true, Bool.true_and]
end Go.Proofs.Ytginibofnkiofaa
/-
  DERIVED: THE SHELF's CONTRACTS AT THIS DUMP, IN PLAIN WORDS (tools/lay-plain.mjs out of 'YtginibofnkiofaaLayL.lean', which tools/lay-shelf.mjs wrote): THE SAME DECLARATIONS UNDER THE SAME NAMES: 'import', 'namespace', 'open', 'def', 'theorem' AND NOTHING ELSE: no command of the shelf's: FOR A HAND-IN. Each laying: the table of numbers ('.._ren') and one theorem, a field a fact of the dump's own or the kernel's comparison; each contract: ONE APPLICATION.
-/
namespace Go.Proofs
open Go.Shelf
def Try.laySL_ren : Go.Shelf.Ren := ⟨fun | 6 => 36 | 15 => 59 | 14 => 58 | 28 => 84 | 29 => 85 | 20 => 76 | 21 => 77 | 22 => 78 | 23 => 79 | 24 => 80 | 25 => 81 | 26 => 82 | 27 => 83 | 46 => 88 | 47 => 89 | 48 => 90 | 49 => 91 | 50 => 92 | 57 => 93 | n => n, fun | 22 => 28 | 24 => 3 | 25 => 60 | 3 => 3 | 39 => 41 | 0 => 0 | 53 => 83 | 55 => 50 | 4 => 4 | 46 => 96 | 45 => 95 | 50 => 100 | 5 => 5 | 9 => 9 | 66 => 105 | 70 => 109 | 76 => 111 | 77 => 112 | n => n, fun | n => n⟩
theorem Try.laySL : Go.Proofs.SlLaysF.n6 Try.prog Try.laySL_ren := {
  mixed := by kernel_rfl
  f6 := ⟨Try.f36.name, by decide, Try.func36.trans (congrArg some (by kernel_rfl))⟩
  f14 := ⟨Try.f58.name, by decide, Try.func58.trans (congrArg some (by kernel_rfl))⟩
  f15 := Try.func59.trans (congrArg some (by kernel_rfl))
  f20 := ⟨Try.f76.name, by decide, Try.func76.trans (congrArg some (by kernel_rfl))⟩
  f21 := ⟨Try.f77.name, by decide, Try.func77.trans (congrArg some (by kernel_rfl))⟩
  f22 := ⟨Try.f78.name, by decide, Try.func78.trans (congrArg some (by kernel_rfl))⟩
  f23 := ⟨Try.f79.name, by decide, Try.func79.trans (congrArg some (by kernel_rfl))⟩
  f24 := ⟨Try.f80.name, by decide, Try.func80.trans (congrArg some (by kernel_rfl))⟩
  f25 := ⟨Try.f81.name, by decide, Try.func81.trans (congrArg some (by kernel_rfl))⟩
  f26 := ⟨Try.f82.name, by decide, Try.func82.trans (congrArg some (by kernel_rfl))⟩
  f27 := ⟨Try.f83.name, by decide, Try.func83.trans (congrArg some (by kernel_rfl))⟩
  f28 := Try.func84.trans (congrArg some (by kernel_rfl))
  f29 := Try.func85.trans (congrArg some (by kernel_rfl))
  f46 := ⟨Try.f88.name, by decide, Try.func88.trans (congrArg some (by kernel_rfl))⟩
  f47 := Try.func89.trans (congrArg some (by kernel_rfl))
  f48 := Try.func90.trans (congrArg some (by kernel_rfl))
  f49 := ⟨Try.f91.name, by decide, Try.func91.trans (congrArg some (by kernel_rfl))⟩
  f50 := ⟨Try.f92.name, by decide, Try.func92.trans (congrArg some (by kernel_rfl))⟩
  f57 := ⟨Try.f93.name, by decide, Try.func93.trans (congrArg some (by kernel_rfl))⟩
  t0 := Try.underlying0
  a0 := Try.isAgg0
  z0 := Try.sizeOf0
  v0 := Try.zeroValue0
  t3 := Try.underlying3
  a3 := Try.isAgg3
  z3 := Try.sizeOf3
  v3 := Try.zeroValue3
  t4 := Try.underlying4
  a4 := Try.isAgg4
  z4 := Try.sizeOf4
  v4 := Try.zeroValue4
  t5 := Try.underlying5
  a5 := Try.isAgg5
  z5 := Try.sizeOf5
  v5 := Try.zeroValue5
  t9 := Try.underlying9
  a9 := Try.isAgg9
  z9 := Try.sizeOf9
  v9 := Try.zeroValue9
  t22 := Try.underlying28
  a22 := Try.isAgg28
  z22 := Try.sizeOf28
  v22 := Try.zeroValue28
  a24 := Try.isAgg3
  z24 := Try.sizeOf3
  t25 := Try.underlying60
  a25 := Try.isAgg60
  z25 := Try.sizeOf60
  v25 := Try.zeroValue60
  t39 := Try.underlying41
  a39 := Try.isAgg41
  z39 := Try.sizeOf41
  v39 := Try.zeroValue41
  t45 := Try.underlying95
  a45 := Try.isAgg95
  z45 := Try.sizeOf95
  v45 := Try.zeroValue95
  t46 := Try.underlying96
  a46 := Try.isAgg96
  z46 := Try.sizeOf96
  v46 := Try.zeroValue96
  t50 := Try.underlying100
  a50 := Try.isAgg100
  z50 := Try.sizeOf100
  v50 := Try.zeroValue100
  t53 := Try.underlying83
  a53 := Try.isAgg83
  z53 := Try.sizeOf83
  v53 := Try.zeroValue83
  t55 := Try.underlying50
  a55 := Try.isAgg50
  z55 := Try.sizeOf50
  v55 := Try.zeroValue50
  t66 := Try.underlying105
  a66 := Try.isAgg105
  z66 := Try.sizeOf105
  v66 := Try.zeroValue105
  t70 := Try.underlying109
  a70 := Try.isAgg109
  z70 := Try.sizeOf109
  v70 := Try.zeroValue109
  t76 := Try.underlying111
  a76 := Try.isAgg111
  z76 := Try.sizeOf111
  v76 := Try.zeroValue111
  t77 := Try.underlying112
  a77 := Try.isAgg112
  z77 := Try.sizeOf112
  v77 := Try.zeroValue112 }
def Try.laySL0_ren : Go.Shelf.Ren := ⟨fun | 6 => 36 | 15 => 59 | 14 => 58 | 28 => 84 | 29 => 85 | 20 => 76 | 21 => 77 | 22 => 78 | 23 => 79 | 24 => 80 | 25 => 81 | 26 => 82 | 27 => 83 | 46 => 88 | 47 => 89 | 48 => 90 | 49 => 91 | 50 => 92 | 57 => 93 | n => n, fun | 22 => 28 | 24 => 3 | 25 => 60 | 3 => 3 | 39 => 41 | 0 => 0 | 53 => 83 | 55 => 50 | 4 => 4 | 46 => 96 | 45 => 95 | 50 => 100 | 5 => 5 | 9 => 9 | 66 => 105 | 70 => 109 | 76 => 111 | 77 => 112 | n => n, fun | n => n⟩
theorem Try.laySL0 : Go.Proofs.SlLaysF0.n6 Try.prog Try.laySL0_ren := {
  mixed := by kernel_rfl
  f6 := ⟨Try.f36.name, by decide, Try.func36.trans (congrArg some (by kernel_rfl))⟩
  f14 := ⟨Try.f58.name, by decide, Try.func58.trans (congrArg some (by kernel_rfl))⟩
  f15 := Try.func59.trans (congrArg some (by kernel_rfl))
  f20 := ⟨Try.f76.name, by decide, Try.func76.trans (congrArg some (by kernel_rfl))⟩
  f21 := ⟨Try.f77.name, by decide, Try.func77.trans (congrArg some (by kernel_rfl))⟩
  f22 := ⟨Try.f78.name, by decide, Try.func78.trans (congrArg some (by kernel_rfl))⟩
  f23 := ⟨Try.f79.name, by decide, Try.func79.trans (congrArg some (by kernel_rfl))⟩
  f24 := ⟨Try.f80.name, by decide, Try.func80.trans (congrArg some (by kernel_rfl))⟩
  f25 := ⟨Try.f81.name, by decide, Try.func81.trans (congrArg some (by kernel_rfl))⟩
  f26 := ⟨Try.f82.name, by decide, Try.func82.trans (congrArg some (by kernel_rfl))⟩
  f27 := ⟨Try.f83.name, by decide, Try.func83.trans (congrArg some (by kernel_rfl))⟩
  f28 := Try.func84.trans (congrArg some (by kernel_rfl))
  f29 := Try.func85.trans (congrArg some (by kernel_rfl))
  f46 := ⟨Try.f88.name, by decide, Try.func88.trans (congrArg some (by kernel_rfl))⟩
  f47 := Try.func89.trans (congrArg some (by kernel_rfl))
  f48 := Try.func90.trans (congrArg some (by kernel_rfl))
  f49 := ⟨Try.f91.name, by decide, Try.func91.trans (congrArg some (by kernel_rfl))⟩
  f50 := ⟨Try.f92.name, by decide, Try.func92.trans (congrArg some (by kernel_rfl))⟩
  f57 := ⟨Try.f93.name, by decide, Try.func93.trans (congrArg some (by kernel_rfl))⟩
  t0 := Try.underlying0
  a0 := Try.isAgg0
  z0 := Try.sizeOf0
  v0 := Try.zeroValue0
  t3 := Try.underlying3
  a3 := Try.isAgg3
  z3 := Try.sizeOf3
  v3 := Try.zeroValue3
  t4 := Try.underlying4
  a4 := Try.isAgg4
  z4 := Try.sizeOf4
  v4 := Try.zeroValue4
  t5 := Try.underlying5
  a5 := Try.isAgg5
  z5 := Try.sizeOf5
  v5 := Try.zeroValue5
  t9 := Try.underlying9
  a9 := Try.isAgg9
  z9 := Try.sizeOf9
  v9 := Try.zeroValue9
  t22 := Try.underlying28
  a22 := Try.isAgg28
  z22 := Try.sizeOf28
  v22 := Try.zeroValue28
  t25 := Try.underlying60
  a25 := Try.isAgg60
  z25 := Try.sizeOf60
  v25 := Try.zeroValue60
  t39 := Try.underlying41
  a39 := Try.isAgg41
  z39 := Try.sizeOf41
  v39 := Try.zeroValue41
  t45 := Try.underlying95
  a45 := Try.isAgg95
  z45 := Try.sizeOf95
  v45 := Try.zeroValue95
  t46 := Try.underlying96
  a46 := Try.isAgg96
  z46 := Try.sizeOf96
  v46 := Try.zeroValue96
  t50 := Try.underlying100
  a50 := Try.isAgg100
  z50 := Try.sizeOf100
  v50 := Try.zeroValue100
  t53 := Try.underlying83
  a53 := Try.isAgg83
  z53 := Try.sizeOf83
  v53 := Try.zeroValue83
  t55 := Try.underlying50
  a55 := Try.isAgg50
  z55 := Try.sizeOf50
  v55 := Try.zeroValue50
  t66 := Try.underlying105
  a66 := Try.isAgg105
  z66 := Try.sizeOf105
  v66 := Try.zeroValue105
  t70 := Try.underlying109
  a70 := Try.isAgg109
  z70 := Try.sizeOf109
  v70 := Try.zeroValue109
  t76 := Try.underlying111
  a76 := Try.isAgg111
  z76 := Try.sizeOf111
  v76 := Try.zeroValue111
  t77 := Try.underlying112
  a77 := Try.isAgg112
  z77 := Try.sizeOf112
  v77 := Try.zeroValue112 }
end Go.Proofs
namespace Go.Proofs.Ytginibofnkiofaa
open Go Go.Sep Go.Pt Go.RowKit Go.Sort
attribute [local irreducible] CallT
def ltL (x y : Int) : Bool := if x.natAbs = y.natAbs then decide (x < y) else decide (x.natAbs < y.natAbs)
def cfL (x y : Int) : Int := if ltL x y then -1 else if ltL y x then 1 else 0
theorem cfL_lt (x y : Int) : ltOf cfL x y = ltL x y := by
  unfold ltOf cfL
  by_cases h1 : ltL x y
  · simp [h1]
  · by_cases h2 : ltL y x <;> simp [h1, h2]
theorem ltL_iff (x y : Int) : ltL x y = true ↔ (x.natAbs < y.natAbs ∨ x.natAbs = y.natAbs ∧ x < y) := by
  unfold ltL
  split
  · simp; omega
  · simp; omega
theorem ltL_iff' (x y : Int) : ltL x y = false ↔ ¬ (x.natAbs < y.natAbs ∨ x.natAbs = y.natAbs ∧ x < y) := by
  rw [← ltL_iff]; simp
theorem cfL_swo : SWO (ltOf cfL) where
  irrefl x := by rw [cfL_lt, ltL_iff']; omega
  trans x y z h1 h2 := by rw [cfL_lt, ltL_iff] at *; omega
  ntrans x y z h1 h2 := by rw [cfL_lt, ltL_iff'] at *; omega
theorem cfL_tot (x y : Int) (h1 : ltOf cfL x y = false) (h2 : ltOf cfL y x = false) : x = y := by
  rw [cfL_lt, ltL_iff'] at *
  omega
def srtL (xs : List Int) : List Int := xs.mergeSort fun x y => !ltL y x
theorem srtL_len (xs : List Int) : (srtL xs).length = xs.length := List.length_mergeSort ..
theorem Or2_spec (a b : Int) : Pu Try.prog 60 [Is [a, b]] (I (if a ≠ 0 then a else b)) := by
  refine Pu.of fun H => ?_
  refine W60_ok ?_; simp (maxSteps := 1000000) (disch := first | assumption | (apply ν6; assumption)) only [W60, vz, vu, vv, eqS, eF_, ↓c1_, ↓c2_, tabs, reduceCtorEq, ι5, ↓reduceIte, ν1, ν2, ν3, ν4, ν5, ι1, ι2, ι3, ι4]
  refine L60_0_rule (0 : Nat) (fun i => I i) (fun _ => H) (fun i => i ≤ 2 ∧ ∀ j, j < i → [a, b].getD j 0 = 0) (fun i => 2 - i) ⟨⟨by omega, by intros; omega⟩, .refl _, Heap.le_refl _⟩ ?_
  rintro i ⟨hi, ha⟩
  (try simp (maxSteps := 1000000) (disch := first | assumption | (apply ν6; assumption)) only [vz, vu, vv, eqS, eF_, ↓c1_, ↓c2_, tabs, reduceCtorEq, ι5, ↓reduceIte, ν1, ν2, ν3, ν4, ν5, ι1, ι2, ι3, ι4, B60_0])
  have e3 : ∀ j, [a, b].getD j default = [a, b].getD j 0 := fun _ => rfl
  rw [e3]
  refine ⟨fun h1 => ⟨by omega, h1, fun h2 => ?_, fun h2 => ⟨i + 1, ⟨by omega, fun j hj => ?_⟩, by omega, ?_⟩⟩, fun h1 => ?_⟩
  · refine congrArg (fun n : Int => I n) ?_
    have a0 := ha 0
    obtain rfl | rfl : i = 0 ∨ i = 1 := by omega
    · rw [if_pos (by simpa using h2)]; rfl
    · rw [if_neg (by simpa using a0 (by omega))]; rfl
  · rcases Nat.lt_succ_iff_lt_or_eq.1 hj with h | rfl
    · exact ha j h
    · exact h2
  · rw [wk_int, i64_id (by omega) (by omega)]; simp
  · have a0 := ha 0 (by omega)
    have a1 := ha 1 (by omega)
    rw [if_neg (by simpa using a0)]
    exact congrArg (fun n : Int => I n) a1.symm
theorem compareLiterals_spec (a b : Int) (ha : -1000000000 ≤ a ∧ a ≤ 1000000000) (hb : -1000000000 ≤ b ∧ b ≤ 1000000000) : Pu Try.prog 37 [I a, I b] (I (cfL a b)) := by
  refine Pu.of fun H => ?_
  refine W37_ok ?_; simp (maxSteps := 1000000) (disch := first | assumption | (apply ν6; assumption)) only [W37, vz, vu, vv, eqS, eF_, ↓c1_, ↓c2_, tabs, reduceCtorEq, ι5, ↓reduceIte, ν1, ν2, ν3, ν4, ν5, ι1, ι2, ι3, ι4]
  refine Pu.use (nameOf_spec a (by omega) (by omega)) ?_
  (try simp (maxSteps := 1000000) (disch := first | assumption | (apply ν6; assumption)) only [vz, vu, vv, eqS, eF_, ↓c1_, ↓c2_, tabs, reduceCtorEq, ι5, ↓reduceIte, ν1, ν2, ν3, ν4, ν5, ι1, ι2, ι3, ι4])
  refine Pu.use (nameOf_spec b (by omega) (by omega)) ?_
  (try simp (maxSteps := 1000000) (disch := first | assumption | (apply ν6; assumption)) only [vz, vu, vv, eqS, eF_, ↓c1_, ↓c2_, tabs, reduceCtorEq, ι5, ↓reduceIte, ν1, ν2, ν3, ν4, ν5, ι1, ι2, ι3, ι4])
  refine Pu.use (Compare_spec _ _) ?_
  (try simp (maxSteps := 1000000) (disch := first | assumption | (apply ν6; assumption)) only [vz, vu, vv, eqS, eF_, ↓c1_, ↓c2_, tabs, reduceCtorEq, ι5, ↓reduceIte, ν1, ν2, ν3, ν4, ν5, ι1, ι2, ι3, ι4])
  refine Pu.use (Compare_spec a b) ?_
  refine lit2 tab_28 rfl tab_3 ⟨rfl, rfl⟩ ?_
  refine Pu.use (Or2_spec _ _) ?_
  refine ⟨?_, Heap.le_refl _⟩
  refine congrArg (fun n : Int => I n) ?_
  have e1 := ltL_iff a b
  have e2 := ltL_iff b a
  unfold cfL
  by_cases h1 : ltL a b = true
  · rw [if_pos h1]
    rcases e1.1 h1 with h | ⟨h, h'⟩
    · have : (a.natAbs : Int) < b.natAbs := by omega
      simp [this]
    · have : (a.natAbs : Int) = b.natAbs := by omega
      simp [this, h']
  · rw [if_neg h1]
    have n1 : ¬ (a.natAbs < b.natAbs ∨ a.natAbs = b.natAbs ∧ a < b) := fun h => h1 (e1.2 h)
    by_cases h2 : ltL b a = true
    · rw [if_pos h2]
      rcases e2.1 h2 with h | ⟨h, h'⟩
      · have k1 : ¬ (a.natAbs : Int) < b.natAbs := by omega
        have k2 : ¬ (a.natAbs : Int) = b.natAbs := by omega
        simp only [if_neg k1, if_neg k2]; rfl
      · have k1 : (a.natAbs : Int) = b.natAbs := by omega
        have k3 : ¬ a < b := by omega
        have k4 : ¬ a = b := by omega
        simp [k1, k3, k4]
    · rw [if_neg h2]
      have n2 : ¬ (b.natAbs < a.natAbs ∨ b.natAbs = a.natAbs ∧ b < a) := fun h => h2 (e2.2 h)
      have k1 : a = b := by omega
      subst k1; simp
abbrev Lt := { x : Int // -1000 ≤ x ∧ x ≤ 1000 }
instance : Inhabited Lt := ⟨⟨0, by omega⟩⟩
def encL (x : Lt) : Value := .int .i64 x.val
theorem SFI_hb : HasBody Try.prog 36 := ⟨_, bodyOf Try.f36, Try.func36, by kernel_rfl, rfl⟩
theorem cl_enters : ∀ args w, (callFunc 37 args).run Try.prog w = .ok (.enter 37 args) w := Go.Proofs.enters_of Try.func37 (by kernel_rfl) rfl
theorem cl_lays (blk off size : Nat) (w : World) : CmpLays1 Try.prog 37 #[] encL (fun x y => cfL x.val y.val) blk off size w := by
  intro m os dk _ x y
  refine CallT.quiet (args := [I x.val, I y.val]) (v := I (cfL x.val y.val)) (((compareLiterals_spec x.val y.val (by have := x.2; omega) (by have := y.2; omega)).all _).mono fun _ _ h => h.1) (fun Z φ => ⟨rfl, ?_⟩) ?_ _
  · intro i av x' h1 h2
    match i, h1, h2 with
    | 0, h1, h2 => cases h1; cases h2; exact .p (.int _ _)
    | 1, h1, h2 => cases h1; cases h2; exact .p (.int _ _)
    | i + 2, h1, h2 => cases h1
  · intro Z φ y' h
    cases h with
    | p h => cases h; rfl
theorem holds_lits {w : World} {b o : Nat} {zs : List Lt} (h : Holds (Value.int .i64) w b o (zs.map (·.val)).toArray) : Holds encL w b o zs.toArray := by
  intro j hj
  have hj' : j < zs.length := by simpa using hj
  have := h j (by simpa using hj')
  simpa [hj', encL] using this
theorem putRow_lits (w : World) (b o : Nat) (zs : List Lt) : putRow encL w b o zs.toArray = putRow (Value.int .i64) w b o (zs.map (·.val)).toArray := by
  unfold putRow
  congr 1
  funext c
  unfold putCells
  apply Array.ext_getElem?
  intro k
  simp only [Array.getElem?_mapIdx]
  cases c[k]? with
  | none => rfl
  | some v =>
    simp only [Option.map_some, List.size_toArray, List.length_map]
    congr 1
    by_cases hk : o ≤ k ∧ k < o + zs.length
    · rw [if_pos hk, if_pos hk]
      have : k - o < zs.length := by omega
      simp [this, encL]
    · rw [if_neg hk, if_neg hk]
theorem SFI_row {H : Heap} {q : Nat} {xs : List Int} {K : AV → Heap → Prop} (hq : H q = some (cP fI xs)) (hl : xs.length ≤ 1000000000) (hx : ∀ x ∈ xs, -1000 ≤ x ∧ x ≤ 1000) (h : K (.tup []) (H.set q (cP fI (srtL xs)))) :
    CallT Try.prog 36 [rowP q xs, .fn 37 []] H K := by
  obtain ⟨zs, rfl⟩ : ∃ zs : List Lt, zs.map (·.val) = xs := ⟨xs.attach.map fun x => ⟨x.1, hx x.1 x.2⟩, by simp⟩
  unfold CallT
  refine ⟨SFI_hb, ?_⟩
  intro B0 w0 F Z φ w ys hd hs ha
  obtain ⟨hsz, hrel⟩ := ha
  obtain ⟨x, y, rfl⟩ : ∃ x y, ys = #[x, y] := by
    have h1 : ys.size = 2 := hsz
    refine ⟨ys[0], ys[1], Array.ext (by simp [h1]) fun i hi1 hi2 => ?_⟩
    have : i = 0 ∨ i = 1 := by simp at hi2; omega
    rcases this with rfl | rfl <;> rfl
  have hx' := hrel 0 (rowP q (zs.map (·.val))) x rfl rfl
  have hy := hrel 1 (.fn 37 []) y rfl rfl
  have ey : y = .func (.func 37) #[] #[] := by
    cases hy with
    | fn _ _ xs hs h =>
      have : xs = #[] := by apply Array.eq_empty_of_size_eq_zero; exact hs
      rw [this]
  subst ey
  have hq' : (H.or F) q = some ((zs.map (·.val)).map fun n => AV.p (.int .i64 n)) := Heap.or_left hq
  have hFq : F q = none := hd q (by rw [hq]; simp)
  have empty : zs = [] → ∀ a c, x = .slice a 0 c → Calls Try.prog 36 #[x, .func (.func 37) #[] #[]] w (fun e w' => ∃ x, e = .returned x ∧ UpV B0 w0 F Z φ K x w') := by
    rintro rfl a c rfl
    refine (AnyF.slices_SortFunc_none Try.laySL0 a c _ w).mono ?_
    rintro e w' ⟨rfl, rfl⟩
    have hset : H.set q (cP fI (srtL ((List.map (·.val) ([] : List Lt))))) = H := by
      funext y
      by_cases e : y = q
      · subst e; rw [Heap.set_same, show srtL (List.map (·.val) ([] : List Lt)) = [] from List.eq_nil_of_length_eq_zero (srtL_len _)]; exact hq.symm
      · rw [Heap.set_other e]
    rw [hset] at h
    exact ⟨_, rfl, .tup [], H, Z, φ, h, Fro.le_refl _, Pm.le_refl _, hd, hs, .tup [] #[] rfl (fun i av x h => by simp at h)⟩
  unfold rowP at hx'
  generalize hm : (zs.map (·.val)).length = m at hx'
  rw [List.length_map] at hm
  cases hx' with
  | slz _ _ _ a => exact empty (List.eq_nil_of_length_eq_zero hm) a 0 rfl
  | sl hp hl' hC =>
    rename_i c pl
    subst hm
    by_cases h0 : zs.length = 0
    · exact empty (List.eq_nil_of_length_eq_zero h0) _ _ (by rw [h0])
    have hh := hs.holdsInts hq' (by rw [List.length_map]; omega) hp
    have hcon := Any.slices_SortFunc_total Try.laySL encL (fun x => rfl) (fun x y => cfL x.val y.val) ⟨fun x => cfL_swo.irrefl _, fun x y z => cfL_swo.trans _ _ _, fun x y z => cfL_swo.ntrans _ _ _⟩ 37 #[] pl.b pl.o c zs.toArray w cl_enters (cl_lays _ _ _ _) (holds_lits hh.1) hh.2 (by rw [List.length_map] at hl; simp; omega) (fun x y h1 h2 => Subtype.ext (cfL_tot _ _ h1 h2))
    rw [List.size_toArray] at hcon
    refine hcon.mono ?_
    rintro e w' ⟨rfl, n, os, rfl⟩
    have e1 : (zs.toArray.toList.mergeSort fun x y => !(ltOf fun x y : Lt => cfL x.val y.val) y x).map (·.val) = srtL (zs.map (·.val)) := by
      unfold srtL
      rw [List.map_mergeSort]
      intro a _ b _
      have := cfL_lt b.val a.val
      unfold ltOf at this ⊢
      rw [this]
    have e2 : ∀ zs' : List Lt, sortWorld encL w pl.b pl.o n zs'.toArray os = Go.Sort.grow (putRow (Value.int .i64) (Go.Sort.ahead w n) pl.b pl.o (zs'.map (·.val)).toArray) os := by
      intro zs'
      unfold sortWorld
      rw [putRow_lits]
    rw [e2, e1]
    have s2 := hs.putInts (zs' := srtL (zs.map (·.val))) hq' (srtL_len _) (by rw [List.length_map]; omega) hp n os
    refine ⟨_, rfl, .tup [], _, Z, φ, h, Fro.le_refl _, Pm.le_refl _, hd.set hFq, ?_, .tup [] #[] rfl (fun i av x h => by simp at h)⟩
    rw [Heap.or_set]; exact s2
end Go.Proofs.Ytginibofnkiofaa
/-
  DERIVED: THE SHELF's CONTRACTS AT THIS DUMP, IN PLAIN WORDS (tools/lay-plain.mjs out of 'YtginibofnkiofaaLay.lean', which tools/lay-shelf.mjs wrote): THE SAME DECLARATIONS UNDER THE SAME NAMES: 'import', 'namespace', 'open', 'def', 'theorem' AND NOTHING ELSE: no command of the shelf's: FOR A HAND-IN. Each laying: the table of numbers ('.._ren') and one theorem, a field a fact of the dump's own or the kernel's comparison; each contract: ONE APPLICATION.
-/
namespace Go.Proofs
open Go.Shelf
def Try.layCompact_ren : Go.Shelf.Ren := ⟨fun | 43 => 38 | n => n, fun | 22 => 28 | 23 => 3 | 3 => 3 | 4 => 4 | 0 => 0 | n => n, fun | n => n⟩
theorem Try.layCompact : Go.Proofs.SlLaysN.n43 Try.prog Try.layCompact_ren := {
  mixed := by kernel_rfl
  f43 := ⟨Try.f38.name, by decide, Try.func38.trans (congrArg some (by kernel_rfl))⟩
  t0 := Try.underlying0
  a0 := Try.isAgg0
  z0 := Try.sizeOf0
  v0 := Try.zeroValue0
  t3 := Try.underlying3
  a3 := Try.isAgg3
  z3 := Try.sizeOf3
  v3 := Try.zeroValue3
  t4 := Try.underlying4
  a4 := Try.isAgg4
  z4 := Try.sizeOf4
  v4 := Try.zeroValue4
  t22 := Try.underlying28
  a22 := Try.isAgg28
  z22 := Try.sizeOf28
  v22 := Try.zeroValue28
  t23 := Try.underlying3
  a23 := Try.isAgg3
  z23 := Try.sizeOf3
  v23 := Try.zeroValue3
  i23 := by kernel_rfl }
end Go.Proofs
namespace Go.Pt
theorem keeps_iff (ys : List Int) (j : Nat) (hj : j < ys.length) : Lib.keeps ys.toArray j = true ↔ j = 0 ∨ ys[j - 1]'(by omega) ≠ ys[j] := by
  unfold Lib.keeps
  by_cases h0 : j = 0
  · simp [h0]
  · have h1 : j - 1 < ys.length := by omega
    simp [h0, hj, h1]
    omega
theorem compact_len (ys : List Int) : (Lib.compact ys).length ≤ ys.length := by
  unfold Lib.compact Lib.compactUpTo
  rw [List.length_map]
  exact Nat.le_trans (List.length_filter_le _ _) (by simp)
def put (l : List Int) (n : Int) : List Int := if n ∈ l then l else l.takeWhile (· < n) ++ n :: l.dropWhile (· < n)
end Go.Pt
namespace Go.Proofs.Ytginibofnkiofaa
open Go Go.Sep Go.Pt Go.RowKit
theorem Compact_hb : HasBody Try.prog 38 := ⟨_, bodyOf Try.f38, Try.func38, by kernel_rfl, rfl⟩
theorem Compact_row {H : Heap} {q : Nat} {zs : List Int} {K : AV → Heap → Prop} (hq : H q = some (zs.map fun n => AV.p (.int .i64 n))) (hl : zs.length ≤ 1000000000) (h : K (.sl q 1 0 (Lib.compact zs).length) (H.set q ((Lib.compact zs).map fun n => AV.p (.int .i64 n)))) : CallT Try.prog 38 [.sl q 1 0 zs.length] H K := by
  refine CallT.fin ?_
  refine CallT.inPlaceC Compact_hb hq (Lib.compact zs) (List.replicate (zs.length - (Lib.compact zs).length) 0) (by have := compact_len zs; rw [List.length_append, List.length_replicate]; omega) (fun blk off cap w hc hH hb => AnyG.slices_Compact_int Try.layCompact blk off cap zs w hH (by omega) hc) (fun _ p cap w => AnyG.slices_Compact_int_empty Try.layCompact p cap w) ?_
  refine ⟨_, _, .cell (cs' := (Lib.compact zs).map fun n => AV.p (.int .i64 n)) (Heap.set_same _ _ _) (by rw [List.map_append, List.length_append]; omega) (fun i a a' h1 h2 => ?_), ?_⟩
  · rw [List.map_append, List.getElem?_append_left (List.getElem?_eq_some_iff.1 h2).1, h2] at h1
    cases h1; exact .refl _
  · rw [Heap.set_set]; exact h
end Go.Proofs.Ytginibofnkiofaa
