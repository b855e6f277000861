/- Sep, part 26: rows that are filled one element after the other. -/
import Derived.Test.YthlbkcgnacemgaaSep23
namespace Go.Sep
open Go Go.RowKit

/-- A row of which the first i elements are told, the rest are zero. -/
def prow (es : List (List PV)) (i : Nat) (z : List AV) : List AV := cells (es.take i) ++ zerosA (es.length - i) z
theorem Sized.take {sz : Nat} {es : List (List PV)} (h : Sized sz es) (i : Nat) : Sized sz (es.take i) := fun e he => h e (List.mem_of_mem_take he)
theorem Sized.drop {sz : Nat} {es : List (List PV)} (h : Sized sz es) (i : Nat) : Sized sz (es.drop i) := fun e he => h e (List.mem_of_mem_drop he)
theorem prow_zero (es : List (List PV)) (z : List AV) : prow es 0 z = zerosA es.length z := by simp [prow, cells]
theorem prow_full (es : List (List PV)) (z : List AV) : prow es es.length z = cells es := by simp [prow, zerosA]
theorem prow_len {sz : Nat} {es : List (List PV)} (h : Sized sz es) {i : Nat} (hi : i ≤ es.length) {z : List AV} (hz : z.length = sz) : (prow es i z).length = es.length * sz := by
  rw [prow, List.length_append, cells_len (h.take i), zerosA_len, hz, List.length_take, Nat.min_eq_left hi, ← Nat.add_mul]
  congr 1; omega
theorem prow_step {sz : Nat} {es : List (List PV)} (h : Sized sz es) {i : Nat} (hi : i < es.length) {z : List AV} (hz : z.length = sz) :
    splice (prow es i z) (i * sz) ((es.getD i []).map .p) = prow es (i + 1) z := by
  have hg : es.getD i [] = es[i] := by simp [List.getD, hi]
  have hc : (cells (es.take i)).length = i * sz := by rw [cells_len (h.take i), List.length_take, Nat.min_eq_left (by omega)]
  have he : ((es.getD i []).map AV.p).length = sz := by rw [hg, List.length_map]; exact h _ (List.getElem_mem hi)
  have hzs : zerosA (es.length - i) z = z ++ zerosA (es.length - (i + 1)) z := by
    have : es.length - i = (es.length - (i + 1)) + 1 := by omega
    rw [this]; simp [zerosA, List.replicate_succ]
  unfold splice prow
  rw [he, hzs, List.take_left' hc, ← List.append_assoc (cells _) z, List.drop_left' (by rw [List.length_append, hc, hz])]
  rw [List.take_succ_eq_append_getElem hi, cells_app, hg]
  simp [cells]

theorem prow_drop {sz : Nat} {es : List (List PV)} (h : Sized sz es) : ((cells es).drop 0).take (es.length * sz) = cells es := cells_take h

/-- A function of values alone, which makes a row and hands it over. -/
theorem Pu.of_own {P : Program} {f : Nat} {args : List AV} {sz : Nat} {es : List (List PV)} (hpos : 0 < sz) (hs : Sized sz es)
    (h : ∀ H, CallT P f args H (fun v H' => ∃ r, v = own r sz es ∧ H' r = some (cells es) ∧ H r = none ∧ Heap.le H H')) : Pu P f args (.p (.sl es)) := by
  refine ⟨fun H => ?_⟩
  refine (h H).wk ?_
  rintro v H' ⟨r, rfl, h1, h2, h3⟩
  exact ⟨_, H, .trans (.own hpos hs h1) (.forget (Heap.le_del h3 h2)), rfl, rfl⟩

theorem CallT.of_x' {P : Program} {tab : Tab} (hT : tab.Ok P) {f : Nat} {fn : Func} (hf : P.funcs[f]? = some fn) {x : XC} (hx : (fn.body.map compile) = some x) (hn : (fn.name == "runtime.NumGoroutine") = false)
    {nt : Nat} (hnt : fn.ntmps = nt) {rs : Array ResultVar} (hrs : fn.results = rs) {args : List AV} {Q : AV → Heap → Prop} {H : Heap}
    (h : CX P x (retQ tab rs.toList Q) (args ++ List.replicate (nt - args.length) .any) H) : CallT P f args H Q := CallT.of_x hT hf hx hn hnt hrs h

theorem fresh2 {A B C : Nat → Prop} (h : ∀ r, A r → B r → C r) : ∀ r, (A r ∧ B r) → C r := fun r ⟨a, b⟩ => h r a b
theorem fresh3 {A B D C : Nat → Prop} (h : ∀ r, A r → B r → D r → C r) : ∀ r, (A r ∧ B r ∧ D r) → C r := fun r ⟨a, b, d⟩ => h r a b d
theorem fresh4 {A B D E C : Nat → Prop} (h : ∀ r, A r → B r → D r → E r → C r) : ∀ r, (A r ∧ B r ∧ D r ∧ E r) → C r := fun r ⟨a, b, d, e⟩ => h r a b d e
theorem fresh5 {A B D E F C : Nat → Prop} (h : ∀ r, A r → B r → D r → E r → F r → C r) : ∀ r, (A r ∧ B r ∧ D r ∧ E r ∧ F r) → C r := fun r ⟨a, b, d, e, f⟩ => h r a b d e f
theorem Heap.set_ne {H : Heap} {r r' : Nat} {b : List AV} (h : r' ≠ r) : (H.set r b) r' = H r' := Heap.set_other h
theorem Heap.over2 {H : Heap} {r s : Nat} {a b c : List AV} (h : r ≠ s) : ((H.set r a).set s b).set r c = (H.set r c).set s b := by
  rw [Heap.set_comm (Ne.symm h), Heap.set_set]
theorem Heap.over3 {H : Heap} {r s t : Nat} {a b c d : List AV} (h : r ≠ s) (k : r ≠ t) : (((H.set r a).set s b).set t d).set r c = ((H.set r c).set s b).set t d := by
  rw [Heap.set_comm (Ne.symm k), Heap.over2 h]
theorem Heap.over4 {H : Heap} {r s t u : Nat} {a b c d e : List AV} (h : r ≠ s) (k : r ≠ t) (l : r ≠ u) : ((((H.set r a).set s b).set t d).set u e).set r c = (((H.set r c).set s b).set t d).set u e := by
  rw [Heap.set_comm (Ne.symm l), Heap.over3 h k]
section
variable {P : Program} {tab : Tab} {env : List AV} {H : Heap} {K : AV → Heap → Prop}
theorem callV_fn (g : Nat) (as : Array Operand) (ts : Array TypeId) : callV P tab { callee := .value (.func g), args := as, argTypes := ts } env H K = CallT P g (as.toList.map (ev env)) H K := by
  simp [callV, ev]
theorem callV_tmp (i : Nat) (as : Array Operand) (ts : Array TypeId) : callV P tab { callee := .value (.tmp i), args := as, argTypes := ts } env H K = (match ev env (.tmp i) with | .fn g caps => CallT P g (as.toList.map (ev env) ++ caps) H K | _ => False) := rfl
theorem callV_len (a : Operand) (t : TypeId) : callV P tab { callee := .builtin .len, args := #[a], argTypes := #[t] } env H K = lenV tab t (ev env a) (K · H) := rfl
theorem callV_app (a b : Operand) (t u : TypeId) : callV P tab { callee := .builtin .append, args := #[a, b], argTypes := #[t, u] } env H K = appendV tab t u (ev env a) (ev env b) H (wkK K) := rfl
theorem callV_max (a b : Operand) (ts : Array TypeId) : callV P tab { callee := .builtin .max, args := #[a, b], argTypes := ts } env H K = mmV .max (ev env a) (ev env b) (K · H) := rfl
theorem callV_min (a b : Operand) (ts : Array TypeId) : callV P tab { callee := .builtin .min, args := #[a, b], argTypes := ts } env H K = mmV .min (ev env a) (ev env b) (K · H) := rfl
end
end Go.Sep
