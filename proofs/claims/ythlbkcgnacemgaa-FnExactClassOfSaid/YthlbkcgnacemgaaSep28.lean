/- Sep, part 28: the rules by which a formula is worked out. -/
import Derived.Test.YthlbkcgnacemgaaSep27
namespace Go.Sep
open Go Go.RowKit

abbrev I (n : Int) : AV := .p (.int .i64 n)
abbrev U (n : Int) : AV := .p (.int .u64 n)
abbrev B (b : Bool) : AV := .p (.bool b)
abbrev S (es : List (List PV)) : AV := .p (.sl es)
/-- A struct told by value. -/
abbrev A (e : List PV) : AV := .agg (e.map .p)

theorem condV_b {b : Bool} {X Y : Prop} : condV (.p (.bool b)) X Y = ((b = true → X) ∧ (b = false → Y)) := by cases b <;> simp [condV]
theorem condV_dec {p : Prop} [Decidable p] {X Y : Prop} : condV (.p (.bool (decide p))) X Y = ((p → X) ∧ (¬p → Y)) := by by_cases h : p <;> simp [condV, h]
theorem condV_not {b : Bool} {X Y : Prop} : condV (.p (.bool (!b))) X Y = condV (.p (.bool b)) Y X := by cases b <;> simp [condV]
theorem condV_t {X Y : Prop} : condV (.p (.bool true)) X Y = X := rfl
theorem condV_f {X Y : Prop} : condV (.p (.bool false)) X Y = Y := rfl
theorem condV_u {X Y : Prop} : condV .ub X Y = (X ∧ Y) := rfl
theorem pickV_b {b : Bool} {X Y : Prop} : pickV (.p (.bool b)) X Y = condV (.p (.bool b)) X Y := by cases b <;> rfl
theorem grdV_t {b : Bool} {X Y : Prop} : grdV (.p (.bool b)) true X Y = condV (.p (.bool b)) X Y := by cases b <;> rfl
theorem grdV_f {b : Bool} {X Y : Prop} : grdV (.p (.bool b)) false X Y = condV (.p (.bool b)) Y X := by cases b <;> rfl
/-- A list told by value, held against nil. -/
theorem eqnil_sl {tab : Tab} {t : Nat} {es : List (List PV)} {K : AV → Prop} : binV tab .eql t (.p (.sl es)) (.p .nil) K = (match tab t with
    | some d => match d.k with
      | .slice _ => (es = [] → K .ub) ∧ (es ≠ [] → K (.p (.bool false)))
      | _ => binV tab .eql t (.p (.sl es)) (.p .nil) K
    | none => binV tab .eql t (.p (.sl es)) (.p .nil) K) := by
  cases ht : tab t with
  | none => rfl
  | some d =>
    dsimp only
    cases hk : d.k <;> try rfl
    dsimp only
    cases es with
    | nil => simp [binV, eqV, ht, hk, isNilV, unkV, sliceLike]
    | cons e es => simp [binV, eqV, ht, hk, isNilV]
theorem neqnil_sl {tab : Tab} {t : Nat} {es : List (List PV)} {K : AV → Prop} : binV tab .neq t (.p (.sl es)) (.p .nil) K = (match tab t with
    | some d => match d.k with
      | .slice _ => (es = [] → K .ub) ∧ (es ≠ [] → K (.p (.bool true)))
      | _ => binV tab .neq t (.p (.sl es)) (.p .nil) K
    | none => binV tab .neq t (.p (.sl es)) (.p .nil) K) := by
  cases ht : tab t with
  | none => rfl
  | some d =>
    dsimp only
    cases hk : d.k <;> try rfl
    dsimp only
    cases es with
    | nil => simp [binV, eqV, ht, hk, isNilV, unkV, sliceLike]
    | cons e es => simp [binV, eqV, ht, hk, isNilV]
theorem callF_fn {P : Program} {f : Nat} {caps args : List AV} {H : Heap} {K : AV → Heap → Prop} : callF P (.fn f caps) args H K = CallT P f (args ++ caps) H K := rfl

theorem indexAddr_sl {α : Type} [Inhabited α] {tab : Tab} {t : Nat} {xs : List α} {f : α → List PV} {k : IntKind} {n : Int} {K : AV → Prop} :
    indexAddrV tab t (.p (.sl (xs.map f))) (.p (.int k n)) K = (match tab t with
      | some d => match d.k with
        | .slice e => match tab e with
          | some ed => 0 ≤ n ∧ n < xs.length ∧ (f (xs.getD n.toNat default)).length = ed.size ∧ K (.fp (f (xs.getD n.toNat default)))
          | none => False
        | _ => False
      | none => False) := by
  simp only [indexAddrV]
  cases tab t with
  | none => rfl
  | some d =>
    dsimp only
    cases d.k <;> try rfl
    rename_i e
    dsimp only
    cases tab e with
    | none => rfl
    | some ed =>
      dsimp only
      apply propext
      rw [List.length_map]
      refine and_congr_right fun h0 => and_congr_right fun h1 => ?_
      have hlt : n.toNat < xs.length := by omega
      have e1 : (xs.map f).getD n.toNat [] = f (xs.getD n.toNat default) := by simp [List.getD, hlt]
      rw [e1]

theorem indexAddr_own {tab : Tab} {t : Nat} {r sz off len : Nat} {k : IntKind} {n : Int} {K : AV → Prop} :
    indexAddrV tab t (.sl r sz off len) (.p (.int k n)) K = (match tab t with
      | some d => match d.k with
        | .slice e => match tab e with
          | some ed => sz = ed.size ∧ 0 ≤ n ∧ n < len ∧ K (.ptr r (off + n.toNat * sz))
          | none => False
        | _ => False
      | none => False) := by
  simp only [indexAddrV]
  cases tab t with
  | none => rfl
  | some d =>
    dsimp only
    cases d.k <;> first | rfl | (rename_i e; dsimp only; cases tab e <;> rfl)
/-- The bounds of a slice expression of two. -/
def bnd2 (o : Option AV) (n : Int) (K : Int → Prop) : Prop := bndV o n K
theorem sliceV_sl {α : Type} {tab : Tab} {t : Nat} {xs : List α} {f : α → List PV} {lo hi : Option AV} {K : AV → Prop} :
    sliceV tab t (.p (.sl (xs.map f))) lo hi none K = (match tab t with
      | some d => match d.k with
        | .slice e => match tab e with
          | some ed => bndV lo 0 fun l => bndV hi xs.length fun h => 0 ≤ l ∧ l ≤ h ∧ h ≤ xs.length ∧ (∀ e ∈ xs.map f, e.length = ed.size) ∧ K (.p (.sl (((xs.drop l.toNat).take (h - l).toNat).map f)))
          | none => False
        | _ => False
      | none => False) := by
  simp only [sliceV]
  cases tab t with
  | none => rfl
  | some d =>
    dsimp only
    cases d.k <;> try rfl
    rename_i e
    dsimp only
    cases tab e with
    | none => rfl
    | some ed =>
      dsimp only
      have hb : ∀ (o : Option AV) (n : Int) (X Y : Int → Prop), (∀ v, X v = Y v) → bndV o n X = bndV o n Y := by
        intro o n X Y h; have : X = Y := funext h; rw [this]
      simp only [Option.isSome_none, Bool.false_eq_true, false_implies, true_and, false_and, false_or, List.length_map, ← List.map_drop, ← List.map_take]
      refine hb _ _ _ _ fun l => hb _ _ _ _ fun h => ?_
      simp only [bndV]
      apply propext
      constructor
      · rintro ⟨a, b, c, d, e, g⟩; exact ⟨a, b, by omega, e, g⟩
      · rintro ⟨a, b, c, e, g⟩; exact ⟨a, b, by omega, by omega, e, g⟩
theorem sliceV_own {tab : Tab} {t : Nat} {r sz off len : Nat} {lo hi : Option AV} {K : AV → Prop} :
    sliceV tab t (.sl r sz off len) lo hi none K = (match tab t with
      | some d => match d.k with
        | .slice e => match tab e with
          | some ed => sz = ed.size ∧ bndV lo 0 fun l => bndV hi len fun h => 0 ≤ l ∧ l ≤ h ∧ h ≤ len ∧ K (.sl r sz (off + l.toNat * sz) (h - l).toNat)
          | none => False
        | _ => False
      | none => False) := by
  simp only [sliceV]
  cases tab t with
  | none => rfl
  | some d =>
    dsimp only
    cases d.k <;> try rfl
    rename_i e
    dsimp only
    cases tab e with
    | none => rfl
    | some ed =>
      dsimp only
      have hb : ∀ (o : Option AV) (n : Int) (X Y : Int → Prop), (∀ v, X v = Y v) → bndV o n X = bndV o n Y := by
        intro o n X Y h; have : X = Y := funext h; rw [this]
      simp only [Option.isSome_none, Bool.false_eq_true, false_implies, true_and, false_and, if_false]
      refine congrArg _ (hb _ _ _ _ fun l => hb _ _ _ _ fun h => ?_)
      simp only [bndV]
      apply propext
      constructor
      · rintro ⟨a, b, c, d, g⟩; exact ⟨a, b, by omega, g⟩
      · rintro ⟨a, b, c, g⟩; exact ⟨a, b, by omega, by omega, g⟩
theorem sliceV_nil {tab : Tab} {t : Nat} {lo hi : Option AV} {K : AV → Prop} :
    sliceV tab t (.p .nil) lo hi none K = (match tab t with
      | some d => match d.k with
        | .slice e => match tab e with
          | some _ => bndV lo 0 fun l => bndV hi 0 fun h => l = 0 ∧ h = 0 ∧ K (.p .nil)
          | none => False
        | _ => False
      | none => False) := by
  simp only [sliceV]
  cases tab t with
  | none => rfl
  | some d =>
    dsimp only
    cases d.k <;> try rfl
    rename_i e
    dsimp only
    cases tab e with
    | none => rfl
    | some ed =>
      dsimp only
      have hb : ∀ (o : Option AV) (n : Int) (X Y : Int → Prop), (∀ v, X v = Y v) → bndV o n X = bndV o n Y := by
        intro o n X Y h; have : X = Y := funext h; rw [this]
      simp only [Option.isSome_none, Bool.false_eq_true, false_implies, true_and, if_false]
      refine hb _ _ _ _ fun l => hb _ _ _ _ fun h => ?_
      simp only [bndV]
      apply propext
      constructor
      · rintro ⟨a, b, c, g⟩; exact ⟨a, b, g⟩
      · rintro ⟨a, b, g⟩; exact ⟨a, b, by omega, g⟩

/-- One element, put behind a list that owns its row. -/
theorem push_own {tab : Tab} {t e sz : Nat} {d ed : TD} {r : Nat} {es : List (List PV)} {cs : List PV} {x : AV} {H : Heap} {K : AV → Heap → Prop} (h1 : tab t = some d) (h2 : d.k = .slice e) (h3 : tab e = some ed) (h6 : ed.size = sz) (hz : ed.zero.length = sz) {bz : Nat} (h7 : ed.bytes = bz)
    (hx : x.cells = some (cs.map .p)) (hpos : 0 < sz) (hsm : sz ≤ 16777216) (hc : cs.length = sz) (hr : H r = some (cells es)) (hs : Sized sz es) (hl : (es.length + 1) * bz ≤ 140737488355328) (hl2 : es.length + 1 ≤ 9223372036854775807)
    (h : ∀ r', H r' = none → K (own r' sz (es ++ [cs])) ((H.del r).set r' (cells (es ++ [cs])))) :
    buildSliceV tab t 1 [(0, x)] H (wkK fun v H1 => appendV tab t t (own r sz es) v H1 (wkK K)) := by
  subst h6
  simp only [buildSliceV, h1, h2, h3]
  refine ⟨by omega, ?_⟩
  have hzl : (zerosA 1 ed.zero).length = ed.size := by rw [zerosA_len, hz]; omega
  have hsp : splice (zerosA 1 ed.zero) (0 * ed.size) (cs.map .p) = cs.map .p := by
    simp only [splice, Nat.zero_mul, List.take_zero, List.nil_append, Nat.zero_add]
    rw [List.drop_of_length_le (by rw [hzl, List.length_map, hc]; exact Nat.le_refl _), List.append_nil]
  have hf : fillV (fun i => some (i * ed.size, ed.size)) (zerosA 1 ed.zero) [(0, x)] = some (cs.map .p) := by
    simp only [fillV, hx, List.length_map, hc, hzl, Nat.zero_mul, Nat.zero_add, Nat.le_refl, and_self, if_true]
    rw [Nat.zero_mul] at hsp; rw [hsp]
  rw [hf]
  intro q hq
  have hqr : q ≠ r := by rintro rfl; rw [hr] at hq; cases hq
  refine ⟨.p (.sl [cs]), H, Wk.trans (Wk.frz (r := q) (sz := ed.size) (es := [cs]) (v := .sl q ed.size 0 1) (v' := .p (.sl [cs])) hpos ?_ ?_ .here) (.forget ?_), ?_⟩
  · rw [Heap.set_same]; simp
  · intro e he; simp only [List.mem_singleton] at he; rw [he]; exact hc
  · rw [Heap.del_set hq]; exact Heap.le_refl _
  · exact app_own h1 h2 h3 h1 h2 rfl h7 (.inl rfl) hr hs (by intro e he; simp only [List.mem_singleton] at he; rw [he]; exact hc) (by simpa using hl) (by simpa using hl2) h

abbrev eI (n : Int) : List PV := [.int .i64 n]
abbrev eU (n : Int) : List PV := [.int .u64 n]
abbrev e8 (n : Int) : List PV := [.int .u8 n]
abbrev eB (b : Bool) : List PV := [.bool b]
abbrev Is (xs : List Int) : AV := .p (.sl (xs.map eI))
theorem sized_map {α : Type} {f : α → List PV} {sz : Nat} (h : ∀ a, (f a).length = sz) (xs : List α) : Sized sz (xs.map f) := by
  intro e he; obtain ⟨a, _, rfl⟩ := List.mem_map.1 he; exact h a
/-! ### Operations on values that are known -/
section
variable {P : Program} {tab : Tab} {t : Nat} {H : Heap} {K : AV → Prop} {KH : AV → Heap → Prop}
theorem bin_add {k : IntKind} {a b : Int} : binV tab .add t (.p (.int k a)) (.p (.int k b)) K = K (.p (.int k (k.wrap (a + b)))) := by simp [binV]
theorem bin_sub {k : IntKind} {a b : Int} : binV tab .sub t (.p (.int k a)) (.p (.int k b)) K = K (.p (.int k (k.wrap (a - b)))) := by simp [binV]
theorem bin_mul {k : IntKind} {a b : Int} : binV tab .mul t (.p (.int k a)) (.p (.int k b)) K = K (.p (.int k (k.wrap (a * b)))) := by simp [binV]
theorem bin_and {k : IntKind} {a b : Int} : binV tab .and t (.p (.int k a)) (.p (.int k b)) K = K (.p (.int k (bitsI .and k a b))) := by simp [binV]
theorem bin_or {k : IntKind} {a b : Int} : binV tab .or t (.p (.int k a)) (.p (.int k b)) K = K (.p (.int k (bitsI .or k a b))) := by simp [binV]
theorem bin_xor {k : IntKind} {a b : Int} : binV tab .xor t (.p (.int k a)) (.p (.int k b)) K = K (.p (.int k (bitsI .xor k a b))) := by simp [binV]
theorem bin_andNot {k : IntKind} {a b : Int} : binV tab .andNot t (.p (.int k a)) (.p (.int k b)) K = K (.p (.int k (bitsI .andNot k a b))) := by simp [binV]
theorem bin_quo {k : IntKind} {a b : Int} : binV tab .quo t (.p (.int k a)) (.p (.int k b)) K = (b ≠ 0 ∧ K (.p (.int k (k.wrap (a.tdiv b))))) := by simp [binV]
theorem bin_rem {k : IntKind} {a b : Int} : binV tab .rem t (.p (.int k a)) (.p (.int k b)) K = (b ≠ 0 ∧ K (.p (.int k (a.tmod b)))) := by simp [binV]
theorem bin_shl {k k' : IntKind} {a b : Int} : binV tab .shl t (.p (.int k a)) (.p (.int k' b)) K = (0 ≤ b ∧ K (.p (.int k (k.wrap (a * 2 ^ (min b.toNat k.bits)))))) := rfl
theorem bin_shr {k k' : IntKind} {a b : Int} : binV tab .shr t (.p (.int k a)) (.p (.int k' b)) K = (0 ≤ b ∧ K (.p (.int k (a.fdiv (2 ^ (min b.toNat k.bits)))))) := rfl
theorem bin_eql {k : IntKind} {a b : Int} : binV tab .eql t (.p (.int k a)) (.p (.int k b)) K = K (.p (.bool (decide (a = b)))) := by simp [binV]
theorem bin_neq {k : IntKind} {a b : Int} : binV tab .neq t (.p (.int k a)) (.p (.int k b)) K = K (.p (.bool (!decide (a = b)))) := by simp [binV]
theorem bin_lss {k : IntKind} {a b : Int} : binV tab .lss t (.p (.int k a)) (.p (.int k b)) K = K (.p (.bool (decide (a < b)))) := by simp [binV]
theorem bin_leq {k : IntKind} {a b : Int} : binV tab .leq t (.p (.int k a)) (.p (.int k b)) K = K (.p (.bool (decide (a ≤ b)))) := by simp [binV]
theorem bin_gtr {k : IntKind} {a b : Int} : binV tab .gtr t (.p (.int k a)) (.p (.int k b)) K = K (.p (.bool (decide (b < a)))) := by simp [binV]
theorem bin_geq {k : IntKind} {a b : Int} : binV tab .geq t (.p (.int k a)) (.p (.int k b)) K = K (.p (.bool (decide (b ≤ a)))) := by simp [binV]
theorem bin_bool {op : BinOp} {a b : Bool} : binV tab op t (.p (.bool a)) (.p (.bool b)) K = (match op, eqV tab t (.p (.bool a)) (.p (.bool b)) with
    | .eql, some r => K (.p (.bool r))
    | .neq, some r => K (.p (.bool (!r)))
    | .eql, none => unkV tab t (.p (.bool a)) (.p (.bool b)) (K .ub)
    | .neq, none => unkV tab t (.p (.bool a)) (.p (.bool b)) (K .ub)
    | _, _ => False) := rfl
theorem eqV_bool {a b : Bool} : eqV tab t (.p (.bool a)) (.p (.bool b)) = (match tab t with
    | none => none
    | some d => match d.k with
      | .bool => some (a == b)
      | k => match isNilV k (.p (.bool a)), isNilV k (.p (.bool b)) with
        | some r, some true => some r
        | some true, some r => some r
        | _, _ => none) := by
  unfold eqV
  cases tab t with
  | none => rfl
  | some d => dsimp only; cases d.k <;> rfl
theorem bin_agg {op : BinOp} {xs ys : List AV} : binV tab op t (.agg xs) (.agg ys) K = (match op, eqV tab t (.agg xs) (.agg ys) with
    | .eql, some r => K (.p (.bool r))
    | .neq, some r => K (.p (.bool (!r)))
    | .eql, none => unkV tab t (.agg xs) (.agg ys) (K .ub)
    | .neq, none => unkV tab t (.agg xs) (.agg ys) (K .ub)
    | _, _ => False) := rfl
theorem eqV_agg {xs ys : List AV} : eqV tab t (.agg xs) (.agg ys) = (match tab t with
    | none => none
    | some d => match d.k with
      | .struct fs => eqFieldsV tab xs ys fs
      | _ => none) := by
  unfold eqV
  cases tab t with
  | none => rfl
  | some d => rfl
theorem un_not {b : Bool} : unV .not (.p (.bool b)) K = K (.p (.bool (!b))) := rfl
theorem un_neg {k : IntKind} {n : Int} : unV .neg (.p (.int k n)) K = K (.p (.int k (k.wrap (0 - n)))) := rfl
theorem un_xor {k : IntKind} {n : Int} : unV .xor (.p (.int k n)) K = K (.p (.int k (bitsI .xor k (if k.signed then -1 else k.max) n))) := rfl
theorem ext_tup {vs : List AV} {i : Nat} : extractV (.tup vs) i K = (i < vs.length ∧ K (vs.getD i .any)) := rfl
theorem load_fp {cs : List PV} : loadV tab t (.fp cs) H K = (match tab t with
    | some d => d.size ≤ cs.length ∧ K (if d.k.agg then .agg ((cs.take d.size).map .p) else ((cs.take d.size).map AV.p).headD .any)
    | none => False) := rfl
theorem load_same {r off : Nat} {cs : List AV} : loadV tab t (.ptr r off) (H.set r cs) K = (match tab t with
    | some d => off + d.size ≤ cs.length ∧ K (if d.k.agg then .agg ((cs.drop off).take d.size) else ((cs.drop off).take d.size).headD .any)
    | none => False) := by
  unfold loadV ptrReads; simp only [Heap.set_same]; cases tab t <;> rfl
theorem load_ne {r r' off : Nat} {cs : List AV} (h : r ≠ r') : loadV tab t (.ptr r off) (H.set r' cs) K = loadV tab t (.ptr r off) H K := by
  unfold loadV ptrReads; simp only [Heap.set_other h]
theorem load_at {r off : Nat} {cs : List AV} (h : H r = some cs) : loadV tab t (.ptr r off) H K = (match tab t with
    | some d => off + d.size ≤ cs.length ∧ K (if d.k.agg then .agg ((cs.drop off).take d.size) else ((cs.drop off).take d.size).headD .any)
    | none => False) := by
  unfold loadV ptrReads; simp only [h]; cases tab t <;> rfl
theorem store_same {r off : Nat} {cs : List AV} {v : AV} {KS : Heap → Prop} : storeV tab t (.ptr r off) v (H.set r cs) KS = (match tab t, v.cells with
    | some d, some vs => off + d.size ≤ cs.length ∧ vs.length = d.size ∧ vs.all AV.isCell = true ∧ KS (H.set r (splice cs off vs))
    | _, _ => False) := by
  unfold storeV
  cases tab t <;> cases v.cells <;> first | rfl | simp only [Heap.set_same, Heap.set_set]
theorem store_ne {r r' off : Nat} {cs : List AV} {v : AV} {KS : Heap → Prop} (h : r ≠ r') : storeV tab t (.ptr r off) v (H.set r' cs) KS = storeV tab t (.ptr r off) v H (fun H' => KS (H'.set r' cs)) := by
  unfold storeV
  cases tab t <;> cases v.cells <;> first | rfl | skip
  simp only [Heap.set_other h]
  cases H r with
  | none => rfl
  | some b => simp only [Heap.set_comm (Ne.symm h)]
theorem store_at {r off : Nat} {cs : List AV} {v : AV} {KS : Heap → Prop} (h : H r = some cs) : storeV tab t (.ptr r off) v H KS = (match tab t, v.cells with
    | some d, some vs => off + d.size ≤ cs.length ∧ vs.length = d.size ∧ vs.all AV.isCell = true ∧ KS (H.set r (splice cs off vs))
    | _, _ => False) := by
  unfold storeV
  cases tab t <;> cases v.cells <;> first | rfl | simp only [h]
theorem box_agg {vs : List AV} : boxV (.agg vs) H KH = ∀ r, H r = none → KH (.ptr r 0) (H.set r vs) := rfl
theorem box_p {v : PV} : boxV (.p v) H KH = ∀ r, H r = none → KH (.ptr r 0) (H.set r [.p v]) := rfl
theorem box_sl {r sz off len : Nat} : boxV (.sl r sz off len) H KH = ∀ q, H q = none → KH (.ptr q 0) (H.set q [.sl r sz off len]) := rfl
theorem box_ptr {r off : Nat} : boxV (.ptr r off) H KH = ∀ q, H q = none → KH (.ptr q 0) (H.set q [.ptr r off]) := rfl
theorem box_fn {f : Nat} {caps : List AV} : boxV (.fn f caps) H KH = ∀ q, H q = none → KH (.ptr q 0) (H.set q [.fn f caps]) := rfl
theorem fill_nil {pl : Nat → Option (Nat × Nat)} {cs : List AV} : fillV pl cs [] = some cs := rfl
theorem fill_p {pl : Nat → Option (Nat × Nat)} {cs : List AV} {i : Nat} {v : PV} {l : List (Nat × AV)} : fillV pl cs ((i, .p v) :: l) = (match pl i with
    | some (off, size) => if 1 = size ∧ off + size ≤ cs.length then fillV pl (splice cs off [.p v]) l else none
    | none => none) := by
  simp only [fillV, AV.cells]; cases pl i <;> rfl
theorem fill_sl {pl : Nat → Option (Nat × Nat)} {cs : List AV} {i r sz off' len : Nat} {l : List (Nat × AV)} : fillV pl cs ((i, .sl r sz off' len) :: l) = (match pl i with
    | some (off, size) => if 1 = size ∧ off + size ≤ cs.length then fillV pl (splice cs off [.sl r sz off' len]) l else none
    | none => none) := by
  simp only [fillV, AV.cells]; cases pl i <;> rfl
theorem fill_ptr {pl : Nat → Option (Nat × Nat)} {cs : List AV} {i r off' : Nat} {l : List (Nat × AV)} : fillV pl cs ((i, .ptr r off') :: l) = (match pl i with
    | some (off, size) => if 1 = size ∧ off + size ≤ cs.length then fillV pl (splice cs off [.ptr r off']) l else none
    | none => none) := by
  simp only [fillV, AV.cells]; cases pl i <;> rfl
theorem fill_fn {pl : Nat → Option (Nat × Nat)} {cs : List AV} {i f : Nat} {caps : List AV} {l : List (Nat × AV)} : fillV pl cs ((i, .fn f caps) :: l) = (match pl i with
    | some (off, size) => if 1 = size ∧ off + size ≤ cs.length then fillV pl (splice cs off [.fn f caps]) l else none
    | none => none) := by
  simp only [fillV, AV.cells]; cases pl i <;> rfl
theorem fill_esl {pl : Nat → Option (Nat × Nat)} {cs : List AV} {i : Nat} {l : List (Nat × AV)} : fillV pl cs ((i, .esl) :: l) = (match pl i with
    | some (off, size) => if 1 = size ∧ off + size ≤ cs.length then fillV pl (splice cs off [.esl]) l else none
    | none => none) := by
  simp only [fillV, AV.cells]; cases pl i <;> rfl
theorem fill_agg {pl : Nat → Option (Nat × Nat)} {cs : List AV} {i : Nat} {vs : List AV} {l : List (Nat × AV)} : fillV pl cs ((i, .agg vs) :: l) = (match pl i with
    | some (off, size) => if vs.length = size ∧ off + size ≤ cs.length then fillV pl (splice cs off vs) l else none
    | none => none) := by
  simp only [fillV, AV.cells]; cases pl i <;> rfl
theorem len_p {v : PV} : lenV tab t (.p v) K = (match tab t with
    | some d => match d.k with
      | .slice _ => match v with
        | .nil => K (.p (.int .i64 0))
        | .sl es => K (.p (.int .i64 es.length))
        | _ => False
      | .str => match v with
        | .str s => K (.p (.int .i64 s.size))
        | _ => False
      | _ => False
    | none => False) := by
  unfold lenV
  cases tab t with
  | none => rfl
  | some d => dsimp only; cases d.k <;> first | rfl | (cases v <;> rfl)
theorem len_sl {r sz off len : Nat} : lenV tab t (.sl r sz off len) K = (match tab t with
    | some d => match d.k with
      | .slice _ => K (.p (.int .i64 len))
      | _ => False
    | none => False) := by
  unfold lenV
  cases tab t with
  | none => rfl
  | some d => dsimp only; cases d.k <;> rfl
theorem len_esl : lenV tab t .esl K = (match tab t with
    | some d => match d.k with
      | .slice _ => K (.p (.int .i64 0))
      | _ => False
    | none => False) := by
  unfold lenV
  cases tab t with
  | none => rfl
  | some d => dsimp only; cases d.k <;> rfl
theorem nc_ptr {r off : Nat} : nilCheckV (.ptr r off) K = K (.ptr r off) := rfl
theorem nc_fp {cs : List PV} : nilCheckV (.fp cs) K = K (.fp cs) := rfl
theorem nc_fn {f : Nat} {caps : List AV} : nilCheckV (.fn f caps) K = K (.fn f caps) := rfl
theorem nc_sl {r sz off len : Nat} : nilCheckV (.sl r sz off len) K = K (.sl r sz off len) := rfl
theorem nc_p {v : PV} : nilCheckV (.p v) K = K (.p v) := rfl
theorem conv_int {s d : Nat} {k : IntKind} {n : Int} : convV tab s d (.p (.int k n)) K = (match tab s, tab d with
    | some _, some d => match d.k with
      | .int k => K (.p (.int k (k.wrap n)))
      | _ => False
    | _, _ => False) := by
  unfold convV
  cases tab s <;> cases tab d <;> rfl
theorem mm_max {k k' : IntKind} {m n : Int} : mmV .max (.p (.int k m)) (.p (.int k' n)) K = K (.p (.int k (if n > m then n else m))) := rfl
theorem mm_min {k k' : IntKind} {m n : Int} : mmV .min (.p (.int k m)) (.p (.int k' n)) K = K (.p (.int k (if n < m then n else m))) := rfl
theorem fa_ptr {r off f : Nat} : fieldAddrV tab t (.ptr r off) f K = (match tab t with
    | some d => match d.k with
      | .struct fs => match fs[f]? with
        | some (o, ft) => match tab ft with
          | some _ => K (.ptr r (off + o))
          | none => False
        | none => False
      | _ => False
    | none => False) := rfl
theorem fa_fp {cs : List PV} {f : Nat} : fieldAddrV tab t (.fp cs) f K = (match tab t with
    | some d => match d.k with
      | .struct fs => match fs[f]? with
        | some (o, ft) => match tab ft with
          | some _ => o ≤ cs.length ∧ K (.fp (cs.drop o))
          | none => False
        | none => False
      | _ => False
    | none => False) := rfl
theorem fd_agg {vs : List AV} {f : Nat} : fieldV tab t (.agg vs) f K = (match tab t with
    | some d => match d.k with
      | .struct fs => match fs[f]? with
        | some (o, ft) => partV tab vs o ft K
        | none => False
      | _ => False
    | none => False) := rfl
end

theorem cells_agg {vs : List AV} : (AV.agg vs).cells = some vs := rfl
theorem cells_p {v : PV} : (AV.p v).cells = some [.p v] := rfl
theorem cells_sl {r sz off len : Nat} : (AV.sl r sz off len).cells = some [.sl r sz off len] := rfl
theorem cells_ptr {r off : Nat} : (AV.ptr r off).cells = some [.ptr r off] := rfl
theorem cells_fn {f : Nat} {caps : List AV} : (AV.fn f caps).cells = some [.fn f caps] := rfl
theorem cells_nilp : AV.nilp.cells = some [.nilp] := rfl
theorem cells_fp {cs : List PV} : (AV.fp cs).cells = some [.fp cs] := rfl
theorem le_refl_true (H : Heap) : Heap.le H H = True := eq_true (Heap.le_refl H)
theorem wrap_i64 {n : Int} (h : -9223372036854775808 ≤ n ∧ n ≤ 9223372036854775807) : IntKind.i64.wrap n = n := wrap64_id h.1 h.2
theorem and_imp' {a b c : Prop} : (a ∧ b → c) = (a → b → c) := propext and_imp
theorem HasBody.mk {P : Program} {f : Nat} {fn : Func} (hf : P.funcs[f]? = some fn) {c : Code} (hc : fn.body = some c) (hn : (fn.name == "runtime.NumGoroutine") = false) : HasBody P f := ⟨fn, c, hf, hc, hn⟩
end Go.Sep
