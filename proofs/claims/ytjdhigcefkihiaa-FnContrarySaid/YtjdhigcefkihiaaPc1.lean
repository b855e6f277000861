/- Texts laid together: SepB. -/
import Derived.Test.YtjdhigcefkihiaaPc0
set_option linter.unusedVariables false
set_option linter.unusedSimpArgs false
open Nat renaming reduceAdd → ν1, reduceLeDiff → ν2, reduceLT → ν3, reduceMul → ν4, reduceSub → ν5
open Int renaming reduceToNat → ι1, reduceSub → ι2, reduceAdd → ι3, reduceNeg → ι4
open Array renaming toList → ι5
open Ne renaming symm → ν6
open List renaming forall_mem_cons → ν7
namespace Go.Sep
open Go Go.RowKit
theorem arr1 {α : Type} {xs : Array α} (h : xs.size = 1) : ∃ a, xs = #[a] := by
  match xs, h with
  | ⟨[a]⟩, _ => exact ⟨a, rfl⟩
theorem arr2 {α : Type} {xs : Array α} (h : xs.size = 2) : ∃ a b, xs = #[a, b] := by
  match xs, h with
  | ⟨[a, b]⟩, _ => exact ⟨a, b, rfl⟩
theorem mmV_ok {P : Program} {Z : Fro} {φ : Pm} {w : World} {b : Builtin} {a c : AV} {x y : Value} (ca : Cv Z φ a x) (cc : Cv Z φ c y) {K : AV → Prop} (h : mmV b a c K) :
    ∃ v z, K v ∧ Cv Z φ v z ∧ ∀ (ts : Array TypeId) (ty : TypeId) (cs : Array Bool), (builtin b ts ty cs #[x, y]).run P w = .ok (.value z) w := by
  unfold mmV at h
  split at h
  · cases ca with | p hz => cases hz; cases cc with | p hz2 => cases hz2; exact ⟨_, _, h, .p (.int _ _), fun _ _ _ => rfl⟩
  · cases ca with | p hz => cases hz; cases cc with | p hz2 => cases hz2; exact ⟨_, _, h, .p (.int _ _), fun _ _ _ => rfl⟩
  · exact h.elim
def nilCheckV (x : AV) (K : AV → Prop) : Prop :=
  match x with
  | .ptr r off => K (.ptr r off)
  | .fp cs => K (.fp cs)
  | .fn f caps => K (.fn f caps)
  | .sl r sz off len => K (.sl r sz off len)
  | .p v => K (.p v)
  | _ => False
def indexV (tab : Tab) (t : Nat) (x i : AV) (K : AV → Prop) : Prop :=
  match tab t, x, i with
  | some d, .p (.str s), .p (.int _ n) => d.k.agg = false ∧ match d.k with
    | .str => 0 ≤ n ∧ n < s.size ∧ K (.p (.int .u8 (s.get! n.toNat).toNat))
    | _ => False
  | _, _, _ => False
theorem indexV_ok {P : Program} {tab : Tab} (hT : tab.Ok P) {Z : Fro} {φ : Pm} {w : World} {t : Nat} {a i : AV} {x y : Value} (ca : Cv Z φ a x) (ci : Cv Z φ i y) {K : AV → Prop} (h : indexV tab t a i K) :
    ∃ v z, K v ∧ Cv Z φ v z ∧ (Instr.index t x y).run P w = .ok z w := by
  unfold indexV at h
  split at h
  case h_2 => exact h.elim
  rename_i d s k n hdt
  obtain ⟨_, h⟩ := h
  split at h
  case h_2 => exact h.elim
  rename_i hk
  have hu := (hT t d hdt).k
  rw [hk] at hu
  simp only [TK.ok] at hu
  obtain ⟨h0, h1, hK⟩ := h
  cases ca with
  | p hz =>
    cases hz
    cases ci with
    | p hz2 =>
      cases hz2
      refine ⟨_, _, hK, .p (.int _ _), ?_⟩
      have hlt : n.toNat < s.size := by omega
      have hg : s[n.toNat]? = some s[n.toNat] := getElem?_pos s _ hlt
      have hgb : s.get! n.toNat = s[n.toNat] := by
        have hlt2 : n.toNat < s.data.size := hlt
        show s.data[n.toNat]! = s.data[n.toNat]
        exact getElem!_pos s.data _ hlt2
      simp [Instr.index, asIntOf, run_underlying hu, h0, hg, hgb]
def slenV : AV → Option Nat
  | .sl _ _ _ len => some len
  | .p (.sl es) => some es.length
  | .p .nil => some 0
  | _ => none
def cutV (n : Nat) : AV → AV
  | .sl r sz off _ => .sl r sz off n
  | .p (.sl es) => .p (.sl (es.take n))
  | x => x
def copyV (tab : Tab) (t0 : Nat) (d s : AV) (H : Heap) (K : AV → Heap → Prop) : Prop :=
  match tab t0, d, slenV s with
  | some td, .sl r sz off len, some m => match td.k with
    | .slice e => match tab e with
      | some ed => ed.size = sz ∧ (if min m len = 0 then K (.p (.int .i64 0)) H else
          srcV H sz (cutV (min m len) s) fun new _ => match H r with
            | some cs => off + new.length ≤ cs.length ∧ new.all AV.isCell = true ∧ K (.p (.int .i64 ((min m len : Nat) : Int))) (H.set r (splice cs off new))
            | none => False)
      | none => False
    | _ => False
  | _, _, _ => False
theorem slenV_ok {Z : Fro} {φ : Pm} {s : AV} {y : Value} {m : Nat} (c : Cv Z φ s y) (h : slenV s = some m) : ∃ a cap, y = .slice a m cap ∧ ∀ n, 0 < n → n ≤ m → Cv Z φ (cutV n s) (.slice a n cap) := by
  cases c with
  | p hz =>
    cases hz with
    | nil => simp only [slenV, Option.some.injEq] at h; subst h; exact ⟨_, _, rfl, fun n h1 h2 => by omega⟩
    | emp a c => simp only [slenV, List.length_nil, Option.some.injEq] at h; subst h; exact ⟨_, _, rfl, fun n h1 h2 => by omega⟩
    | sl es sz b o c vals hc hs hz hv =>
      simp only [slenV, Option.some.injEq] at h; subst h
      refine ⟨_, _, rfl, fun n h1 h2 => .p ?_⟩
      have hl : (es.take n).length = n := by rw [List.length_take]; omega
      have := Cz.sl (Z := Z) (es.take n) sz b o c vals (by omega) (fun e he => hs e (List.mem_of_mem_take he)) (fun i hi => hz i (by
        rw [hl] at hi
        exact Nat.lt_of_lt_of_le hi (Nat.mul_le_mul_right _ h2))) (fun i e hi j p hp => hv i e (by
          rw [List.getElem?_take] at hi
          split at hi
          · exact hi
          · cases hi) j p hp)
      rwa [hl] at this
    | _ => simp [slenV] at h
  | slz r sz off a => simp only [slenV, Option.some.injEq] at h; subst h; exact ⟨_, _, rfl, fun n h1 h2 => by omega⟩
  | sl hφ hl hC => simp only [slenV, Option.some.injEq] at h; subst h; exact ⟨_, _, rfl, fun n h1 h2 => .sl hφ (by omega) hC⟩
  | _ => simp [slenV] at h
theorem copyV_ok {P : Program} {tab : Tab} (hT : tab.Ok P) {Z : Fro} {φ : Pm} {B0 : Nat} {w0 w : World} {H F : Heap} (hd : Disj H F) (s : Sim Z φ B0 w0 (H.or F) w) {t0 : Nat} {d x : AV} {y z : Value}
    (cd : Cv Z φ d y) (cx : Cv Z φ x z) {K : AV → Heap → Prop} (h : copyV tab t0 d x H K) (t1 ty : Nat) :
    ∃ v w', (Builtin.copy_ #[t0, t1] ty #[y, z]).run P w = .ok v w' ∧ UpV B0 w0 F Z φ K v w' := by
  unfold copyV at h
  split at h
  case h_2 => exact h.elim
  rename_i td r sz off len m hdt hsl
  split at h
  case h_2 => exact h.elim
  rename_i e hk
  split at h
  case h_2 => exact h.elim
  rename_i ed hed
  obtain ⟨rfl, h⟩ := h
  have ok := hT t0 td hdt
  have oke := hT e ed hed
  have hu := ok.k
  rw [hk] at hu
  simp only [TK.ok] at hu
  obtain ⟨i, zz, hi, hsz, _, _, _⟩ := oke.info
  obtain ⟨a, cap, rfl, hcut⟩ := slenV_ok cx hsl
  split at h
  · rename_i h0
    have empty : ∀ (a : Option Addr) (m cap : Nat), (Builtin.firstCells ed.size 0 (.slice a m cap)).run P w = .ok #[] w := by
      intro a m cap
      cases a with
      | none => simp [Builtin.firstCells]
      | some a => simp [Builtin.firstCells, loadCells, loadCellsFrom]
    refine ⟨goInt 0, w, ?_, ⟨_, H, Z, φ, h, Fro.le_refl _, Pm.le_refl _, hd, s, .p (.int _ _)⟩⟩
    cases cd with
    | slz _ _ _ a0 =>
      have e1 : Nat.min m 0 = 0 := Nat.min_zero m
      cases a0 <;> simp [Builtin.copy_, run_underlying hu, Builtin.lenOf, sizeOf, typeInfo, hi, hsz, e1, empty, storeCells]
    | sl hφ hl hC =>
      have e1 : Nat.min m len = 0 := h0
      simp [Builtin.copy_, run_underlying hu, Builtin.lenOf, sizeOf, typeInfo, hi, hsz, e1, empty, storeCells]
  · rename_i h0
    have hm : min m len ≤ m := Nat.min_le_left _ _
    have hl' : min m len ≤ len := Nat.min_le_right _ _
    have c' := hcut (min m len) (by omega) hm
    obtain ⟨xa, m', xcap, new, news, e1, h, hnl, hnr, _, hrun⟩ := srcV_ok (P := P) s oke.pos c' h
    injection e1 with e1 e2 e3
    subst e1 e2 e3
    split at h
    case h_2 => exact h.elim
    rename_i cs hH
    obtain ⟨g1, g2, hK⟩ := h
    cases cd with
    | slz _ _ _ a0 => omega
    | sl hφ hl hC =>
      rename_i c pl
      obtain ⟨pl', hp', hla⟩ := s.live r cs (Heap.or_left hH)
      rw [hφ] at hp'; cases hp'
      have hCC : cs.length ≤ pl.C := by
        rcases hla with ⟨_, rfl⟩ | ⟨_, _, _, _, h, _⟩
        · simp
        · exact h
      obtain ⟨w', hst, s'⟩ := s.store (Heap.or_left hH) hφ (off := off) (by omega) (by omega) hnr g2 P
      refine ⟨goInt (min m len : Nat), w', ?_, ⟨_, _, Z, φ, hK, Fro.le_refl _, Pm.le_refl _, hd.set (hd.fresh hH), by rw [Heap.or_set]; exact s', .p (.int _ _)⟩⟩
      have hr2 : (Builtin.firstCells ed.size (min m len) (.slice a m cap)).run P w = .ok news.toArray w := by
        have := hrun w rfl
        cases a <;> exact this
      have e1 : Nat.min m len = min m len := rfl
      simp [Builtin.copy_, run_underlying hu, Builtin.lenOf, sizeOf, typeInfo, hi, hsz, e1, hr2, hst]
def clearV (tab : Tab) (t : Nat) (x : AV) (H : Heap) (K : AV → Heap → Prop) : Prop :=
  match tab t, x with
  | some d, .sl r sz off len => match d.k with
    | .slice e => match tab e with
      | some ed => ed.size = sz ∧ (if len = 0 then K (.tup []) H else match H r with
          | some cs => off + len * sz ≤ cs.length ∧ (zerosA len ed.zero).all AV.isCell = true ∧ K (.tup []) (H.set r (splice cs off (zerosA len ed.zero)))
          | none => False)
      | none => False
    | _ => False
  | _, _ => False
theorem clearV_ok {P : Program} {tab : Tab} (hT : tab.Ok P) {Z : Fro} {φ : Pm} {B0 : Nat} {w0 w : World} {H F : Heap} (hd : Disj H F) (s : Sim Z φ B0 w0 (H.or F) w) {t : Nat} {x : AV} {y : Value}
    (cx : Cv Z φ x y) {K : AV → Heap → Prop} (h : clearV tab t x H K) (ty : Nat) :
    ∃ v w', (Builtin.clear_ #[t] ty #[y]).run P w = .ok v w' ∧ UpV B0 w0 F Z φ K v w' := by
  unfold clearV at h
  split at h
  case h_2 => exact h.elim
  rename_i d r sz off len hdt
  split at h
  case h_2 => exact h.elim
  rename_i e hk
  split at h
  case h_2 => exact h.elim
  rename_i ed hed
  obtain ⟨rfl, h⟩ := h
  have ok := hT t d hdt
  have oke := hT e ed hed
  have hu := ok.k
  rw [hk] at hu
  simp only [TK.ok] at hu
  have done : Cv Z φ (.tup []) (.tuple #[]) := .tup [] #[] rfl (fun i av z h1 _ => by simp at h1)
  split at h
  · rename_i h0
    subst h0
    refine ⟨.tuple #[], w, ?_, ⟨_, H, Z, φ, h, Fro.le_refl _, Pm.le_refl _, hd, s, done⟩⟩
    cases cx with
    | slz _ _ _ a0 => cases a0 <;> simp [Builtin.clear_, run_underlying hu]
    | sl hφ hl hC => simp [Builtin.clear_, run_underlying hu]
  · rename_i h0
    split at h
    case h_2 => exact h.elim
    rename_i cs hH
    obtain ⟨g1, g2, hK⟩ := h
    obtain ⟨i, z, hi, hsz, hby, hz, hzc⟩ := oke.info
    have hzl : z.cells.size = ed.size := by have := congrArg List.length hzc; simp only [List.length_map, Array.length_toList] at this; rw [this, oke.zlen]
    have hzr : RelL Z φ ed.zero z.cells.toList := by rw [← hzc]; exact RelL.constA _ _ _
    have hzeros := zeros_rel hzr (by rw [oke.zlen]; exact oke.pos) len
    rw [oke.zlen] at hzeros
    have hzz : (Builtin.zeroCells z.cells len).toList = ((Array.range (len * ed.size)).map (fun i => z.cells[i % z.cells.size]!)).toList := by simp [Builtin.zeroCells, hzl]
    rw [← hzz] at hzeros
    cases cx with
    | slz _ _ _ a0 => exact absurd rfl h0
    | sl hφ hl hC =>
      rename_i c pl
      obtain ⟨pl', hp', hla⟩ := s.live r cs (Heap.or_left hH)
      rw [hφ] at hp'; cases hp'
      have hCC : cs.length ≤ pl.C := by
        rcases hla with ⟨_, rfl⟩ | ⟨_, _, _, _, h, _⟩
        · simp
        · exact h
      have hzlen : (zerosA len ed.zero).length = len * ed.size := by rw [zerosA_len, oke.zlen]
      obtain ⟨w', hst, s'⟩ := s.store (Heap.or_left hH) hφ (off := off) (by rw [hzlen]; omega) (by omega) hzeros g2 P
      refine ⟨.tuple #[], w', ?_, ⟨_, _, Z, φ, hK, Fro.le_refl _, Pm.le_refl _, hd.set (hd.fresh hH), by rw [Heap.or_set]; exact s', done⟩⟩
      obtain ⟨m, rfl⟩ : ∃ m, len = m + 1 := ⟨len - 1, by omega⟩
      simp [Builtin.clear_, run_underlying hu, zeroValue, typeInfo, hi, hz, hst]
def callV (P : Program) (tab : Tab) (c : Call) (env : List AV) (H : Heap) (K : AV → Heap → Prop) : Prop :=
  match c.callee, c.args.toList.map (ev env) with
  | .builtin .len, [x] => match c.argTypes.toList with
    | [t] => lenV tab t x (K · H)
    | _ => False
  | .builtin .cap, [x] => match c.argTypes.toList with
    | [t] => capV tab t x (K · H)
    | _ => False
  | .builtin .append, [s, x] => match c.argTypes.toList with
    | [t0, t1] => appendV tab t0 t1 s x H (wkK K)
    | _ => False
  | .builtin .copy, [d, x] => match c.argTypes.toList with
    | [t0, _] => copyV tab t0 d x H K
    | _ => False
  | .builtin .clear, [x] => match c.argTypes.toList with
    | [t] => clearV tab t x H K
    | _ => False
  | .builtin b, [x, y] => mmV b x y (K · H)
  | .value f, args => match ev env f with
    | .fn g caps => CallT P g (args ++ caps) H K
    | _ => False
  | _, _ => False
def pk (t : Bool) (A B : Prop) : Prop := (t = true → A) ∧ (t = false → B)
theorem pk.of {t : Bool} {A B : Prop} (h : t = true → A) (k : t = false → B) : pk t A B := ⟨h, k⟩
def opV (P : Program) (tab : Tab) (o : Op) (env : List AV) (H : Heap) (K : AV → Heap → Prop) : Prop :=
  match o with
  | .move x => K (ev env x) H
  | .assign x => K (ev env x) H
  | .pick c a b => match ev env c with
    | .p (.bool t) => pk t (K (ev env a) H) (K (ev env b) H)
    | _ => False
  | .alloc t => allocV tab t H K
  | .box _ x => boxV (ev env x) H K
  | .build t ps => buildV tab t (ps.toList.map fun p => (p.1, ev env p.2)) (K · H)
  | .buildSlice t n ps => buildSliceV tab t n (ps.toList.map fun p => (p.1, ev env p.2)) H (wkK K)
  | .load t a => loadV tab t (ev env a) H (K · H)
  | .store t a x => storeV tab t (ev env a) (ev env x) H (K .any ·)
  | .nilCheck x => nilCheckV (ev env x) (K · H)
  | .binOp op t x y _ => binV tab op t (ev env x) (ev env y) (K · H)
  | .unOp op _ x => unV op (ev env x) (K · H)
  | .convert s d x => convV tab s d (ev env x) (K · H)
  | .makeFunc (.func f) first caps => first.toList = [] ∧ K (.fn f (caps.toList.map (ev env))) H
  | .makeSlice t l c => makeSliceV tab t (ev env l) (ev env c) H K
  | .slice t x lo hi mx => sliceV tab t (ev env x) (lo.map (ev env)) (hi.map (ev env)) (mx.map (ev env)) (K · H)
  | .fieldAddr t x f => fieldAddrV tab t (ev env x) f (K · H)
  | .field t x f => fieldV tab t (ev env x) f (K · H)
  | .indexAddr t x i => indexAddrV tab t (ev env x) (ev env i) (K · H)
  | .index t x i => indexV tab t (ev env x) (ev env i) (K · H)
  | .extract x i => extractV (ev env x) i (K · H)
  | .call c => callV P tab c env H K
  | _ => False
theorem PartsRel.of_ev {Z : Fro} {φ : Pm} {env : List AV} {a : Act} (h : EnvRel Z φ env a.tmps) : ∀ (l : List (Nat × Operand)), PartsRel Z φ (l.map fun p => (p.1, ev env p.2)) (l.map fun p => (p.1, a.eval p.2)) := by
  intro l
  induction l with
  | nil => trivial
  | cons p l ih => exact ⟨rfl, ev_ok h p.2, ih⟩
theorem OptRel.of_ev {Z : Fro} {φ : Pm} {env : List AV} {a : Act} (h : EnvRel Z φ env a.tmps) (o : Option Operand) : OptRel Z φ (o.map (ev env)) (o.map a.eval) := by
  cases o with
  | none => trivial
  | some x => exact ev_ok h x
theorem op_ok {P : Program} {tab : Tab} (hT : tab.Ok P) {B0 : Nat} {w0 : World} {F : Heap} {Z : Fro} {φ : Pm} {H : Heap} {env : List AV} {a : Act} {w : World} (r : Rel B0 w0 F Z φ H env a w)
    {o : Oper} {K : AV → Heap → Prop} (h : opV P tab o.op env H K) {next : Act → World → Prop} {Q : Exit → Act → World → Prop} (cont : ∀ x w', UpV B0 w0 F Z φ K x w' → next (a.put o.dst x) w') : o.wp P a w next Q := by
  have val : ∀ {s : Sem Value}, (execOp a.eval o = do pure (.value (← s))) → (∃ y w', s.run P w = .ok y w' ∧ UpV B0 w0 F Z φ K y w') → o.wp P a w next Q := by
    intro s he ⟨y, w', hr, hu⟩
    unfold Oper.wp
    rw [he]
    simp only [Sem.run_bind, hr, Result.andThen_ok, Sem.run_pure]
    exact cont y w' hu
  have pure_ : ∀ {s : Sem Value}, (execOp a.eval o = do pure (.value (← s))) → (∃ v y, K v H ∧ Cv Z φ v y ∧ s.run P w = .ok y w) → o.wp P a w next Q := by
    intro s he ⟨v, y, hK, hc, hr⟩
    exact val he ⟨y, w, hr, v, H, Z, φ, hK, Fro.le_refl _, Pm.le_refl _, r.disj, r.sim, hc⟩
  have e := r.env
  unfold opV at h
  split at h
  case h_1 x ho => exact pure_ (s := pure (a.eval x)) (by simp [execOp, ho]) ⟨_, _, h, ev_ok e x, rfl⟩
  case h_2 x ho => exact pure_ (s := pure (a.eval x)) (by simp [execOp, ho]) ⟨_, _, h, ev_ok e x, rfl⟩
  case h_3 c x y ho =>
    split at h
    case h_2 => exact h.elim
    rename_i t hc
    have hv := ev_ok e c
    rw [hc] at hv
    have hcv : a.eval c = .bool t := by
      generalize a.eval c = z at hv
      cases hv with | p h => cases h; rfl
    cases t with
    | true => exact pure_ (s := pure (a.eval x)) (by simp [execOp, ho, hcv, asBool]) ⟨_, _, h.1 rfl, ev_ok e x, rfl⟩
    | false => exact pure_ (s := pure (a.eval y)) (by simp [execOp, ho, hcv, asBool]) ⟨_, _, h.2 rfl, ev_ok e y, rfl⟩
  case h_4 t ho => exact val (by simp only [execOp, ho]) (allocV_ok hT r.disj r.sim h)
  case h_5 t x ho => exact val (by simp only [execOp, ho]) (boxV_ok (t := t) r.disj r.sim (ev_ok e x) h)
  case h_6 t ps ho => exact pure_ (s := Instr.build t (ps.map fun (i, x) => (i, a.eval x))) (by simp only [execOp, ho]) (buildV_ok hT (by rw [Array.toList_map]; exact PartsRel.of_ev e ps.toList) h)
  case h_7 t n ps ho => exact val (s := Instr.buildSlice t n (ps.map fun (i, x) => (i, a.eval x))) (by simp only [execOp, ho]) (by obtain ⟨y, w', h1, h2⟩ := buildSliceV_ok hT r.disj r.sim (by rw [Array.toList_map]; exact PartsRel.of_ev e ps.toList) h; exact ⟨y, w', h1, h2.ofWk⟩)
  case h_8 t x ho => exact pure_ (by simp only [execOp, ho]) (loadV_ok hT r.sim (ev_ok e x) h)
  case h_9 t x y ho =>
    obtain ⟨H', w', hK, hd, hs, hr⟩ := storeV_ok hT r.disj r.sim (ev_ok e x) (ev_ok e y) h
    unfold Oper.wp
    simp only [execOp, ho, Sem.run_bind, hr, Result.andThen_ok, Sem.run_pure]
    exact cont undef w' ⟨.any, H', Z, φ, hK, Fro.le_refl _, Pm.le_refl _, hd, hs, .any _⟩
  case h_10 x ho =>
    have hv := ev_ok e x
    unfold nilCheckV at h
    have key : ∀ {v : AV}, Cv Z φ v (a.eval x) → K v H → (execOp a.eval o = pure (.value (a.eval x))) → o.wp P a w next Q := by
      intro v hc hK he
      refine pure_ (s := pure (a.eval x)) (by rw [he]; rfl) ⟨v, _, hK, hc, rfl⟩
    split at h
    case h_6 => exact h.elim
    all_goals
      rename_i heq
      rw [heq] at hv
      refine key hv h ?_
      simp only [execOp, ho]
      generalize a.eval x = z at hv
      first
        | (cases hv with | p hz => cases hz <;> rfl)
        | (cases hv <;> rfl)
  case h_11 op t x y ty ho => exact pure_ (by simp only [execOp, ho]) (binV_ok hT (ev_ok e x) (ev_ok e y) h x y)
  case h_12 op t x ho => exact pure_ (by simp only [execOp, ho]) (unV_ok (ev_ok e x) h)
  case h_13 s d x ho => exact pure_ (by simp only [execOp, ho]) (convV_ok hT (ev_ok e x) h)
  case h_14 f first caps ho =>
    obtain ⟨hf, hK⟩ := h
    have hf2 : first = #[] := by apply Array.ext'; simpa using hf
    subst hf2
    refine pure_ (s := pure (.func (.func f) #[] (caps.map a.eval))) (by simp [execOp, ho, Instr.makeFunc]) ⟨_, _, hK, .fn f _ _ (by simp) ?_, rfl⟩
    intro i av x hi hx
    rw [List.getElem?_map] at hi
    rw [Array.getElem?_map] at hx
    cases hc : caps.toList[i]? with
    | none => rw [hc] at hi; cases hi
    | some c =>
      rw [hc] at hi; cases hi
      rw [← Array.getElem?_toList, hc] at hx; cases hx
      exact ev_ok e c
  case h_15 t l c ho => exact val (by simp only [execOp, ho]) (makeSliceV_ok hT r.disj r.sim (ev_ok e l) (ev_ok e c) h)
  case h_16 t x lo hi mx ho => exact pure_ (by simp only [execOp, ho]) (sliceV_ok hT (ev_ok e x) (OptRel.of_ev e lo) (OptRel.of_ev e hi) (OptRel.of_ev e mx) h)
  case h_17 t x f ho => exact pure_ (by simp only [execOp, ho]) (fieldAddrV_ok hT (ev_ok e x) h)
  case h_18 t x f ho => exact pure_ (by simp only [execOp, ho]) (fieldV_ok hT (ev_ok e x) h)
  case h_19 t x i ho => exact pure_ (by simp only [execOp, ho]) (indexAddrV_ok hT (ev_ok e x) (ev_ok e i) h)
  case h_20 t x i ho => exact pure_ (by simp only [execOp, ho]) (indexV_ok hT (ev_ok e x) (ev_ok e i) h)
  case h_21 x i ho => exact pure_ (by simp only [execOp, ho]) (extractV_ok (ev_ok e x) h)
  case h_22 c ho =>
    unfold callV at h
    have hargs : ∀ {l : List AV}, c.args.toList.map (ev env) = l → ArgsRel Z φ l (c.args.map a.eval) := by
      intro l hl
      subst hl
      refine ⟨by simp, ?_⟩
      intro i av x hi hx
      rw [List.getElem?_map] at hi
      rw [Array.getElem?_map] at hx
      cases hc : c.args.toList[i]? with
      | none => rw [hc] at hi; cases hi
      | some z =>
        rw [hc] at hi; cases hi
        rw [← Array.getElem?_toList, hc] at hx; cases hx
        exact ev_ok e z
    split at h
    · rename_i x hcal hl
      split at h
      case h_2 => exact h.elim
      rename_i t hts
      have hr := hargs hl
      have hts2 : c.argTypes = #[t] := by apply Array.ext'; simpa using hts
      obtain ⟨z, hz⟩ : ∃ z, c.args.map a.eval = #[z] := arr1 hr.1
      have hcz : Cv Z φ x z := hr.2 0 x z rfl (by rw [hz]; rfl)
      exact pure_ (s := Builtin.len_ #[t] o.type #[z]) (by simp [execOp, ho, resolve, hcal, invoke, builtin, hz, hts2]) (lenV_ok hT hcz o.type h)
    · rename_i x hcal hl
      split at h
      case h_2 => exact h.elim
      rename_i t hts
      have hr := hargs hl
      have hts2 : c.argTypes = #[t] := by apply Array.ext'; simpa using hts
      obtain ⟨z, hz⟩ : ∃ z, c.args.map a.eval = #[z] := arr1 hr.1
      have hcz : Cv Z φ x z := hr.2 0 x z rfl (by rw [hz]; rfl)
      exact pure_ (s := Builtin.cap_ #[t] o.type #[z]) (by simp [execOp, ho, resolve, hcal, invoke, builtin, hz, hts2]) (capV_ok hT hcz o.type h)
    · rename_i s x hcal hl
      split at h
      case h_2 => exact h.elim
      rename_i t0 t1 hts
      have hr := hargs hl
      have hts2 : c.argTypes = #[t0, t1] := by apply Array.ext'; simpa using hts
      obtain ⟨z, y, hz⟩ : ∃ z y, c.args.map a.eval = #[z, y] := arr2 hr.1
      have hcz : Cv Z φ s z := hr.2 0 s z rfl (by rw [hz]; rfl)
      have hcy : Cv Z φ x y := hr.2 1 x y rfl (by rw [hz]; rfl)
      exact val (s := Builtin.append_ #[t0, t1] o.type #[z, y]) (by simp [execOp, ho, resolve, hcal, invoke, builtin, hz, hts2]) (by obtain ⟨y', w', h1, h2⟩ := appendV_ok hT r.disj r.sim hcz hcy o.type h; exact ⟨y', w', h1, h2.ofWk⟩)
    · rename_i s x hcal hl
      split at h
      case h_2 => exact h.elim
      rename_i t0 t1 hts
      have hr := hargs hl
      have hts2 : c.argTypes = #[t0, t1] := by apply Array.ext'; simpa using hts
      obtain ⟨z, y, hz⟩ : ∃ z y, c.args.map a.eval = #[z, y] := arr2 hr.1
      have hcz : Cv Z φ s z := hr.2 0 s z rfl (by rw [hz]; rfl)
      have hcy : Cv Z φ x y := hr.2 1 x y rfl (by rw [hz]; rfl)
      exact val (s := Builtin.copy_ #[t0, t1] o.type #[z, y]) (by simp [execOp, ho, resolve, hcal, invoke, builtin, hz, hts2]) (copyV_ok hT r.disj r.sim hcz hcy h t1 o.type)
    · rename_i x hcal hl
      split at h
      case h_2 => exact h.elim
      rename_i t hts
      have hr := hargs hl
      have hts2 : c.argTypes = #[t] := by apply Array.ext'; simpa using hts
      obtain ⟨z, hz⟩ : ∃ z, c.args.map a.eval = #[z] := arr1 hr.1
      have hcz : Cv Z φ x z := hr.2 0 x z rfl (by rw [hz]; rfl)
      exact val (s := Builtin.clear_ #[t] o.type #[z]) (by simp [execOp, ho, resolve, hcal, invoke, builtin, hz, hts2]) (clearV_ok hT r.disj r.sim hcz h o.type)
    · rename_i b x y _ _ hcal hl
      have hr := hargs hl
      obtain ⟨z, y', hz⟩ : ∃ z y, c.args.map a.eval = #[z, y] := arr2 hr.1
      have hcz : Cv Z φ x z := hr.2 0 x z rfl (by rw [hz]; rfl)
      have hcy : Cv Z φ y y' := hr.2 1 y y' rfl (by rw [hz]; rfl)
      obtain ⟨v, z2, hK, hc, hrun⟩ := mmV_ok (P := P) (w := w) hcz hcy h
      unfold Oper.wp
      simp only [execOp, ho, resolve, hcal, Sem.run_bind, Sem.run_pure, Result.andThen_ok, invoke, hz, hrun]
      exact cont z2 w ⟨v, H, Z, φ, hK, Fro.le_refl _, Pm.le_refl _, r.disj, r.sim, hc⟩
    · rename_i f hcal
      split at h
      case h_2 => exact h.elim
      rename_i g caps hfv
      have hv := ev_ok e f
      rw [hfv] at hv
      have hr := hargs rfl
      obtain ⟨⟨fn, body, h1, h2, h3⟩, hcall⟩ := h
      obtain ⟨xs, hxs, hsz, hrel⟩ : ∃ xs, a.eval f = .func (.func g) #[] xs ∧ xs.size = caps.length ∧ ∀ (i : Nat) (av : AV) (x : Value), caps[i]? = some av → xs[i]? = some x → Cv Z φ av x := by
        generalize a.eval f = z at hv
        cases hv with | fn _ _ xs hs hh => exact ⟨xs, rfl, hs, hh⟩
      have hall : ArgsRel Z φ (c.args.toList.map (ev env) ++ caps) (c.args.map a.eval ++ xs) := by
        refine ⟨by rw [Array.size_append, List.length_append, hr.1, hsz], ?_⟩
        intro i av x hi hx
        by_cases hlt : i < (c.args.toList.map (ev env)).length
        · rw [List.getElem?_append_left hlt] at hi
          rw [Array.getElem?_append_left (by rw [hr.1]; exact hlt)] at hx
          exact hr.2 i av x hi hx
        · rw [List.getElem?_append_right (by omega)] at hi
          rw [Array.getElem?_append_right (by rw [hr.1]; omega), hr.1] at hx
          exact hrel _ av x hi hx
      have hb : ¬ (fn.body = none) := by rw [h2]; simp
      have h3' : ¬ (fn.name = "runtime.NumGoroutine") := by simpa using h3
      have hrun : (execOp a.eval o).run P w = .ok (.enter g (c.args.map a.eval ++ xs)) w := by
        simp [execOp, ho, resolve, hcal, hxs, Deferred.ofValue, invoke, callFunc, h1, h3', hb]
      unfold Oper.wp
      rw [hrun]
      show Calls P g _ w _
      refine (hcall B0 w0 F Z φ w _ r.disj r.sim hall).mono ?_
      rintro e' w' ⟨x, rfl, hu⟩
      exact cont x w' hu
    · exact h.elim
  case h_23 => exact h.elim
def setD (env : List AV) (d : Option Tmp) (v : AV) : List AV :=
  match d with
  | some t => env.set t v
  | none => env
theorem Rel.put {B0 : Nat} {w0 : World} {F : Heap} {Z : Fro} {φ : Pm} {H : Heap} {env : List AV} {a : Act} {w : World} (r : Rel B0 w0 F Z φ H env a w) (d : Option Tmp) {v : AV} {x : Value} (c : Cv Z φ v x) :
    Rel B0 w0 F Z φ H (setD env d v) (a.put d x) w := by
  cases d with
  | none => exact r
  | some t => exact ⟨r.disj, r.sim, r.env.set t c, r.defers⟩
theorem Rel.call {B0 : Nat} {w0 : World} {F : Heap} {Z Z' : Fro} {φ φ' : Pm} {H H' : Heap} {env : List AV} {a : Act} {w w' : World} (r : Rel B0 w0 F Z φ H env a w) (hZ : Fro.le Z Z') (hφ : Pm.le φ φ')
    (hd : Disj H' F) (hs : Sim Z' φ' B0 w0 (H'.or F) w') (hk : DrawnLe w w') : Rel B0 w0 F Z' φ' H' env a w' := ⟨hd, hs, r.env.mono hZ hφ, r.defers.keep hk⟩
def guardSlot (ops : Array Oper) (j : Nat) : Option Tmp := (ops[j]?).bind (·.dst)
abbrev AV.und : AV := .tup []
theorem und_ok (Z : Fro) (φ : Pm) : Cv Z φ .und undef := .tup [] #[] rfl (fun i av x hi => by simp at hi)
def vcO (P : Program) (tab : Tab) (ops : Array Oper) (Q : List AV → Heap → Prop) : List Oper → List AV → Heap → Prop
  | [], env, H => Q env H
  | o :: rest, env, H =>
    match o.guard with
    | none => opV P tab o.op env H fun v H' => vcO P tab ops Q rest (setD env o.dst v) H'
    | some (j, want) =>
      match guardSlot ops j with
      | some d => match env.getD d .any with
        | .p (.bool b) =>
          (b = want → opV P tab o.op (env.set d (.p (.bool want))) H fun v H' => vcO P tab ops Q rest (setD (env.set d (.p (.bool want))) o.dst v) H') ∧
          (b = (!want) → vcO P tab ops Q rest (setD (env.set d (.p (.bool (!want)))) o.dst .und) H)
        | .tup [] => vcO P tab ops Q rest (setD env o.dst .und) H
        | _ => False
      | none => False
theorem yielded_ok {Z : Fro} {φ : Pm} {env : List AV} {a : Act} (e : EnvRel Z φ env a.tmps) {ops : Array Oper} {j d : Nat} {b : Bool} (hd : guardSlot ops j = some d) (hv : env.getD d .any = .p (.bool b)) :
    yielded ops a.tmps j = some b ∧ a.tmps.getD d undef = .bool b ∧ d < env.length := by
  have hl : d < env.length := by
    rcases Nat.lt_or_ge d env.length with h | h
    · exact h
    · simp [List.getD, List.getElem?_eq_none h] at hv
  have hg : env[d]? = some (.p (.bool b)) := by
    have h1 : env[d]? = some env[d] := List.getElem?_eq_getElem hl
    have : env.getD d .any = env[d] := by simp [List.getD, h1]
    rw [h1, ← this, hv]
  have hl2 : d < a.tmps.size := by rw [e.1]; exact hl
  have h2 : a.tmps[d]? = some a.tmps[d] := Array.getElem?_eq_getElem hl2
  have hc := e.2 d _ _ hg h2
  have hb : a.tmps[d] = .bool b := by
    generalize a.tmps[d] = z at hc
    cases hc with | p h => cases h; rfl
  refine ⟨?_, ?_, hl⟩
  · unfold guardSlot at hd
    simp [yielded, hd, h2, hb]
  · simp [Array.getD_eq_getD_getElem?, h2, hb]
theorem yielded_und {Z : Fro} {φ : Pm} {env : List AV} {a : Act} (e : EnvRel Z φ env a.tmps) {ops : Array Oper} {j d : Nat} (hd : guardSlot ops j = some d) (hv : env.getD d .any = .tup []) :
    yielded ops a.tmps j = none := by
  have hl : d < env.length := by
    rcases Nat.lt_or_ge d env.length with h | h
    · exact h
    · simp [List.getD, List.getElem?_eq_none h] at hv
  have hg : env[d]? = some (.tup []) := by
    have h1 : env[d]? = some env[d] := List.getElem?_eq_getElem hl
    have : env.getD d .any = env[d] := by simp [List.getD, h1]
    rw [h1, ← this, hv]
  have hl2 : d < a.tmps.size := by rw [e.1]; exact hl
  have h2 : a.tmps[d]? = some a.tmps[d] := Array.getElem?_eq_getElem hl2
  have hc := e.2 d _ _ hg h2
  have hb : ∃ xs, a.tmps[d] = .tuple xs := by
    generalize a.tmps[d] = z at hc
    cases hc with | tup _ xs _ _ => exact ⟨xs, rfl⟩
  obtain ⟨xs, hb⟩ := hb
  unfold guardSlot at hd
  simp [yielded, hd, h2, hb]
theorem Rel.lit {B0 : Nat} {w0 : World} {F : Heap} {Z : Fro} {φ : Pm} {H : Heap} {env : List AV} {a : Act} {w : World} (r : Rel B0 w0 F Z φ H env a w) {d : Nat} {b : Bool} (hv : env.getD d .any = .p (.bool b)) :
    Rel B0 w0 F Z φ H (env.set d (.p (.bool b))) a w := by
  have : env.set d (.p (.bool b)) = env := by
    apply List.ext_getElem?
    intro i
    by_cases h : d = i
    · subst h
      rcases Nat.lt_or_ge d env.length with h | h
      · rw [List.getElem?_set_self h]
        have h1 : env[d]? = some env[d] := List.getElem?_eq_getElem h
        have : env.getD d .any = env[d] := by simp [List.getD, h1]
        rw [h1, ← this, hv]
      · rw [List.getElem?_eq_none (by simpa using h), List.getElem?_eq_none h]
    · rw [List.getElem?_set_ne h]
  rw [this]; exact r
theorem Sim.rebase {Z : Fro} {φ : Pm} {B0 : Nat} {w0 w : World} {H : Heap} (s : Sim Z φ B0 w0 H w) : Sim Z φ B0 w H w := ⟨s.b0, Bel.refl _ _, s.bnd, s.live, s.disj, s.froz, s.zsep⟩
theorem Sim.unbase {Z Z' : Fro} {φ φ' : Pm} {B0 : Nat} {w0 w w' : World} {H H' : Heap} (s : Sim Z φ B0 w0 H w) (s' : Sim Z' φ' B0 w H' w') : Sim Z' φ' B0 w0 H' w' := ⟨s'.b0, s.below.trans s'.below, s'.bnd, s'.live, s'.disj, s'.froz, s'.zsep⟩
theorem put_eq {a a0 : Act} {d : Option Tmp} {v x : Value} (ht : a.tmps = a0.tmps) (h : a0.put d v = a0.put d x) : a.put d v = a.put d x := by
  cases d with
  | none => rfl
  | some t =>
    have := congrArg Act.tmps h
    simp only [Act.put] at this ⊢
    rw [ht, this]
theorem put_defers (a : Act) (d : Option Tmp) (v : Value) : (a.put d v).defers = a.defers := by cases d <;> rfl
theorem op_okD {P : Program} {tab : Tab} (hT : tab.Ok P) {B0 : Nat} {w0 : World} {F : Heap} {Z : Fro} {φ : Pm} {H : Heap} {env : List AV} {a : Act} {w : World} (r : Rel B0 w0 F Z φ H env a w)
    {o : Oper} {K : AV → Heap → Prop} (h : opV P tab o.op env H K) {next : Act → World → Prop} {Q : Exit → Act → World → Prop} (cont : ∀ x w', UpV B0 w0 F Z φ K x w' → DrawnLe w w' → next (a.put o.dst x) w') : o.wp P a w next Q := by
  have r0 : Rel B0 w F Z φ H env { tmps := a.tmps, defers := [] } w := ⟨r.disj, r.sim.rebase, r.env, DefOk.nil _ _⟩
  have up : ∀ x w', UpV B0 w F Z φ K x w' → UpV B0 w0 F Z φ K x w' ∧ DrawnLe w w' := fun x w' ⟨v, H1, Z1, φ1, k, hz, hp, hd, hs, hc⟩ => ⟨⟨v, H1, Z1, φ1, k, hz, hp, hd, r.sim.unbase hs, hc⟩, hs.below.drawn⟩
  have h0 := op_ok hT r0 h (o := o) (next := fun a' w' => ∃ x, a' = ({ tmps := a.tmps, defers := [] } : Act).put o.dst x ∧ UpV B0 w F Z φ K x w') (Q := fun _ _ _ => False) (fun x w' hu => ⟨x, rfl, hu⟩)
  have fin : ∀ v w', (∃ x, ({ tmps := a.tmps, defers := [] } : Act).put o.dst v = ({ tmps := a.tmps, defers := [] } : Act).put o.dst x ∧ UpV B0 w F Z φ K x w') → next (a.put o.dst v) w' := fun v w' ⟨x, e, hu⟩ => by
    rw [put_eq (a := a) (a0 := { tmps := a.tmps, defers := [] }) rfl e]
    exact cont x w' (up x w' hu).1 (up x w' hu).2
  unfold Oper.wp at h0 ⊢
  have hev : ({ tmps := a.tmps, defers := [] } : Act).eval = a.eval := rfl
  rw [hev] at h0
  revert h0
  generalize (execOp a.eval o).run P w = res
  intro h0
  have hno : ¬ LetsOut (fun (_ : Exit) (_ : Act) (_ : World) => False) := fun ⟨_, _, h⟩ => h
  match res, h0 with
  | .ok (.value v) w', h0 => exact fin v w' h0
  | .ok .skip w', h0 => exact fin undef w' h0
  | .ok (.defer d) w', ⟨x, e, _⟩ =>
    have := congrArg Act.defers e
    rw [put_defers, put_defers] at this
    cases this
  | .ok (.enter f args) w', h0 =>
    refine Calls.mono (R := _) h0 ?_
    intro e w'' he
    cases e with
    | returned v => exact fin v w'' he
    | panicked c => exact he.elim
    | outgrown => exact absurd he hno
  | .ok (.row row args) w', h0 => exact Rows.mono (R := _) h0 fun v w'' hv => fin v w'' hv
  | .halt (.panic v) w', h0 => exact h0.elim
theorem upon_mono {P : Program} {o : Oper} {a : Act} {next next' : Act → World → Prop} {Q Q' : Exit → Act → World → Prop} (hn : ∀ a w, next a w → next' a w) (hQ : ∀ e a w, Q e a w → Q' e a w) :
    ∀ (r : Result Next), o.upon P a next Q r → o.upon P a next' Q' r := by
  intro r h
  have hl : LetsOut Q → LetsOut Q' := fun ⟨a, w, h⟩ => ⟨a, w, hQ _ _ _ h⟩
  match r, h with
  | .ok (.value v) w', h => exact hn _ _ h
  | .ok .skip w', h => exact hn _ _ h
  | .ok (.defer d) w', h => exact hn _ _ h
  | .ok (.enter f args) w', h =>
    refine Calls.mono (R := _) h ?_
    intro e w'' he
    cases e with
    | returned v => exact hn _ _ he
    | panicked c => exact hQ _ _ _ he
    | outgrown => exact hl he
  | .ok (.row row args) w', h => exact Rows.mono (R := _) h fun v w'' hv => hn _ _ hv
  | .halt (.panic v) w', h => exact hQ _ _ _ h
theorem wpOps_mono' {P : Program} {ops : Array Oper} {R R' : Exit → Act → World → Prop} (hR : ∀ e a w, R e a w → R' e a w) : ∀ (is : List Nat) (a : Act) (w : World), wpOps P ops R is a w → wpOps P ops R' is a w := by
  intro is
  induction is with
  | nil => intro a w h; exact hR _ _ _ h
  | cons i is ih =>
    intro a w h
    simp only [wpOps] at h ⊢
    split
    · rename_i hi
      simp only [hi] at h
      exact ih a w h
    · rename_i o hi
      simp only [hi] at h
      split
      · rename_i hw
        rw [if_pos hw] at h
        rcases h with h | ⟨h1, a₀, w₀, h2⟩
        · exact .inl (upon_mono ih hR _ h)
        · exact .inr ⟨h1, a₀, w₀, hR _ _ _ h2⟩
      · rename_i hw
        rw [if_neg hw] at h
        exact ih _ w h
theorem vcO_ok {P : Program} {tab : Tab} (hT : tab.Ok P) {B0 : Nat} {w0 : World} {F : Heap} {ops : Array Oper} {Q : List AV → Heap → Prop} :
    ∀ (l : List Oper) (is : List Nat), is.map (fun i => ops[i]?) = l.map some → ∀ {Z : Fro} {φ : Pm} {H : Heap} {env : List AV} {a : Act} {w : World}, Rel B0 w0 F Z φ H env a w → vcO P tab ops Q l env H →
      wpOps P ops (fun e a' w' => Up B0 w0 F Z φ (fun env' H' => e = .normal ∧ Q env' H') a' w') is a w := by
  intro l
  induction l with
  | nil =>
    intro is his Z φ H env a w r h
    cases is with
    | nil => exact ⟨env, H, Z, φ, ⟨rfl, h⟩, Fro.le_refl _, Pm.le_refl _, r⟩
    | cons i is => simp at his
  | cons o l ih =>
    intro is his Z φ H env a w r h
    cases is with
    | nil => simp at his
    | cons i is =>
      simp only [List.map_cons, List.cons.injEq] at his
      obtain ⟨hi, his⟩ := his
      have lift : ∀ {Z' : Fro} {φ' : Pm} {e : Exit} {a' : Act} {w' : World}, Fro.le Z Z' → Pm.le φ φ' → Up B0 w0 F Z' φ' (fun env' H' => e = .normal ∧ Q env' H') a' w' → Up B0 w0 F Z φ (fun env' H' => e = .normal ∧ Q env' H') a' w' := by
        rintro Z' φ' e a' w' hz hp ⟨env2, H2, Z2, φ2, t, hz2, hp2, r2⟩
        exact ⟨env2, H2, Z2, φ2, t, Fro.le_trans hz hz2, Pm.le_trans hp hp2, r2⟩
      have mono : ∀ {is : List Nat} {a : Act} {w : World} {R R' : Exit → Act → World → Prop}, (∀ e a w, R e a w → R' e a w) → wpOps P ops R is a w → wpOps P ops R' is a w := by
        intro is a w R R' hR
        exact wpOps_mono' hR is a w
      have step : ∀ {env' : List AV}, Rel B0 w0 F Z φ H env' a w → opV P tab o.op env' H (fun v H' => vcO P tab ops Q l (setD env' o.dst v) H') →
          o.wp P a w (wpOps P ops (fun e a' w' => Up B0 w0 F Z φ (fun env' H' => e = .normal ∧ Q env' H') a' w') is) (fun e a' w' => Up B0 w0 F Z φ (fun env' H' => e = .normal ∧ Q env' H') a' w') := by
        intro env' r' hop
        refine op_okD hT r' hop ?_
        rintro x w' ⟨v, H', Z', φ', hK, hz, hp, hd, hs, hc⟩ hk
        exact mono (fun e a w => lift hz hp) (ih is his ((r'.call hz hp hd hs hk).put o.dst hc) hK)
      simp only [wpOps, hi]
      unfold vcO at h
      split at h
      · rename_i hg
        have hw : Region.wanted o (yielded ops a.tmps) = true := by simp [Region.wanted, hg]
        rw [if_pos hw]
        exact .inl (step r h)
      · rename_i j want hg
        split at h
        case h_2 => exact h.elim
        rename_i d hd
        split at h
        case h_3 => exact h.elim
        case h_2 =>
          rename_i hv
          have hy := yielded_und r.env hd hv
          have hw : Region.wanted o (yielded ops a.tmps) = false := by simp [Region.wanted, hg, hy]
          rw [if_neg (by simp [hw])]
          exact ih is his (r.put o.dst (und_ok Z φ)) h
        rename_i b hv
        obtain ⟨hy, _, _⟩ := yielded_ok r.env hd hv
        by_cases hb : b = want
        · have hw : Region.wanted o (yielded ops a.tmps) = true := by simp [Region.wanted, hg, hy, hb]
          rw [if_pos hw]
          subst hb
          exact .inl (step (r.lit hv) (h.1 rfl))
        · have hw : Region.wanted o (yielded ops a.tmps) = false := by simp [Region.wanted, hg, hy, hb]
          rw [if_neg (by simp [hw])]
          have hb' : b = (!want) := by cases b <;> cases want <;> simp_all
          have hv' := hv
          rw [hb'] at hv'
          exact ih is his ((r.lit hv').put o.dst (und_ok Z φ)) (h.2 hb')
theorem CT.region {P : Program} {tab : Tab} (hT : tab.Ok P) {id : Nat} {ops : Array Oper} {Q : Post} {env : List AV} {H : Heap} (h : vcO P tab ops (Q .normal) ops.toList env H) : CT P (.region id ops false) Q env H := by
  intro B0 w0 F Z φ a w r
  refine wp_region (wpOps_mono' ?_ _ a w (vcO_ok hT ops.toList (List.range ops.size) ?_ r h))
  · rintro e a' w' ⟨env', H', Z', φ', ⟨rfl, hq⟩, rest⟩
    exact ⟨env', H', Z', φ', hq, rest⟩
  · apply List.ext_getElem?
    intro i
    simp only [List.getElem?_map]
    by_cases hi : i < ops.size
    · rw [List.getElem?_range hi]
      simp [hi]
    · rw [List.getElem?_eq_none (by simpa using hi), List.getElem?_eq_none (by simpa using hi)]; rfl
end Go.Sep
namespace Go.Sep
open Go Go.RowKit
theorem TD.Ok.of {P : Program} {t : Nat} {d : TD} {z : Value} (k : d.k.ok P t) (hi : (P.info? t).map (fun i => (i.zero, i.size, i.bytes)) = some (some z, d.size, d.bytes)) (hz : z.cells.toList.map constA = d.zero)
    (zlen : d.zero.length = d.size) (pos : 0 < d.size) (one : d.k.agg = false → d.size = 1) : TD.Ok P t d := by
  refine ⟨k, ?_, zlen, pos, one⟩
  cases h : P.info? t with
  | none => rw [h] at hi; cases hi
  | some i =>
    rw [h] at hi
    simp only [Option.map_some, Option.some.injEq, Prod.mk.injEq] at hi
    exact ⟨i, z, rfl, hi.2.1, hi.2.2, hi.1, hz⟩
theorem Tab.Ok.of_list {P : Program} {l : List (Nat × TD)} (h : ∀ p ∈ l, TD.Ok P p.1 p.2) : Tab.Ok P (fun t => (l.find? (fun p => p.1 == t)).map (·.2)) := by
  intro t d hd
  dsimp only at hd
  cases hf : l.find? (fun p => p.1 == t) with
  | none => rw [hf] at hd; cases hd
  | some p =>
    rw [hf] at hd
    cases hd
    have h1 := List.mem_of_find?_eq_some hf
    have h2 := List.find?_some hf
    have h3 : p.1 = t := by simpa using h2
    rw [← h3]; exact h p h1
def resV (tab : Tab) (rs : List ResultVar) (env : List AV) (H : Heap) (K : List AV → Prop) : Prop :=
  match rs with
  | [] => K []
  | .tmp t :: rs => resV tab rs env H fun vs => K (env.getD t .any :: vs)
  | .cell a t :: rs => loadV tab t (env.getD a .any) H fun v => resV tab rs env H fun vs => K (v :: vs)
def tupA : List AV → AV
  | [v] => v
  | vs => .tup vs
theorem resV_ok {P : Program} {tab : Tab} (hT : tab.Ok P) {Z : Fro} {φ : Pm} {B0 : Nat} {w0 w : World} {H F : Heap} (s : Sim Z φ B0 w0 (H.or F) w) {env : List AV} {a : Act} (e : EnvRel Z φ env a.tmps) :
    ∀ (rs : List ResultVar) {K : List AV → Prop}, resV tab rs env H K → ∃ vs xs, K vs ∧ RelL Z φ vs xs ∧
      (rs.mapM fun | .tmp t => pure (a.tmps.getD t undef) | .cell p t => do loadVar t (← asAddr (a.tmps.getD p undef)) : Sem (List Value)).run P w = .ok xs w := by
  have slot : ∀ t, Cv Z φ (env.getD t .any) (a.tmps.getD t undef) := fun t => ev_ok e (.tmp t)
  intro rs
  induction rs with
  | nil => intro K h; exact ⟨[], [], h, RelL.nil _ _, rfl⟩
  | cons q rs ih =>
    intro K h
    have one : ∀ {v : AV} {x : Value} {vs : List AV} {xs : List Value}, Cv Z φ v x → RelL Z φ vs xs → RelL Z φ (v :: vs) (x :: xs) := by
      intro v x vs xs hc hr
      refine ⟨by simp [hr.1], ?_⟩
      intro i av y hi hy
      cases i with
      | zero => simp at hi hy; subst hi; subst hy; exact hc
      | succ i => simp at hi hy; exact hr.2 i av y hi hy
    cases q with
    | tmp t =>
      obtain ⟨vs, xs, hK, hr, hrun⟩ := ih h
      refine ⟨_, _ :: xs, hK, one (slot t) hr, ?_⟩
      simp only [List.mapM_cons, Sem.run_bind, Sem.run_pure, Result.andThen_ok, hrun]
    | cell p t =>
      obtain ⟨v, y, hK, hc, hl⟩ := loadV_ok hT s (slot p) h
      obtain ⟨vs, xs, hK, hr, hrun⟩ := ih hK
      refine ⟨_, y :: xs, hK, one hc hr, ?_⟩
      have hl2 : (do loadVar t (← asAddr (a.tmps.getD p undef)) : Sem Value).run P w = .ok y w := by
        generalize a.tmps.getD p undef = z at hl
        unfold Instr.loadAt at hl
        cases z with
        | pointer o =>
          cases o with
          | some ad => simpa [Instr.sureAddr, asAddr] using hl
          | none => simp [Instr.sureAddr] at hl
        | _ => simp [Instr.sureAddr] at hl
      rw [List.mapM_cons]
      rw [Sem.run_bind]
      have hl3 : ((match ResultVar.cell p t with | .tmp t => pure (a.tmps.getD t undef) | .cell p t => do loadVar t (← asAddr (a.tmps.getD p undef)) : Sem Value)).run P w = .ok y w := hl2
      rw [hl3]
      simp only [Result.andThen_ok, Sem.run_bind, hrun, Sem.run_pure]
def retQ (tab : Tab) (rs : List ResultVar) (K : AV → Heap → Prop) : Post
  | .normal, env, H => resV tab rs env H fun vs => K (tupA vs) H
  | .ret, env, H => resV tab rs env H fun vs => K (tupA vs) H
  | _, _, _ => False
theorem retQ_ok {P : Program} {tab : Tab} (hT : tab.Ok P) {fn : Func} {Z : Fro} {φ : Pm} {B0 : Nat} {w0 w : World} {H F : Heap} (s : Sim Z φ B0 w0 (H.or F) w) {env : List AV} {a : Act} (e : EnvRel Z φ env a.tmps)
    {K : AV → Prop} (h : resV tab fn.results.toList env H fun vs => K (tupA vs)) : ∃ v x, K v ∧ Cv Z φ v x ∧ (results fn a.tmps).run P w = .ok x w := by
  obtain ⟨vs, xs, hK, hr, hrun⟩ := resV_ok hT s e fn.results.toList h
  have hm : (fn.results.mapM fun | .tmp t => pure (a.tmps.getD t undef) | .cell p t => do loadVar t (← asAddr (a.tmps.getD p undef)) : Sem (Array Value)).run P w = .ok xs.toArray w := by
    rw [Array.mapM_eq_mapM_toList, Sem.run_map, hrun]; rfl
  have hres : (results fn a.tmps).run P w = .ok (if h : xs.toArray.size = 1 then xs.toArray[0] else .tuple xs.toArray) w := by
    unfold results
    rw [Sem.run_bind]
    refine Eq.trans (congrArg (fun r => Result.andThen r _) hm) ?_
    simp only [Result.andThen_ok, Sem.run_pure]
  match vs, xs, hr.1, hr, hK, hres with
  | [v], [x], _, hr, hK, hres => exact ⟨v, x, hK, hr.2 0 v x rfl rfl, by rw [hres]; rfl⟩
  | [], [], _, hr, hK, hres => exact ⟨_, .tuple #[], hK, .tup [] #[] rfl (fun i av x h => by simp at h), by rw [hres]; rfl⟩
  | v :: v' :: vs, x :: x' :: xs, hl, hr, hK, hres =>
    refine ⟨_, .tuple (x :: x' :: xs).toArray, hK, .tup _ _ (by simpa using hl) (fun i av y hi hy => hr.2 i av y hi (by simpa using hy)), ?_⟩
    rw [hres]
    simp
theorem Sim.shut {Z : Fro} {φ : Pm} {B0 : Nat} {w0 W : World} {H : Heap} (s : Sim Z φ B0 w0 H W) (hB : B0 ≤ w0.heap.size) {D : Nat} (h1 : w0.heap.size ≤ D) {o : Obj} (h2 : W.heap[D]? = some o) (ho : o.isCells = false) (o' : Obj) : Sim Z φ B0 w0 H (W.putObj D o') := by
  have hoth : ∀ k, k ≠ D → (W.putObj D o').heap[k]? = W.heap[k]? := fun k hk => World.putObj_heap_other hk
  have hsz : (W.putObj D o').heap.size = W.heap.size := by simp
  refine ⟨by rw [hsz]; exact s.b0, ⟨⟨s.below.os, s.below.tape, s.below.output, by rw [hsz]; exact s.below.size, fun k hk => by rw [hoth k (by omega)]; exact s.below.block k hk⟩, fun k ok hk hc => ?_⟩, s.bnd, fun r blk hr => ?_, s.disj, fun b i v hz => ?_, s.zsep⟩
  · have : k < w0.heap.size := (Array.getElem?_eq_some_iff.1 hk).1
    rw [hoth k (by omega)]; exact s.below.drawn k ok hk hc
  · obtain ⟨pl, hp, hl⟩ := s.live r blk hr
    refine ⟨pl, hp, ?_⟩
    rcases hl with hl | ⟨cur, e, k1, k2⟩
    · exact .inl hl
    · refine .inr ⟨cur, e, ?_, k2⟩
      have : pl.b ≠ D := fun e1 => by rw [e1, h2] at k1; cases k1; cases ho
      rw [hoth _ this]; exact k1
  · have h := s.froz b i v hz
    have : b ≠ D := fun e1 => by
      unfold World.cell? at h
      simp only [e1, h2] at h
      cases o <;> simp [Obj.isCells] at ho h
    unfold World.cell? at h ⊢
    simp only at h ⊢
    rw [hoth b this]; exact h
theorem CallT.of_body {P : Program} {tab : Tab} (hT : tab.Ok P) {f : Nat} {fn : Func} {c : Code} (hf : P.funcs[f]? = some fn) (hb : fn.body = some c) (hn : (fn.name == "runtime.NumGoroutine") = false)
    {args : List AV} {H : Heap} {K : AV → Heap → Prop} (h : CT P c (retQ tab fn.results.toList K) (args ++ List.replicate (fn.ntmps - args.length) .any) H) : CallT P f args H K := by
  refine ⟨⟨fn, c, hf, hb, hn⟩, ?_⟩
  intro B0 w0 F Z φ w xs hd hs ha
  refine (callsIn_wide (n := 3)).1 (callsIn_of_wp_marks hf hb trivial (wpIn_wide.2 ?_))
  have r : Rel B0 w F Z φ H (args ++ List.replicate (fn.ntmps - args.length) .any) { tmps := xs ++ Array.replicate (fn.ntmps - xs.size) undef, defers := [] } w := by
    refine ⟨hd, hs.rebase, ⟨by simp [ha.1], ?_⟩, DefOk.nil _ _⟩
    intro i av x hi hx
    by_cases hl : i < args.length
    · rw [List.getElem?_append_left hl] at hi
      rw [Array.getElem?_append_left (by rw [ha.1]; exact hl)] at hx
      exact ha.2 i av x hi hx
    · rw [List.getElem?_append_right (by omega), List.getElem?_replicate] at hi
      split at hi
      · cases hi; exact .any x
      · cases hi
  refine wp_mono (h B0 w F Z φ _ w r) ?_
  rintro e a' w' ⟨env', H', Z', φ', hq, hz, hp, r'⟩
  have fin : ∀ (Q' : Prop), (resV tab fn.results.toList env' H' fun vs => K (tupA vs) H') → bodyPostM Fence.wide 3 P fn (fun e w' => ∃ x, e = .returned x ∧ UpV B0 w0 F Z φ K x w') .ret a' w' := by
    intro _ hq
    obtain ⟨Ds, e1, hnd, hop⟩ := r'.defers
    show LeavesInM Fence.wide 3 P fn a'.tmps _ a'.defers .returning w'
    rw [e1]
    have hB : B0 ≤ w.heap.size := hs.b0
    have key : ∀ (Ds : List Nat) (W : World), Ds.Nodup → (∀ D ∈ Ds, w.heap.size ≤ D ∧ W.heap[D]? = some (.deferred (some []))) → Sim Z' φ' B0 w (H'.or F) W → LeavesInM Fence.wide 3 P fn a'.tmps (fun e w' => ∃ x, e = .returned x ∧ UpV B0 w0 F Z φ K x w') (Ds.map mark) .returning W := by
      intro Ds
      induction Ds with
      | nil =>
        intro W _ _ s
        obtain ⟨v, x, hK, hc, hrun⟩ := retQ_ok (K := fun v => K v H') hT s r'.env hq
        exact ⟨x, hrun, x, rfl, v, H', Z', φ', hK, hz, hp, r'.disj, hs.unbase s, hc⟩
      | cons D Ds ih =>
        intro W hnd hop s
        rw [List.nodup_cons] at hnd
        obtain ⟨h1, h2⟩ := hop D (List.mem_cons_self ..)
        refine ⟨(by intro h; cases h), .inl ⟨D, _, rfl, run_takeDeferred h2, ih _ hnd.2 (fun D' hD' => ⟨(hop D' (List.mem_cons_of_mem _ hD')).1, ?_⟩) (s.shut hB h1 h2 rfl _)⟩⟩
        have hne : D' ≠ D := fun e => hnd.1 (e ▸ hD')
        rw [World.putObj_heap_other hne]
        exact (hop D' (List.mem_cons_of_mem _ hD')).2
    exact key Ds w' hnd hop r'.sim
  have fin := fun hq => fin True hq
  cases e with
  | normal => exact fin hq
  | ret => exact fin hq
  | _ => exact hq.elim
end Go.Sep
namespace Go.Sep
open Go Go.RowKit
inductive XOp where
  | run (d : Option Nat) (o : Op)
  | guarded (g : Nat) (want : Bool) (d : Option Nat) (o : Op)
  | bad
def xop (ops : Array Oper) (o : Oper) : XOp :=
  match o.guard with
  | none => .run o.dst o.op
  | some (j, want) => match guardSlot ops j with
    | some g => .guarded g want o.dst o.op
    | none => .bad
def gd (b want : Bool) (A B : Prop) : Prop := (b = want → A) ∧ (b = (!want) → B)
theorem gd_tt {A B : Prop} : gd true true A B = A := by simp [gd]
theorem gd_ff {A B : Prop} : gd false false A B = A := by simp [gd]
theorem gd.of {b want : Bool} {A B : Prop} (h : b = want → A) (k : b = (!want) → B) : gd b want A B := ⟨h, k⟩
def vcX (P : Program) (tab : Tab) (Q : List AV → Heap → Prop) : List XOp → List AV → Heap → Prop
  | [], env, H => Q env H
  | .run d o :: rest, env, H => opV P tab o env H fun v H' => vcX P tab Q rest (setD env d v) H'
  | .guarded g want d o :: rest, env, H =>
    match env.getD g .any with
    | .p (.bool b) =>
      gd b want (opV P tab o (env.set g (.p (.bool want))) H fun v H' => vcX P tab Q rest (setD (env.set g (.p (.bool want))) d v) H')
        (vcX P tab Q rest (setD (env.set g (.p (.bool (!want)))) d .und) H)
    | .tup [] => vcX P tab Q rest (setD env d .und) H
    | _ => False
  | .bad :: _, _, _ => False
theorem vcX_vcO {P : Program} {tab : Tab} {ops : Array Oper} {Q : List AV → Heap → Prop} : ∀ (l : List Oper) (env : List AV) (H : Heap), vcX P tab Q (l.map (xop ops)) env H → vcO P tab ops Q l env H := by
  intro l env H h
  have key : ∀ (l : List Oper), (fun env H => vcX P tab Q (l.map (xop ops)) env H) = fun env H => vcO P tab ops Q l env H := by
    intro l
    induction l with
    | nil => rfl
    | cons o l ih =>
      funext env H
      have ih' : ∀ env H, vcX P tab Q (l.map (xop ops)) env H = vcO P tab ops Q l env H := fun env H => congrFun (congrFun ih env) H
      simp only [List.map_cons, vcO]
      cases hg : o.guard with
      | none => simp only [xop, hg, vcX, ih']
      | some p =>
        obtain ⟨j, want⟩ := p
        cases hs : guardSlot ops j with
        | none => simp only [xop, hg, hs, vcX]
        | some g => simp only [xop, hg, hs, vcX, ih', gd] <;> rfl
  have := congrFun (congrFun (key l) env) H
  exact this ▸ h
theorem CT.regX {P : Program} {tab : Tab} (hT : tab.Ok P) {id : Nat} {ops : Array Oper} {Q : Post} {env : List AV} {H : Heap} {l : List XOp} (hl : ops.toList.map (xop ops) = l)
    (h : vcX P tab (Q .normal) l env H) : CT P (.region id ops false) Q env H :=
  CT.region hT (vcX_vcO _ _ _ (by rw [hl]; exact h))
inductive XC where
  | skip
  | reg (l : List XOp)
  | draw (l : List (XOp × List Nat))
  | seq (a b : XC)
  | cond (c : Operand) (a b : XC)
  | block (id : Nat) (a : XC)
  | loop (a : XC)
  | exit (id : Nat)
  | ret
  | bad
def edgesOf (o : Oper) : List Nat := (o.after.toList.filter fun e => Region.binds .any e).map (·.on)
def compile : Code → XC
  | .skip => .skip
  | .region _ ops false => .reg (ops.toList.map (xop ops))
  | .region _ ops true => .draw (ops.toList.map fun o => (xop ops o, edgesOf o))
  | .seq a b => .seq (compile a) (compile b)
  | .cond c a b => .cond c (compile a) (compile b)
  | .block id a => .block id (compile a)
  | .loop a => .loop (compile a)
  | .exit id => .exit id
  | .ret => .ret
  | _ => .bad
def CX (P : Program) (x : XC) (Q : Post) (env : List AV) (H : Heap) : Prop := ∀ c, compile c = x → CT P c Q env H
section
variable {P : Program} {tab : Tab} {Q : Post} {env : List AV} {H : Heap}
theorem compile_skip {c : Code} (h : compile c = .skip) : c = .skip := by
  unfold compile at h; split at h <;> first | rfl | cases h
theorem compile_ret {c : Code} (h : compile c = .ret) : c = .ret := by
  unfold compile at h; split at h <;> first | rfl | cases h
theorem compile_exit {c : Code} {i : Nat} (h : compile c = .exit i) : c = .exit i := by
  unfold compile at h; split at h <;> cases h; rfl
theorem compile_seq {c : Code} {x y : XC} (h : compile c = .seq x y) : ∃ a b, c = .seq a b ∧ compile a = x ∧ compile b = y := by
  unfold compile at h; split at h <;> cases h; exact ⟨_, _, rfl, rfl, rfl⟩
theorem compile_cond {c : Code} {o : Operand} {x y : XC} (h : compile c = .cond o x y) : ∃ a b, c = .cond o a b ∧ compile a = x ∧ compile b = y := by
  unfold compile at h; split at h <;> cases h; exact ⟨_, _, rfl, rfl, rfl⟩
theorem compile_block {c : Code} {i : Nat} {x : XC} (h : compile c = .block i x) : ∃ a, c = .block i a ∧ compile a = x := by
  unfold compile at h; split at h <;> cases h; exact ⟨_, rfl, rfl⟩
theorem compile_loop {c : Code} {x : XC} (h : compile c = .loop x) : ∃ a, c = .loop a ∧ compile a = x := by
  unfold compile at h; split at h <;> cases h; exact ⟨_, rfl, rfl⟩
theorem compile_reg {c : Code} {l : List XOp} (h : compile c = .reg l) : ∃ id ops, c = .region id ops false ∧ ops.toList.map (xop ops) = l := by
  unfold compile at h; split at h <;> cases h; exact ⟨_, _, rfl, rfl⟩
theorem compile_draw {c : Code} {l : List (XOp × List Nat)} (h : compile c = .draw l) : ∃ id ops, c = .region id ops true ∧ (ops.toList.map fun o => (xop ops o, edgesOf o)) = l := by
  unfold compile at h; split at h <;> cases h; exact ⟨_, _, rfl, rfl⟩
theorem CX.mono {x : XC} {Q' : Post} (h : CX P x Q env H) (k : ∀ e env' H', Q e env' H' → Q' e env' H') : CX P x Q' env H := fun c hc => (h c hc).mono k
theorem CX.skip (h : Q .normal env H) : CX P .skip Q env H := by
  intro c hc; obtain rfl := compile_skip hc; exact CT.skip h
theorem CX.ret (h : Q .ret env H) : CX P .ret Q env H := by
  intro c hc; obtain rfl := compile_ret hc; exact CT.ret h
theorem CX.exit {i : Nat} (h : Q (.exit i) env H) : CX P (.exit i) Q env H := by
  intro c hc; obtain rfl := compile_exit hc; exact CT.exit h
def Post.thenX (P : Program) (y : XC) (Q : Post) : Post
  | .normal, env, H => CX P y Q env H
  | e, env, H => Q e env H
theorem CX.seq {x y : XC} (h : CX P x (Post.thenX P y Q) env H) : CX P (.seq x y) Q env H := by
  intro c hc
  obtain ⟨a, b, rfl, ha, hb⟩ := compile_seq hc
  refine CT.seq ((h a ha).mono ?_)
  intro e env' H' hq
  cases e <;> first | exact hq b hb | exact hq
theorem CX.cond {c : Operand} {x y : XC} {b : Bool} (hc : ev env c = .p (.bool b)) (ht : b = true → CX P x Q env H) (hf : b = false → CX P y Q env H) : CX P (.cond c x y) Q env H := by
  intro c' hc'
  obtain ⟨a, d, rfl, ha, hd⟩ := compile_cond hc'
  exact CT.cond hc (fun e => ht e _ ha) (fun e => hf e _ hd)
theorem CX.block {id : Nat} {x : XC} (h : CX P x (Post.block id Q) env H) : CX P (.block id x) Q env H := by
  intro c hc
  obtain ⟨a, rfl, ha⟩ := compile_block hc
  exact CT.block (h _ ha)
theorem CX.loop {x : XC} {σ : Type} (I : σ → List AV → Heap → Prop) (μ : σ → Nat) (s0 : σ) (h0 : I s0 env H)
    (round : ∀ s env H, I s env H → CX P x (fun e env' H' => match e with
      | .normal => ∃ s', I s' env' H' ∧ μ s' < μ s
      | e => Q e env' H') env H) : CX P (.loop x) Q env H := by
  intro c hc
  obtain ⟨a, rfl, ha⟩ := compile_loop hc
  exact CT.loop I μ s0 h0 fun s env H hI => round s env H hI _ ha
theorem CX.reg (hT : tab.Ok P) {l : List XOp} (h : vcX P tab (Q .normal) l env H) : CX P (.reg l) Q env H := by
  intro c hc
  obtain ⟨id, ops, rfl, hl⟩ := compile_reg hc
  exact CT.regX hT hl h
theorem CX.weak {x : XC} {env' : List AV} {H' : Heap} (hl : env'.length = env.length)
    (he : ∀ (i : Nat) (v v' : AV), env[i]? = some v → env'[i]? = some v' → AV.wk v v') (hH : Heap.le H' H) (h : CX P x Q env' H') : CX P x Q env H :=
  fun c hc => CT.weak hl he hH (h c hc)
end
end Go.Sep
namespace Go.Sep
open Go Go.RowKit
def XOp.dst : XOp → List Nat
  | .run (some d) _ => [d]
  | .guarded g _ (some d) _ => [g, d]
  | .guarded g _ none _ => [g]
  | _ => []
def writes : XC → List Nat
  | .reg l => l.flatMap XOp.dst
  | .draw l => l.flatMap fun p => p.1.dst
  | .seq a b => writes a ++ writes b
  | .cond _ a b => writes a ++ writes b
  | .block _ a => writes a
  | .loop a => writes a
  | _ => []
def wkE : List AV → List AV → Prop
  | [], [] => True
  | v :: e, v' :: e' => AV.wk v v' ∧ wkE e e'
  | _, _ => False
def wkL : List AV → List AV → Prop
  | [], [] => True
  | v :: e, v' :: e' => AV.wk v v' ∧ wkL e e'
  | _, _ => False
theorem wkL_ok : ∀ {env env' : List AV}, wkL env env' → env.length = env'.length ∧ ∀ (i : Nat) (v v' : AV), env[i]? = some v → env'[i]? = some v' → AV.wk v v'
  | [], [], _ => ⟨rfl, fun i v v' h => by simp at h⟩
  | v :: e, v' :: e', h => by
    obtain ⟨h1, h2⟩ := h
    obtain ⟨l, k⟩ := wkL_ok h2
    refine ⟨by simp [l], ?_⟩
    intro i u u' hu hu'
    cases i with
    | zero => simp at hu hu'; subst hu; subst hu'; exact h1
    | succ i => simp at hu hu'; exact k i u u' hu hu'
  | [], _ :: _, h => h.elim
  | _ :: _, [], h => h.elim
theorem wk_tup {vs vs' : List AV} (h : wkL vs vs') : AV.wk (.tup vs) (.tup vs') := .tup _ _ (wkL_ok h).1 (wkL_ok h).2
theorem wkE_ok : ∀ {env env' : List AV}, wkE env env' → env'.length = env.length ∧ ∀ (i : Nat) (v v' : AV), env[i]? = some v → env'[i]? = some v' → AV.wk v v'
  | [], [], _ => ⟨rfl, fun i v v' h => by simp at h⟩
  | v :: e, v' :: e', h => by
    obtain ⟨h1, h2⟩ := h
    obtain ⟨l, k⟩ := wkE_ok h2
    refine ⟨by simp [l], ?_⟩
    intro i u u' hu hu'
    cases i with
    | zero => simp at hu hu'; subst hu; subst hu'; exact h1
    | succ i => simp at hu hu'; exact k i u u' hu hu'
  | [], _ :: _, h => h.elim
  | _ :: _, [], h => h.elim
end Go.Sep
namespace Go.Sep
open Go Go.RowKit
theorem CallT.wk {P : Program} {f : Nat} {args : List AV} {H : Heap} {Q Q' : AV → Heap → Prop} (h : CallT P f args H Q) (k : ∀ v H1, Q v H1 → ∃ v' H2, Wk v H1 v' H2 ∧ Q' v' H2) : CallT P f args H Q' := by
  refine ⟨h.1, ?_⟩
  intro B0 w0 F Z φ w xs hd hs ha
  refine (h.2 B0 w0 F Z φ w xs hd hs ha).mono ?_
  rintro e w' ⟨x, rfl, v, H1, Z1, φ1, hq, h1, h2, h3, h4, h5⟩
  obtain ⟨v', H2, hw, hq'⟩ := k v H1 hq
  obtain ⟨Z2, φ2, b1, b2, b3, b4, b5⟩ := UpV.wk hw h3 h4 h5
  exact ⟨x, rfl, v', H2, Z2, φ2, hq', Fro.le_trans h1 b1, Pm.le_trans h2 b2, b3, b4, b5⟩
theorem CallT.le {P : Program} {f : Nat} {args : List AV} {H : Heap} {Q : AV → Prop} (h : CallT P f args H (fun v H' => Q v ∧ Heap.le H H')) : CallT P f args H (fun v H' => Q v ∧ H' = H) :=
  h.wk fun v _ ⟨hq, hl⟩ => ⟨v, H, .forget hl, hq, rfl⟩
structure Pu (P : Program) (f : Nat) (args : List AV) (v : AV) : Prop where
  all : ∀ H, CallT P f args H (fun r H' => r = v ∧ H' = H)
theorem Pu.of {P : Program} {f : Nat} {args : List AV} {v : AV} (h : ∀ H, CallT P f args H (fun r H' => r = v ∧ Heap.le H H')) : Pu P f args v := ⟨fun H => (h H).le⟩
theorem Pu.use {P : Program} {f : Nat} {args : List AV} {v : AV} (h : Pu P f args v) {H : Heap} {K : AV → Heap → Prop} (k : K v H) : CallT P f args H K :=
  (h.all H).mono fun _ _ ⟨h1, h2⟩ => by subst h1; subst h2; exact k
theorem CallT.args {P : Program} {f : Nat} {args args' : List AV} {H : Heap} {Q : AV → Heap → Prop} (h : CallT P f args' H Q) (hw : wkE args args') : CallT P f args H Q := by
  obtain ⟨hl, hk⟩ := wkE_ok hw
  refine ⟨h.1, ?_⟩
  intro B0 w0 F Z φ w xs hd hs ha
  refine h.2 B0 w0 F Z φ w xs hd hs ⟨ha.1.trans hl.symm, ?_⟩
  intro i v' x hi hx
  have hlt : i < args.length := by rw [← hl]; exact (List.getElem?_eq_some_iff.1 hi).1
  exact AV.wk_ok (hk i _ v' (List.getElem?_eq_getElem hlt) hi) (ha.2 i _ x (List.getElem?_eq_getElem hlt) hx)
theorem CallT.pre {P : Program} {f : Nat} {args args' : List AV} {H H' : Heap} {Q : AV → Heap → Prop} (h : CallT P f args' H' Q) (hw : Wk (.tup args) H (.tup args') H') : CallT P f args H Q := by
  refine ⟨h.1, ?_⟩
  intro B0 w0 F Z φ w xs hd hs ha
  obtain ⟨Z2, φ2, b1, b2, b3, b4, b5⟩ := UpV.wk hw hd hs (Cv.tup args xs ha.1 ha.2)
  cases b5 with
  | tup _ _ c1 c2 =>
    refine (h.2 B0 w0 F Z2 φ2 w xs b3 b4 ⟨c1, c2⟩).mono ?_
    rintro e w' ⟨x, rfl, v, H1, Z1, φ1, hq, h1, h2, h3, h4, h5⟩
    exact ⟨x, rfl, v, H1, Z1, φ1, hq, Fro.le_trans b1 h1, Pm.le_trans b2 h2, h3, h4, h5⟩
theorem CallT.frame {P : Program} {f : Nat} {args : List AV} {H : Heap} {Q : AV → Heap → Prop} (h : CallT P f args H Q) {r : Nat} {b : List AV} (hr : H r = none) :
    CallT P f args (H.set r b) (fun v H'' => ∃ H', H'' = H'.set r b ∧ H' r = none ∧ Q v H') := by
  refine ⟨h.1, ?_⟩
  intro B0 w0 F Z φ w xs hd hs ha
  have hFr : F r = none := hd r (by rw [Heap.set_same]; simp)
  have hd' : Disj H (F.set r b) := by
    intro x hx
    have hxr : x ≠ r := fun e => by subst e; exact hx hr
    rw [Heap.set_other hxr]
    exact hd x (by rw [Heap.set_other hxr]; exact hx)
  have heq : ∀ (G : Heap), G r = none → (G.set r b).or F = G.or (F.set r b) := by
    intro G hG
    funext x
    by_cases hx : x = r
    · subst hx; simp [Heap.or, Heap.set, hG]
    · simp [Heap.or, Heap.set, hx]
  rw [heq H hr] at hs
  refine (h.2 B0 w0 (F.set r b) Z φ w xs hd' hs ha).mono ?_
  rintro e w' ⟨x, rfl, v, H1, Z1, φ1, hq, h1, h2, h3, h4, h5⟩
  have hH1 : H1 r = none := by
    cases hh : H1 r with
    | none => rfl
    | some c => have := h3 r (by simp [hh]); rw [Heap.set_same] at this; cases this
  refine ⟨x, rfl, v, H1.set r b, Z1, φ1, ⟨H1, rfl, hH1, hq⟩, h1, h2, ?_, by rw [heq H1 hH1]; exact h4, h5⟩
  intro y hy
  by_cases hyr : y = r
  · subst hyr; exact hFr
  · rw [Heap.set_other hyr] at hy
    have := h3 y hy
    rwa [Heap.set_other hyr] at this
end Go.Sep
namespace Go.Sep
open Go Go.RowKit
def Plain (v : AV) : Prop := ∀ (Z Z' : Fro) (φ φ' : Pm) (x : Value), Cv Z φ v x → Cv Z' φ' v x
theorem Plain.int (k : IntKind) (n : Int) : Plain (.p (.int k n)) := by
  intro Z Z' φ φ' x c
  cases c with
  | p h => cases h; exact .p (.int k n)
theorem Plain.bool (b : Bool) : Plain (.p (.bool b)) := by
  intro Z Z' φ φ' x c
  cases c with
  | p h => cases h; exact .p (.bool b)
theorem Plain.tup {vs : List AV} (h : ∀ v ∈ vs, Plain v) : Plain (.tup vs) := by
  intro Z Z' φ φ' x c
  cases c with
  | tup _ xs hs hh => exact .tup vs xs hs fun i av y hi hy => h av (List.mem_of_getElem? hi) _ _ _ _ _ (hh i av y hi hy)
theorem World.cell?_below {w w' : World} (hb : Below w.heap.size w w') {b : Nat} {i : Nat} {v : Value} (h : w.cell? ⟨b, i, none⟩ = some v) : w'.cell? ⟨b, i, none⟩ = some v := by
  have hlt := World.block_lt_of_cell? w ⟨b, i, none⟩ (by first | exact h | (rw [h]; simp) | exact ⟨v, h⟩)
  rw [World.cell?_of_block (w := w) (a := ⟨b, i, none⟩) (hb.block b hlt)]; exact h
theorem Sim.later {Z : Fro} {φ : Pm} {B0 : Nat} {w0 w w' : World} {H : Heap} (s : Sim Z φ B0 w0 H w) (hb : Bel w.heap.size w w') : Sim Z φ B0 w0 H w' := by
  refine ⟨Nat.le_trans s.b0 hb.size, s.below.trans (hb.mono s.b0), s.bnd, ?_, s.disj, fun b i v h => World.cell?_below hb.to (s.froz b i v h), s.zsep⟩
  intro r blk hr
  obtain ⟨pl, hp, hl⟩ := s.live r blk hr
  exact ⟨pl, hp, hl.world fun o ho => by rw [hb.block _ (Array.getElem?_eq_some_iff.1 ho).1]; exact ho⟩
theorem CallT.thaw {P : Program} {f : Nat} {args args' : List AV} {v : AV} {H H1 : Heap} {Q : AV → Heap → Prop} (h : CallT P f args' (fun _ => none) (fun r _ => r = v)) (hv : Plain v) (hw : Wk (.tup args) H (.tup args') H1) (k : Q v H) : CallT P f args H Q := by
  refine ⟨h.1, ?_⟩
  intro B0 w0 F Z φ w xs hd hs ha
  obtain ⟨Z2, φ2, b1, b2, b3, b4, b5⟩ := UpV.wk hw hd hs (Cv.tup args xs ha.1 ha.2)
  cases b5 with
  | tup _ _ c1 c2 =>
    have hs2 : Sim Z2 φ2 w.heap.size w (Heap.or (fun _ => none) (fun _ => none)) w := by
      refine ⟨Nat.le_refl _, .refl _ _, b4.bnd, ?_, ?_, b4.froz, ?_⟩
      · intro r blk hr; cases hr
      · intro r r' pl pl' hr; exact absurd rfl hr
      · intro b i v hz r pl hr; exact absurd rfl hr
    refine (h.2 w.heap.size w (fun _ => none) Z2 φ2 w xs (fun r hr => absurd rfl hr) hs2 ⟨c1, c2⟩).mono ?_
    rintro e w' ⟨x, rfl, v', H2, Z3, φ3, hq, h1, h2, h3, h4, h5⟩
    subst hq
    exact ⟨x, rfl, _, H, Z, φ, k, Fro.le_refl _, Pm.le_refl _, hd, hs.later h4.below, hv _ _ _ _ _ h5⟩
theorem Pu.thaw {P : Program} {f : Nat} {args args' : List AV} {v : AV} {H H1 : Heap} {Q : AV → Heap → Prop} (h : Pu P f args' v) (hv : Plain v) (hw : Wk (.tup args) H (.tup args') H1) (k : Q v H) : CallT P f args H Q :=
  CallT.thaw ((h.all _).mono fun _ _ ⟨e, _⟩ => e) hv hw k
mutual
inductive FrzS (r : Nat) (es : List PV) : AV → AV → Prop where
  | part (off len : Nat) (h : off + len ≤ es.length) : FrzS r es (.sl r 1 off len) (.p (.sl (((es.drop off).take len).map fun v => [v])))
  | ptr (off : Nat) : FrzS r es (.ptr r off) (.fp (es.drop off))
  | same (v : AV) : FrzS r es v v
  | fn (f : Nat) {vs vs' : List AV} (h : FrzSL r es vs vs') : FrzS r es (.fn f vs) (.fn f vs')
  | agg {vs vs' : List AV} (h : FrzSL r es vs vs') : FrzS r es (.agg vs) (.agg vs')
  | tup {vs vs' : List AV} (h : FrzSL r es vs vs') : FrzS r es (.tup vs) (.tup vs')
inductive FrzSL (r : Nat) (es : List PV) : List AV → List AV → Prop where
  | nil : FrzSL r es [] []
  | cons {v v' : AV} {vs vs' : List AV} (h : FrzS r es v v') (t : FrzSL r es vs vs') : FrzSL r es (v :: vs) (v' :: vs')
end
section
variable {Z : Fro} {φ : Pm} {r : Nat} {es : List PV}
end
end Go.Sep
namespace Go.Sep
open Go Go.RowKit
def shC (n : Nat) : AV → AV
  | .sl r sz off len => .sl (r + n) sz off len
  | v => v
def sh1 (n : Nat) : AV → AV
  | .agg vs => .agg (vs.map (shC n))
  | v => shC n v
def sh2 (n : Nat) : AV → AV
  | .tup vs => .tup (vs.map (sh1 n))
  | v => sh1 n v
def shH (n : Nat) (H : Heap) : Heap := fun r => if n ≤ r then (H (r - n)).map (List.map (shC n)) else none
def GdC (v : AV) : Prop := (∃ r sz off len, v = .sl r sz off len) ∨ (Plain v ∧ ∀ n, shC n v = v)
def Gd1 (v : AV) : Prop := (∃ vs, v = .agg vs ∧ ∀ c ∈ vs, GdC c) ∨ (GdC v ∧ ∀ n, sh1 n v = shC n v)
def Gd2 (v : AV) : Prop := (∃ vs, v = .tup vs ∧ ∀ c ∈ vs, Gd1 c) ∨ (Gd1 v ∧ ∀ n, sh2 n v = sh1 n v)
theorem GdC.p {v : PV} (h : Plain (.p v)) : GdC (.p v) := .inr ⟨h, fun _ => rfl⟩
theorem Plain.nil : Plain (.p .nil) := by
  intro Z Z' φ φ' x c
  cases c with
  | p h => cases h; exact .p .nil
section
variable {Z Z' : Fro} {φ φ' : Pm} {n : Nat} (hφ : ∀ r pl, φ r = some pl → φ' (r + n) = some pl)
include hφ
end
theorem LiveAt.place {Z : Fro} {φ : Pm} {B0 : Nat} {w : World} {pl : Place} {blk : List AV} (h : LiveAt Z φ B0 w pl blk) : pl.C = 0 ∨ (B0 ≤ pl.b ∧ pl.b < w.heap.size) := by
  rcases h with ⟨h, _⟩ | ⟨cur, e, h1, _, _, h4, _⟩
  · exact .inl h
  · exact .inr ⟨h4, (Array.getElem?_eq_some_iff.1 h1).1⟩
end Go.Sep
namespace Go.Sep
open Go Go.RowKit
theorem CX.frz {P : Program} {x : XC} {Q : Post} {env env' : List AV} {H : Heap} {r sz : Nat} {es : List (List PV)} (hpos : 0 < sz) (hr : H r = some (es.flatten.map .p)) (hsz : ∀ e ∈ es, e.length = sz) (hv : FrzL r sz es env env')
    (h : CX P x Q env' (H.del r)) : CX P x Q env H := by
  intro c hc B0 w0 F Z φ a w rel
  obtain ⟨pl, hp, hla⟩ := rel.sim.live r _ (Heap.or_left hr)
  obtain ⟨Z', vals, hz, h1, h2, h3⟩ := rel.sim.freeze (Heap.or_left hr) hp
  rw [← Heap.or_del (rel.disj.fresh hr)] at h3
  have key : env'.length = env.length ∧ ∀ (i : Nat) (v v' : AV) (x : Value), env[i]? = some v → env'[i]? = some v' → Cv Z' φ v x → Cv Z' φ v' x :=
    frz_relL hpos hsz hp h1 h2 hv
  have r' : Rel B0 w0 F Z' φ (H.del r) env' a w := by
    refine ⟨rel.disj.del, h3, ⟨rel.env.1.trans key.1.symm, ?_⟩, rel.defers⟩
    intro i av x hi hx
    have hl : i < env.length := by rw [← key.1]; exact (List.getElem?_eq_some_iff.1 hi).1
    exact key.2 i _ av x (List.getElem?_eq_getElem hl) hi ((rel.env.2 i _ x (List.getElem?_eq_getElem hl) hx).mono hz (Pm.le_refl _))
  refine wp_mono (h c hc B0 w0 F Z' φ a w r') ?_
  rintro e2 a2 w2 ⟨env2, H2, Z2, φ2, t2, hz2, hp2, r2⟩
  exact ⟨env2, H2, Z2, φ2, t2, Fro.le_trans hz hz2, hp2, r2⟩
end Go.Sep
namespace Go.Sep
open Go Go.RowKit
def nhOp : Op → Bool
  | .move _ => true
  | .assign _ => true
  | .pick _ _ _ => true
  | .build _ _ => true
  | .load _ _ => true
  | .nilCheck _ => true
  | .binOp _ _ _ _ _ => true
  | .unOp _ _ _ => true
  | .convert _ _ _ => true
  | .makeFunc _ _ _ => true
  | .slice _ _ _ _ _ => true
  | .fieldAddr _ _ _ => true
  | .field _ _ _ => true
  | .indexAddr _ _ _ => true
  | .index _ _ _ => true
  | .extract _ _ => true
  | .call c => match c.callee with
    | .builtin .len => true
    | .builtin .max => true
    | .builtin .min => true
    | _ => false
  | _ => false
def rdOp : Op → Bool
  | .load _ _ => true
  | _ => false
def Lin (F : (AV → Prop) → Prop) : Prop := ∃ (S : Prop) (u : AV), ∀ K, F K ↔ (S ∧ K u)
theorem Lin.k (u : AV) : Lin (fun K => K u) := ⟨True, u, fun K => by simp⟩
theorem Lin.no : Lin (fun _ => False) := ⟨False, .any, fun K => by simp⟩
theorem Lin.and {A : Prop} {F : (AV → Prop) → Prop} (h : Lin F) : Lin (fun K => A ∧ F K) := by
  obtain ⟨S, u, h⟩ := h; exact ⟨A ∧ S, u, fun K => by simp only [h K, and_assoc]⟩
theorem Lin.congr {F G : (AV → Prop) → Prop} (h : Lin G) (e : ∀ K, F K ↔ G K) : Lin F := by
  obtain ⟨S, u, h⟩ := h; exact ⟨S, u, fun K => (e K).trans (h K)⟩
theorem Lin.numV {a : AV} {G : Int → (AV → Prop) → Prop} (h : ∀ n, Lin (G n)) : Lin (fun K => numV a fun n => G n K) := by
  unfold Sep.numV; split
  · exact h _
  · exact Lin.no
theorem Lin.bndV {o : Option AV} {m : Int} {G : Int → (AV → Prop) → Prop} (h : ∀ n, Lin (G n)) : Lin (fun K => bndV o m fun n => G n K) := by
  cases o with
  | none => exact h m
  | some a => exact Lin.numV h
theorem Lin.orX {A : Prop} {B : Prop} {u v : AV} (hAB : A → ¬ B) : Lin (fun K => (A ∧ K u) ∨ (B ∧ K v)) := by
  by_cases hA : A
  · exact ⟨True, u, fun K => by simp [hA, hAB hA]⟩
  · exact ⟨B, v, fun K => by simp [hA]⟩
theorem unkV_lin (tab : Tab) (t : Nat) (x y : AV) : Lin (fun K => unkV tab t x y (K .ub)) := by
  unfold unkV; repeat' split
  all_goals first | exact Lin.no | exact Lin.and (Lin.k _)
theorem binV_lin (tab : Tab) (op : BinOp) (t : Nat) (x y : AV) : Lin (binV tab op t x y) := by
  unfold binV
  split
  · cases op <;> first | exact Lin.and (Lin.k _) | exact Lin.and (Lin.and (Lin.k _))
  · cases op <;> first | exact Lin.no | exact Lin.k _ | exact Lin.and (Lin.k _)
  · split <;> first | exact Lin.no | exact Lin.k _ | exact unkV_lin _ _ _ _
theorem unV_lin (op : UnOp) (x : AV) : Lin (unV op x) := by
  unfold unV; split <;> first | exact Lin.no | exact Lin.k _
theorem convV_lin (tab : Tab) (s d : Nat) (x : AV) : Lin (convV tab s d x) := by
  unfold convV; repeat' split
  all_goals first | exact Lin.no | exact Lin.k _
theorem fieldAddrV_lin (tab : Tab) (t : Nat) (a : AV) (f : Nat) : Lin (fieldAddrV tab t a f) := by
  unfold fieldAddrV; repeat' split
  all_goals first | exact Lin.no | exact Lin.k _ | exact Lin.and (Lin.k _)
theorem fieldV_lin (tab : Tab) (t : Nat) (a : AV) (f : Nat) : Lin (fieldV tab t a f) := by
  unfold fieldV partV; repeat' split
  all_goals first | exact Lin.no | exact Lin.k _ | exact Lin.and (Lin.k _)
theorem indexAddrV_lin (tab : Tab) (t : Nat) (a i : AV) : Lin (indexAddrV tab t a i) := by
  unfold indexAddrV; repeat' split
  all_goals first | exact Lin.no | exact Lin.k _ | exact Lin.and (Lin.and (Lin.and (Lin.k _))) | exact Lin.and (Lin.and (Lin.k _))
theorem indexV_lin (tab : Tab) (t : Nat) (a i : AV) : Lin (indexV tab t a i) := by
  unfold indexV; split
  · refine Lin.and ?_
    split
    · exact Lin.and (Lin.and (Lin.k _))
    · exact Lin.no
  · exact Lin.no
theorem extractV_lin (a : AV) (i : Nat) : Lin (extractV a i) := by
  unfold extractV; split <;> first | exact Lin.no | exact Lin.and (Lin.k _)
theorem nilCheckV_lin (a : AV) : Lin (nilCheckV a) := by
  unfold nilCheckV; split <;> first | exact Lin.no | exact Lin.k _
theorem lenV_lin (tab : Tab) (t : Nat) (a : AV) : Lin (lenV tab t a) := by
  unfold lenV; repeat' split
  all_goals first | exact Lin.no | exact Lin.k _
theorem mmV_lin (b : Builtin) (x y : AV) : Lin (mmV b x y) := by
  unfold mmV; split <;> first | exact Lin.no | exact Lin.k _
theorem buildV_lin (tab : Tab) (t : Nat) (ps : List (Nat × AV)) : Lin (buildV tab t ps) := by
  unfold buildV; split
  · split
    · refine Lin.and ?_
      split
      · exact Lin.k _
      · exact Lin.no
    · split
      · split
        · exact Lin.k _
        · exact Lin.no
      · exact Lin.no
    · exact Lin.no
  · exact Lin.no
theorem sliceV_lin (tab : Tab) (t : Nat) (a : AV) (lo hi mx : Option AV) : Lin (sliceV tab t a lo hi mx) := by
  unfold sliceV; split
  · split
    · split
      · split
        · refine Lin.and (Lin.and (Lin.bndV fun l => Lin.bndV fun h => Lin.bndV fun m => Lin.and (Lin.and (Lin.and (Lin.and (Lin.k _))))))
        · refine Lin.and (Lin.bndV fun l => Lin.bndV fun h => Lin.bndV fun m => Lin.and (Lin.and (Lin.and (Lin.and (Lin.and ?_)))))
          refine (Lin.orX (A := mx.isSome = true ∧ m = 0) (B := mx.isSome = true → m ≠ 0) (u := .esl) (v := _) ?_).congr fun K => by rw [and_assoc]
          rintro ⟨h1, h2⟩ h3; exact h3 h1 h2
        · refine Lin.and (Lin.bndV fun l => Lin.bndV fun h => Lin.bndV fun m => Lin.and (Lin.and (Lin.and (Lin.k _))))
        · exact Lin.no
      · exact Lin.no
    · split
      · refine Lin.and (Lin.bndV fun l => Lin.bndV fun h => Lin.and (Lin.and (Lin.and (Lin.k _))))
      · exact Lin.no
    · exact Lin.no
  · exact Lin.no
theorem loadV_lin (tab : Tab) (t : Nat) (a : AV) (H : Heap) : Lin (loadV tab t a H) := by
  unfold loadV ptrReads; split
  · split
    · split
      · exact Lin.and (Lin.k _)
      · exact Lin.no
    · exact Lin.and (Lin.k _)
    · exact Lin.no
  · exact Lin.no
theorem Lin.at {F : (AV → Prop) → Prop} (h : Lin F) (H : Heap) : ∃ (S : Prop) (u : AV), ∀ K : AV → Heap → Prop, F (K · H) ↔ (S ∧ K u H) := by
  obtain ⟨S, u, h⟩ := h; exact ⟨S, u, fun K => h (K · H)⟩
theorem Lin.all {F : (AV → Prop) → Prop} (h : Lin F) : ∃ (S : Prop) (u : AV), ∀ (H : Heap) (K : AV → Heap → Prop), F (K · H) ↔ (S ∧ K u H) := by
  obtain ⟨S, u, h⟩ := h; exact ⟨S, u, fun H K => h (K · H)⟩
theorem nh_pure {P : Program} {tab : Tab} {o : Op} (h : nhOp o = true) (hr : rdOp o = false) (env : List AV) : ∃ (S : Prop) (u : AV), ∀ (H : Heap) (K : AV → Heap → Prop), opV P tab o env H K ↔ (S ∧ K u H) := by
  cases o <;> first | (simp only [nhOp] at h; cases h; done) | (simp only [rdOp] at hr; cases hr; done) | skip
  case move x => exact (Lin.k (ev env x)).all
  case assign x => exact (Lin.k (ev env x)).all
  case pick c a b =>
    simp only [opV]
    split
    · rename_i t _
      cases t with
      | true => exact ⟨True, ev env a, fun H K => by simp [pk]⟩
      | false => exact ⟨True, ev env b, fun H K => by simp [pk]⟩
    · exact ⟨False, .any, fun H K => by simp⟩
  case build t ps => exact (buildV_lin _ _ _).all
  case nilCheck x => exact (nilCheckV_lin _).all
  case binOp op t x y ty => exact (binV_lin _ _ _ _ _).all
  case unOp op t x => exact (unV_lin _ _).all
  case convert s d x => exact (convV_lin _ _ _ _).all
  case makeFunc fn first caps =>
    simp only [opV]
    split
    all_goals first | exact ⟨_, _, fun H K => Iff.rfl⟩ | skip
    all_goals (rename_i he; first | (cases he; done) | skip)
    all_goals first | exact ⟨_, _, fun H K => Iff.rfl⟩ | exact ⟨False, .any, fun H K => by simp⟩
  case slice t x lo hi mx => exact (sliceV_lin _ _ _ _ _ _).all
  case fieldAddr t x f => exact (fieldAddrV_lin _ _ _ _).all
  case field t x f => exact (fieldV_lin _ _ _ _).all
  case indexAddr t x i => exact (indexAddrV_lin _ _ _ _).all
  case index t x i => exact (indexV_lin _ _ _ _).all
  case extract x i => exact (extractV_lin _ _).all
  case call c =>
    simp only [opV, callV]
    simp only [nhOp] at h
    have no : ∃ (S : Prop) (u : AV), ∀ (H : Heap) (K : AV → Heap → Prop), False ↔ (S ∧ K u H) := ⟨False, .any, fun H K => by simp⟩
    generalize c.args.toList.map (ev env) = l
    split at h
    case h_4 => cases h
    all_goals
      rename_i hc
      rw [hc]
      rcases l with _ | ⟨x, _ | ⟨y, _ | ⟨z, l⟩⟩⟩ <;> dsimp only
      all_goals first
        | exact no
        | exact (mmV_lin _ _ _).all
        | (split <;> first | exact (lenV_lin _ _ _).all | exact no)
theorem nh_lin {P : Program} {tab : Tab} {o : Op} (h : nhOp o = true) (env : List AV) (H : Heap) : ∃ (S : Prop) (u : AV), ∀ (K : AV → Heap → Prop), opV P tab o env H K ↔ (S ∧ K u H) := by
  cases hr : rdOp o with
  | false => obtain ⟨S, u, k⟩ := nh_pure (P := P) (tab := tab) h hr env; exact ⟨S, u, k H⟩
  | true =>
    cases o <;> first | (simp only [rdOp] at hr; cases hr; done) | skip
    exact (loadV_lin _ _ _ _).at H
end Go.Sep
namespace Go.Sep
open Go Go.RowKit
def tmpsOf (xs : List Operand) : List Nat := xs.filterMap fun | .tmp t => some t | _ => none
def rds (o : Op) : List Nat := tmpsOf o.operands.toList
theorem ev_congr {env env' : List AV} {xs : List Operand} (h : ∀ t ∈ tmpsOf xs, env.getD t .any = env'.getD t .any) {x : Operand} (hx : x ∈ xs) : ev env x = ev env' x := by
  cases x with
  | tmp t => exact h t (List.mem_filterMap.2 ⟨_, hx, rfl⟩)
  | _ => rfl
theorem opV_congr {P : Program} {tab : Tab} {o : Op} {env env' : List AV} (h : ∀ t ∈ rds o, env.getD t .any = env'.getD t .any) (H : Heap) (K : AV → Heap → Prop) : opV P tab o env H K = opV P tab o env' H K := by
  have key : ∀ x, x ∈ o.operands.toList → ev env x = ev env' x := fun x hx => ev_congr h hx
  have opt : ∀ (q : Option Operand), (∀ x, q = some x → x ∈ o.operands.toList) → q.map (ev env) = q.map (ev env') := by
    intro q hq
    cases q with
    | none => rfl
    | some x => simp [key x (hq x rfl)]
  have lst : ∀ (q : List Operand), (∀ x ∈ q, x ∈ o.operands.toList) → q.map (ev env) = q.map (ev env') := fun q hq => List.map_congr_left fun x hx => key x (hq x hx)
  cases o <;> simp only [opV]
  case move x => rw [key x (by simp [Op.operands])]
  case assign x => rw [key x (by simp [Op.operands])]
  case pick c a b => rw [key c (by simp [Op.operands]), key a (by simp [Op.operands]), key b (by simp [Op.operands])]
  case box t x => rw [key x (by simp [Op.operands])]
  case build t ps =>
    have : (ps.toList.map fun p => (p.1, ev env p.2)) = ps.toList.map fun p => (p.1, ev env' p.2) := List.map_congr_left fun p hp => by rw [key p.2 (by simp only [Op.operands]; exact List.mem_map.2 ⟨p, hp, rfl⟩)]
    rw [this]
  case buildSlice t n ps =>
    have : (ps.toList.map fun p => (p.1, ev env p.2)) = ps.toList.map fun p => (p.1, ev env' p.2) := List.map_congr_left fun p hp => by rw [key p.2 (by simp only [Op.operands]; exact List.mem_map.2 ⟨p, hp, rfl⟩)]
    rw [this]
  case load t x => rw [key x (by simp [Op.operands])]
  case store t x y => rw [key x (by simp [Op.operands]), key y (by simp [Op.operands])]
  case nilCheck x => rw [key x (by simp [Op.operands])]
  case binOp op t x y ty => rw [key x (by simp [Op.operands]), key y (by simp [Op.operands])]
  case unOp op t x => rw [key x (by simp [Op.operands])]
  case convert s d x => rw [key x (by simp [Op.operands])]
  case makeFunc fn first caps =>
    have : caps.toList.map (ev env) = caps.toList.map (ev env') := lst _ (fun x hx => by simp only [Op.operands, Array.toList_append, List.mem_append]; exact .inr hx)
    cases fn <;> simp only [this]
  case makeSlice t l c => rw [key l (by simp [Op.operands]), key c (by simp [Op.operands])]
  case slice t x lo hi mx =>
    rw [key x (by simp [Op.operands]), opt lo (by rintro y rfl; simp [Op.operands]), opt hi (by rintro y rfl; simp [Op.operands]), opt mx (by rintro y rfl; simp [Op.operands])]
  case fieldAddr t x f => rw [key x (by simp [Op.operands])]
  case field t x f => rw [key x (by simp [Op.operands])]
  case indexAddr t x i => rw [key x (by simp [Op.operands]), key i (by simp [Op.operands])]
  case index t x i => rw [key x (by simp [Op.operands]), key i (by simp [Op.operands])]
  case extract x i => rw [key x (by simp [Op.operands])]
  case call c =>
    unfold callV
    have h1 : c.args.toList.map (ev env) = c.args.toList.map (ev env') := lst _ (fun x hx => by simp only [Op.operands, Call.operands, Array.toList_append, List.mem_append]; exact .inr hx)
    rw [h1]
    cases hc : c.callee with
    | value f => dsimp only; rw [key f (by simp [Op.operands, Call.operands, hc])]
    | builtin b =>
      generalize c.args.toList.map (ev env') = l
      rcases l with _ | ⟨x, _ | ⟨y, _ | ⟨z, l⟩⟩⟩ <;> cases b <;> rfl
    | invoke r m => rfl
def XOp.op : XOp → Op
  | .run _ o => o
  | .guarded _ _ _ o => o
  | .bad => .ready 0
def XOp.d : XOp → Option Nat
  | .run d _ => d
  | .guarded _ _ d _ => d
  | .bad => none
def XOp.rd : XOp → List Nat
  | .run _ o => rds o
  | .guarded g _ _ o => g :: rds o
  | .bad => []
def XOp.nh (x : XOp) : Bool := nhOp x.op
def XOp.isRead (x : XOp) : Bool := rdOp x.op
def stV (P : Program) (tab : Tab) (x : XOp) (env : List AV) (H : Heap) (K : AV → Heap → Prop) : Prop :=
  match x with
  | .run _ o => opV P tab o env H K
  | .guarded g want _ o =>
    match env.getD g .any with
    | .p (.bool b) => gd b want (opV P tab o env H K) (K .und H)
    | .tup [] => K .und H
    | _ => False
  | .bad => False
theorem stV_congr {P : Program} {tab : Tab} {x : XOp} {env env' : List AV} (h : ∀ t ∈ x.rd, env.getD t .any = env'.getD t .any) (H : Heap) (K : AV → Heap → Prop) : stV P tab x env H K = stV P tab x env' H K := by
  cases x with
  | run d o => exact opV_congr h H K
  | guarded g want d o =>
    simp only [stV]
    rw [h g (by simp [XOp.rd]), opV_congr (fun t ht => h t (by simp [XOp.rd, ht])) H K]
  | bad => rfl
theorem stV_pure {P : Program} {tab : Tab} {x : XOp} (h : x.nh = true) (hr : x.isRead = false) (env : List AV) : ∃ (S : Prop) (u : AV), ∀ (H : Heap) (K : AV → Heap → Prop), stV P tab x env H K ↔ (S ∧ K u H) := by
  cases x with
  | run d o => exact nh_pure h hr env
  | guarded g want d o =>
    obtain ⟨S, u, k⟩ := nh_pure (P := P) (tab := tab) (o := o) h hr env
    simp only [stV]
    split
    · rename_i b _
      by_cases hb : b = want
      · subst hb
        exact ⟨S, u, fun H K => by cases b <;> simp only [gd_tt, gd_ff] <;> exact k H K⟩
      · have : b = !want := by cases b <;> cases want <;> simp_all
        subst this
        exact ⟨True, .und, fun H K => by cases want <;> simp [gd]⟩
    · exact ⟨True, .und, fun H K => by simp⟩
    · exact ⟨False, .any, fun H K => by simp⟩
  | bad => exact ⟨False, .any, fun H K => by simp [stV]⟩
theorem stV_lin {P : Program} {tab : Tab} {x : XOp} (h : x.nh = true) (env : List AV) (H : Heap) : ∃ (S : Prop) (u : AV), ∀ (K : AV → Heap → Prop), stV P tab x env H K ↔ (S ∧ K u H) := by
  cases x with
  | run d o => exact nh_lin h env H
  | guarded g want d o =>
    obtain ⟨S, u, k⟩ := nh_lin (P := P) (tab := tab) (o := o) h env H
    simp only [stV]
    split
    · rename_i b _
      by_cases hb : b = want
      · subst hb
        exact ⟨S, u, fun K => by cases b <;> simp only [gd_tt, gd_ff] <;> exact k K⟩
      · have : b = !want := by cases b <;> cases want <;> simp_all
        subst this
        exact ⟨True, .und, fun K => by cases want <;> simp [gd]⟩
    · exact ⟨True, .und, fun K => by simp⟩
    · exact ⟨False, .any, fun K => by simp⟩
  | bad => exact ⟨False, .any, fun K => by simp [stV]⟩
theorem storeV_mono {tab : Tab} {t : Nat} {a v : AV} {H : Heap} {K K' : Heap → Prop} (k : ∀ H', K H' → K' H') (h : storeV tab t a v H K) : storeV tab t a v H K' := by
  unfold storeV at *
  revert h
  split
  · split
    · exact fun h => ⟨h.1, h.2.1, h.2.2.1, k _ h.2.2.2⟩
    · exact id
  · exact id
theorem makeSliceV_mono {tab : Tab} {t : Nat} {l c : AV} {H : Heap} {K K' : AV → Heap → Prop} (k : ∀ v H', K v H' → K' v H') (h : makeSliceV tab t l c H K) : makeSliceV tab t l c H K' := by
  unfold makeSliceV at *
  revert h
  split
  · split
    · split
      · exact fun h => numV.mono (fun n h => numV.mono (fun m h => ⟨h.1, h.2.1, h.2.2.1, h.2.2.2.1, fun r hr => k _ _ (h.2.2.2.2 r hr)⟩) h) h
      · exact id
    · exact id
  · exact id
theorem srcV_mono {H : Heap} {sz : Nat} {x : AV} {K K' : List AV → Nat → Prop} (k : ∀ v n, K v n → K' v n) (h : srcV H sz x K) : srcV H sz x K' := by
  unfold srcV at *
  revert h
  split
  · exact k _ _
  · exact k _ _
  · exact fun h => ⟨h.1, k _ _ h.2⟩
  · split
    · exact fun h => ⟨h.1, h.2.1, k _ _ h.2.2⟩
    · exact id
  · exact id
theorem baseV_mono {H : Heap} {sz : Nat} {x : AV} {K K' : List AV → Nat → Heap → Prop} (k : ∀ v n H', K v n H' → K' v n H') (h : baseV H sz x K) : baseV H sz x K' := by
  unfold baseV at *
  revert h
  split
  · exact k _ _ _
  · exact k _ _ _
  · split
    · exact fun h => ⟨h.1, h.2.1, k _ _ _ h.2.2⟩
    · exact id
  · exact id
theorem clearV_mono {tab : Tab} {t : Nat} {x : AV} {H : Heap} {K K' : AV → Heap → Prop} (k : ∀ v H', K v H' → K' v H') (h : clearV tab t x H K) : clearV tab t x H K' := by
  revert h
  unfold clearV
  split
  · split
    · split
      · intro h
        refine ⟨h.1, ?_⟩
        have h2 := h.2
        revert h2
        split
        · exact k _ _
        · split
          · exact fun h => ⟨h.1, h.2.1, k _ _ h.2.2⟩
          · exact id
      · exact id
    · exact id
  · exact id
theorem copyV_mono {tab : Tab} {t : Nat} {d x : AV} {H : Heap} {K K' : AV → Heap → Prop} (k : ∀ v H', K v H' → K' v H') (h : copyV tab t d x H K) : copyV tab t d x H K' := by
  revert h
  unfold copyV
  split
  · split
    · split
      · intro h
        refine ⟨h.1, ?_⟩
        have h2 := h.2
        revert h2
        split
        · exact k _ _
        · refine srcV_mono fun vs n => ?_
          split
          · exact fun h => ⟨h.1, h.2.1, k _ _ h.2.2⟩
          · exact id
      · exact id
    · exact id
  · exact id
theorem appendV_mono {tab : Tab} {t0 t1 : Nat} {s x : AV} {H : Heap} {K K' : AV → Heap → Prop} (k : ∀ v H', K v H' → K' v H') (h : appendV tab t0 t1 s x H K) : appendV tab t0 t1 s x H K' := by
  unfold appendV at *
  revert h
  split
  · split
    · split
      · exact srcV_mono fun v n => baseV_mono fun v' n' H' h => ⟨h.1, h.2.1, h.2.2.1, fun r hr => k _ _ (h.2.2.2 r hr)⟩
      · exact id
    · split
      · split
        · split
          · exact fun h => ⟨h.1, h.2.1, h.2.2.1, fun r hr => k _ _ (h.2.2.2 r hr)⟩
          · exact id
        · exact id
      · exact id
    · exact id
  · exact id
theorem opV_mono' {P : Program} {tab : Tab} {o : Op} {env : List AV} {H : Heap} {K K' : AV → Heap → Prop} (k : ∀ v H', K v H' → K' v H') (h : opV P tab o env H K) : opV P tab o env H K' := by
  by_cases hn : nhOp o = true
  · obtain ⟨S, u, hl⟩ := nh_lin (P := P) (tab := tab) hn env H
    obtain ⟨h1, h2⟩ := (hl K).1 h
    exact (hl K').2 ⟨h1, k _ _ h2⟩
  · cases o <;> first | (simp only [nhOp, not_true_eq_false] at hn; done) | (simp only [opV] at h; done) | (simp only [opV] at h ⊢; exact h.elim) | skip
    case alloc t =>
      simp only [opV, allocV] at h ⊢
      split
      · rename_i d hd; rw [hd] at h; exact fun r hr => k _ _ (h r hr)
      · rename_i hd; rw [hd] at h; exact h
    case box t x =>
      simp only [opV, boxV] at h ⊢
      split
      · rename_i d hd; rw [hd] at h; exact fun r hr => k _ _ (h r hr)
      · rename_i hd; rw [hd] at h; exact h
    case buildSlice t n ps =>
      simp only [opV, buildSliceV] at h ⊢
      split
      · rename_i d hd
        rw [hd] at h; dsimp only at h
        split
        · rename_i e he
          rw [he] at h; dsimp only at h
          split
          · rename_i ed hed
            rw [hed] at h; dsimp only at h
            refine ⟨h.1, ?_⟩
            have h2 := h.2
            split
            · rename_i cs hcs; rw [hcs] at h2; exact fun r hr => wkK.mono k (h2 r hr)
            · rename_i hcs; rw [hcs] at h2; exact h2
          · rename_i hed; rw [hed] at h; exact h
        · rename_i hne
          split at h
          · rename_i e he; exact absurd he (hne e)
          · exact h
      · rename_i hd; rw [hd] at h; exact h
    case store t a x =>
      simp only [opV] at h ⊢
      exact storeV_mono (fun H' => k _ H') h
    case makeSlice t l c =>
      simp only [opV] at h ⊢
      exact makeSliceV_mono k h
    case call c =>
      simp only [opV] at h ⊢
      unfold callV at *
      revert h
      split
      · rename_i hc _; simp [nhOp, hc] at hn
      · split
        · intro h
          unfold capV at *
          revert h
          repeat' split
          all_goals first | exact k _ _ | exact id
        · exact id
      · split
        · exact appendV_mono (fun _ _ => wkK.mono k)
        · exact id
      · split
        · exact copyV_mono k
        · exact id
      · split
        · exact clearV_mono k
        · exact id
      · rename_i b x y _ _ _ hc _
        intro h
        unfold mmV at *
        revert h
        split
        · exact k _ _
        · exact k _ _
        · exact id
      · split
        · exact fun h => h.mono k
        · exact id
      · exact id
theorem stV_mono {P : Program} {tab : Tab} {x : XOp} {env : List AV} {H : Heap} {K K' : AV → Heap → Prop} (k : ∀ v H', K v H' → K' v H') (h : stV P tab x env H K) : stV P tab x env H K' := by
  cases x with
  | run d o => exact opV_mono' k h
  | guarded g want d o =>
    simp only [stV] at *
    split at h
    · rename_i b hb
      exact ⟨fun e => opV_mono' k (h.1 e), fun e => k _ _ (h.2 e)⟩
    · exact k _ _ h
    · exact h
  | bad => exact h
end Go.Sep
namespace Go.Sep
open Go Go.RowKit
def Kf (K : AV → Heap → Prop) (r : Nat) (z : List AV) : AV → Heap → Prop := fun v H'' => ∃ H', H'' = H'.set r z ∧ H' r = none ∧ K v H'
theorem Wk.isNone {v v' : AV} {H H' : Heap} (h : Wk v H v' H') {r : Nat} (hr : H r = none) : H' r = none := by
  induction h with
  | refl => exact hr
  | forget hl =>
    rename_i v H1 H2
    cases hh : H2 r with
    | none => rfl
    | some b => rw [hl r b hh] at hr; cases hr
  | freeze h1 h2 =>
    rename_i v v' H q cells
    by_cases e : r = q
    · subst e; exact Heap.del_same _ _
    · rw [Heap.del_other e]; exact hr
  | val => exact hr
  | cell h1 h2 h3 =>
    rename_i v H q cs cs'
    rw [Heap.set_other (fun e => by rw [← e, hr] at h1; cases h1)]; exact hr
  | frzIn h1 h2 h3 h4 h5 h6 =>
    rename_i v v' H q s cells cs cs'
    rw [Heap.set_other (fun e => by rw [← e, hr] at h2; cases h2)]
    by_cases e : r = q
    · subst e; exact Heap.del_same _ _
    · rw [Heap.del_other e]; exact hr
  | trans h k ih1 ih2 => exact ih2 (ih1 hr)
theorem Wk.frame {v v' : AV} {H H' : Heap} (h : Wk v H v' H') {r : Nat} {z : List AV} : H r = none → Wk v (H.set r z) v' (H'.set r z) := by
  induction h with
  | refl => exact fun _ => .refl _ _
  | forget hl => exact fun _ => .forget (Heap.set_le hl)
  | freeze h1 h2 =>
    intro hr
    rename_i v v' H q cells
    have hne : q ≠ r := fun e => by rw [e, hr] at h1; cases h1
    have := Wk.freeze (H := H.set r z) (r := q) (cells := cells) (by rw [Heap.set_other hne]; exact h1) h2
    rw [Heap.del_set_other hne.symm] at this
    exact this
  | val h => exact fun _ => .val h
  | cell h1 h2 h3 =>
    intro hr
    rename_i v H q cs cs'
    have hne : q ≠ r := fun e => by rw [e, hr] at h1; cases h1
    rw [← Heap.set_comm hne.symm]
    exact .cell (by rw [Heap.set_other hne]; exact h1) h2 h3
  | frzIn h1 h2 h3 h4 h5 h6 =>
    intro hr
    rename_i v v' H q s cells cs cs'
    have hne : q ≠ r := fun e => by rw [e, hr] at h1; cases h1
    have hns : s ≠ r := fun e => by rw [e, hr] at h2; cases h2
    rw [← Heap.set_comm hns.symm, ← Heap.del_set_other hne.symm]
    exact .frzIn (by rw [Heap.set_other hne]; exact h1) (by rw [Heap.set_other hns]; exact h2) h3 h4 h5 h6
  | trans h k ih1 ih2 => exact fun hr => .trans (ih1 hr) (ih2 (h.isNone hr))
theorem wkK.frame {K : AV → Heap → Prop} {v : AV} {H : Heap} (h : wkK K v H) {r : Nat} {z : List AV} (hr : H r = none) : wkK (Kf K r z) v (H.set r z) := by
  obtain ⟨v', H', hw, hk⟩ := h
  exact ⟨v', H'.set r z, hw.frame hr, H', rfl, hw.isNone hr, hk⟩
section
variable {H : Heap} {r : Nat} {z : List AV} (hr : H r = none)
include hr
theorem set_get {q : Nat} {b : List AV} (h : H q = some b) : (H.set r z) q = some b := by
  rw [Heap.set_other (fun e => by rw [e, hr] at h; cases h)]; exact h
theorem ptrReads_frame {a : AV} {n : Nat} {K : List AV → Prop} (h : ptrReads H a n K) : ptrReads (H.set r z) a n K := by
  unfold ptrReads at *
  cases a <;> first | exact h | skip
  rename_i q off
  dsimp only at *
  cases hq : H q with
  | none => rw [hq] at h; exact h.elim
  | some cs => rw [hq] at h; rw [set_get hr hq]; exact h
theorem loadV_frame {tab : Tab} {t : Nat} {a : AV} {K : AV → Prop} (h : loadV tab t a H K) : loadV tab t a (H.set r z) K := by
  revert h
  unfold loadV
  cases tab t with
  | none => exact id
  | some d => exact ptrReads_frame hr
theorem storeV_frame {tab : Tab} {t : Nat} {a v : AV} {K : AV → Heap → Prop} (h : storeV tab t a v H (K .any ·)) : storeV tab t a v (H.set r z) (Kf K r z .any ·) := by
  revert h
  unfold storeV
  cases tab t <;> first | exact id | skip
  cases a <;> first | exact id | (cases v.cells <;> exact id) | skip
  cases v.cells <;> first | exact id | skip
  rename_i d q off vs
  intro h
  dsimp only at *
  cases hq : H q with
  | none => rw [hq] at h; exact h.elim
  | some cs =>
    rw [hq] at h; rw [set_get hr hq]
    have hne : q ≠ r := fun e => by rw [e, hr] at hq; cases hq
    exact ⟨h.1, h.2.1, h.2.2.1, H.set q (splice cs off vs), Heap.set_comm hne.symm _ _, by rw [Heap.set_other hne.symm]; exact hr, h.2.2.2⟩
theorem new_frame {X : Nat → AV} {cs : List AV} {K : AV → Heap → Prop} (h : ∀ q, H q = none → K (X q) (H.set q cs)) : ∀ q, (H.set r z) q = none → Kf K r z (X q) ((H.set r z).set q cs) := by
  intro q hq
  rw [Heap.set_none] at hq
  exact ⟨H.set q cs, Heap.set_comm (Ne.symm hq.1) _ _, by rw [Heap.set_other (Ne.symm hq.1)]; exact hr, h q hq.2⟩
theorem newK_frame {X : Nat → AV} {cs : List AV} {K : AV → Heap → Prop} (h : ∀ q, H q = none → wkK K (X q) (H.set q cs)) : ∀ q, (H.set r z) q = none → wkK (Kf K r z) (X q) ((H.set r z).set q cs) := by
  intro q hq
  rw [Heap.set_none] at hq
  rw [Heap.set_comm (Ne.symm hq.1)]
  exact (h q hq.2).frame (by rw [Heap.set_other (Ne.symm hq.1)]; exact hr)
theorem srcV_frame {sz : Nat} {x : AV} {K : List AV → Nat → Prop} (h : srcV H sz x K) : srcV (H.set r z) sz x K := by
  unfold srcV at *
  cases x with
  | p v => cases v <;> exact h
  | sl q sz' off len =>
    dsimp only at *
    cases hq : H q with
    | none => rw [hq] at h; exact h.2.elim
    | some cs => rw [hq] at h; rw [set_get hr hq]; exact h
  | _ => exact h
theorem baseV_frame {sz : Nat} {x : AV} {K K' : List AV → Nat → Heap → Prop} (k : ∀ o n H1, H1 r = none → (∀ q, H q = none → H1 q = none) → K o n H1 → K' o n (H1.set r z)) (h : baseV H sz x K) : baseV (H.set r z) sz x K' := by
  unfold baseV at *
  cases x <;> first | exact h | skip
  · rename_i v
    cases v <;> first | exact h | exact k _ _ _ hr (fun _ e => e) h
  · rename_i q sz' off len
    dsimp only at *
    cases hq : H q with
    | none => rw [hq] at h; exact h.2.elim
    | some cs =>
      rw [hq] at h; rw [set_get hr hq]
      have hne : q ≠ r := fun e => by rw [e, hr] at hq; cases hq
      refine ⟨h.1, h.2.1, ?_⟩
      rw [Heap.del_set_other hne.symm]
      refine k _ _ _ (by rw [Heap.del_other hne.symm]; exact hr) (fun q' e => ?_) h.2.2
      by_cases e' : q' = q
      · subst e'; exact Heap.del_same _ _
      · rw [Heap.del_other e']; exact e
  · exact k _ _ _ hr (fun _ e => e) h
theorem clearV_frame {tab : Tab} {t : Nat} {x : AV} {K : AV → Heap → Prop} (h : clearV tab t x H K) : clearV tab t x (H.set r z) (Kf K r z) := by
  revert h
  unfold clearV
  split
  · rename_i d q sz off len hdt
    split
    · split
      · intro h
        refine ⟨h.1, ?_⟩
        have h2 := h.2
        revert h2
        split
        · exact fun h => ⟨H, rfl, hr, h⟩
        · cases hq : H q with
          | none => exact fun h => h.elim
          | some cs =>
            rw [set_get hr hq]
            have hne : q ≠ r := fun e => by rw [e, hr] at hq; cases hq
            exact fun h => ⟨h.1, h.2.1, H.set q (splice cs off _), Heap.set_comm hne.symm _ _, by rw [Heap.set_other hne.symm]; exact hr, h.2.2⟩
      · exact id
    · exact id
  · exact id
theorem copyV_frame {tab : Tab} {t : Nat} {d x : AV} {K : AV → Heap → Prop} (h : copyV tab t d x H K) : copyV tab t d x (H.set r z) (Kf K r z) := by
  revert h
  unfold copyV
  split
  · rename_i td q sz off len m hdt hsl
    split
    · split
      · intro h
        refine ⟨h.1, ?_⟩
        have h2 := h.2
        revert h2
        split
        · exact fun h => ⟨H, rfl, hr, h⟩
        · intro h2
          refine srcV_frame hr (srcV_mono (fun vs n hb => ?_) h2)
          revert hb
          cases hq : H q with
          | none => exact fun h => h.elim
          | some cs =>
            rw [set_get hr hq]
            have hne : q ≠ r := fun e => by rw [e, hr] at hq; cases hq
            exact fun h => ⟨h.1, h.2.1, H.set q (splice cs off vs), Heap.set_comm hne.symm _ _, by rw [Heap.set_other hne.symm]; exact hr, h.2.2⟩
      · exact id
    · exact id
  · exact id
theorem appendV_frame {tab : Tab} {t0 t1 : Nat} {s x : AV} {K : AV → Heap → Prop} (h : appendV tab t0 t1 s x H (wkK K)) : appendV tab t0 t1 s x (H.set r z) (wkK (Kf K r z)) := by
  revert h
  unfold appendV
  cases tab t0 <;> cases tab t1 <;> first | exact id | skip
  rename_i d d1
  dsimp only
  cases d.k <;> cases d1.k <;> first | exact id | skip
  · rename_i e e1
    dsimp only
    cases tab e <;> first | exact id | skip
    rename_i ed
    dsimp only
    split
    · split
      · intro h
        refine ⟨h.1, h.2.1, h.2.2.1, fun q hq => ?_⟩
        rw [Heap.set_none] at hq
        rw [Heap.set_comm (Ne.symm hq.1)]
        exact (h.2.2.2 q hq.2).frame (by rw [Heap.set_other (Ne.symm hq.1)]; exact hr)
      · exact id
    · exact id
  rename_i e e1
  dsimp only
  cases tab e <;> first | exact id | skip
  rename_i ed
  intro h
  dsimp only at *
  refine srcV_frame hr (srcV_mono (fun vs n hb => baseV_frame hr (fun o m H1 h1 h2 hh => ?_) hb) h)
  refine ⟨hh.1, hh.2.1, hh.2.2.1, fun q hq => ?_⟩
  rw [Heap.set_none] at hq
  rw [Heap.set_comm (Ne.symm hq.1)]
  exact (hh.2.2.2 q hq.2).frame (by rw [Heap.set_other (Ne.symm hq.1)]; exact h1)
end
theorem opV_frame {P : Program} {tab : Tab} {o : Op} {env : List AV} {H : Heap} {K : AV → Heap → Prop} {r : Nat} {z : List AV} (hr : H r = none) (h : opV P tab o env H K) : opV P tab o env (H.set r z) (Kf K r z) := by
  by_cases hn : nhOp o = true
  · cases hrd : rdOp o with
    | false =>
      obtain ⟨S, u, hl⟩ := nh_pure (P := P) (tab := tab) hn hrd env
      obtain ⟨h1, h2⟩ := (hl H K).1 h
      exact (hl _ _).2 ⟨h1, H, rfl, hr, h2⟩
    | true =>
      cases o <;> first | (simp only [rdOp] at hrd; cases hrd; done) | skip
      rename_i t a
      simp only [opV] at h ⊢
      obtain ⟨S, u, hl⟩ := loadV_lin tab t (ev env a) H
      obtain ⟨h1, h2⟩ := (hl _).1 h
      have h3 := loadV_frame (z := z) hr ((hl (fun v => v = u)).2 ⟨h1, rfl⟩)
      obtain ⟨S', u', hl'⟩ := loadV_lin tab t (ev env a) (H.set r z)
      obtain ⟨h4, h5⟩ := (hl' _).1 h3
      exact (hl' _).2 ⟨h4, H, rfl, hr, h5 ▸ h2⟩
  · cases o <;> first | (simp only [nhOp, not_true_eq_false] at hn; done) | (simp only [opV] at h; done) | (simp only [opV] at h ⊢; exact h.elim) | skip
    case alloc t =>
      simp only [opV, allocV] at h ⊢
      revert h
      cases tab t with
      | none => exact id
      | some d => exact new_frame (X := fun q => .ptr q 0) hr
    case box t x =>
      simp only [opV, boxV] at h ⊢
      revert h
      cases (ev env x).cells with
      | none => exact id
      | some d => exact new_frame (X := fun q => .ptr q 0) hr
    case buildSlice t n ps =>
      simp only [opV, buildSliceV] at h ⊢
      revert h
      cases tab t <;> first | exact id | skip
      rename_i d
      dsimp only
      cases d.k <;> first | exact id | skip
      rename_i e
      dsimp only
      cases tab e <;> first | exact id | skip
      rename_i ed
      intro h
      dsimp only at *
      refine ⟨h.1, ?_⟩
      have h2 := h.2
      generalize fillV (fun i => some (i * ed.size, ed.size)) (zerosA n ed.zero) (List.map (fun p => (p.fst, ev env p.snd)) ps.toList) = fv at h2 ⊢
      cases fv with
      | none => exact h2
      | some cs => exact newK_frame (X := fun q => .sl q ed.size 0 n) hr h2
    case store t a x =>
      simp only [opV] at h ⊢
      exact storeV_frame hr h
    case makeSlice t l c =>
      simp only [opV, makeSliceV] at h ⊢
      revert h
      cases tab t <;> first | exact id | skip
      rename_i d
      dsimp only
      cases d.k <;> first | exact id | skip
      rename_i e
      dsimp only
      cases tab e <;> first | exact id | skip
      rename_i ed
      intro h
      dsimp only at *
      exact numV.mono (fun n h => numV.mono (fun m h => ⟨h.1, h.2.1, h.2.2.1, h.2.2.2.1, new_frame (X := fun q => .sl q ed.size 0 n.toNat) hr h.2.2.2.2⟩) h) h
    case call c =>
      simp only [opV] at h ⊢
      unfold callV at *
      revert h
      split
      · rename_i hc _; simp [nhOp, hc] at hn
      · split
        · intro h
          unfold capV at *
          revert h
          repeat' split
          all_goals first | exact fun h => ⟨H, rfl, hr, h⟩ | exact id
        · exact id
      · split
        · exact appendV_frame hr
        · exact id
      · split
        · exact copyV_frame hr
        · exact id
      · split
        · exact clearV_frame hr
        · exact id
      · rename_i b x y _ _ _ hc _
        intro h
        unfold mmV at *
        revert h
        split
        · exact fun h => ⟨H, rfl, hr, h⟩
        · exact fun h => ⟨H, rfl, hr, h⟩
        · exact id
      · split
        · exact fun h => h.frame hr
        · exact id
      · exact id
theorem stV_frame {P : Program} {tab : Tab} {x : XOp} {env : List AV} {H : Heap} {K : AV → Heap → Prop} {r : Nat} {z : List AV} (hr : H r = none) (h : stV P tab x env H K) : stV P tab x env (H.set r z) (Kf K r z) := by
  cases x with
  | run d o => exact opV_frame hr h
  | guarded g want d o =>
    simp only [stV] at *
    split at h
    · exact ⟨fun e => opV_frame hr (h.1 e), fun e => ⟨H, rfl, hr, h.2 e⟩⟩
    · exact ⟨H, rfl, hr, h⟩
    · exact h
  | bad => exact h
end Go.Sep
