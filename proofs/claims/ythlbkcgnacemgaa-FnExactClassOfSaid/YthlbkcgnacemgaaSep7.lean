/- Sep, part 7: make, len, append, copy. -/
import Derived.Test.YthlbkcgnacemgaaSep6
namespace Go.Sep
open Go Go.RowKit

def makeSliceV (tab : Tab) (t : Nat) (l c : AV) (H : Heap) (K : AV → Heap → Prop) : Prop :=
  match tab t with
  | some d => match d.k with
    | .slice e => match tab e with
      | some ed => numV l fun n => numV c fun m => 0 ≤ n ∧ n ≤ m ∧ m * ed.bytes ≤ 140737488355328 ∧ m ≤ 9223372036854775807 ∧
          ∀ r, H r = none → K (.sl r ed.size 0 n.toNat) (H.set r (zerosA n.toNat ed.zero))
      | none => False
    | _ => False
  | none => False

theorem zerosA_get {n m : Nat} {z : List AV} (h : n ≤ m) {i : Nat} {av : AV} (hi : (zerosA n z)[i]? = some av) : (zerosA m z)[i]? = some av := by
  obtain ⟨k, rfl⟩ : ∃ k, m = n + k := ⟨m - n, by omega⟩
  unfold zerosA at *
  rw [← List.replicate_append_replicate, List.flatten_append, List.getElem?_append_left (List.getElem?_eq_some_iff.1 hi).1]; exact hi

theorem wrap64_id {n : Int} (h0 : -9223372036854775808 ≤ n) (h1 : n ≤ 9223372036854775807) : IntKind.i64.wrap n = n := IntWalk.i64_in n (by omega)

theorem makeSliceV_ok {P : Program} {tab : Tab} (hT : tab.Ok P) {Z : Fro} {φ : Pm} {B0 : Nat} {w0 w : World} {H F : Heap} (hd : Disj H F) (s : Sim Z φ B0 w0 (H.or F) w) {t : Nat} {l c : AV} {xl xc : Value}
    (cl : Cv Z φ l xl) (cc : Cv Z φ c xc) {K : AV → Heap → Prop} (h : makeSliceV tab t l c H K) :
    ∃ y w', (Instr.makeSlice t xl xc).run P w = .ok y w' ∧ UpV B0 w0 F Z φ K y w' := by
  unfold makeSliceV at h
  split at h
  case h_2 => exact h.elim
  rename_i d hdt
  split at h
  case h_2 => exact h.elim
  rename_i e hk
  split at h
  case h_2 => exact h.elim
  rename_i ed hed
  obtain ⟨k1, n, rfl, h⟩ := numV_ok cl h
  obtain ⟨k2, m, rfl, h0, h1, h2, h3, h⟩ := numV_ok cc h
  have ok := hT t d hdt
  have oke := hT e ed hed
  have hu := ok.k
  rw [hk] at hu
  simp only [TK.ok] at hu
  obtain ⟨i, z, hi, hsz, hby, hz, hzc⟩ := oke.info
  have hzr : RelL Z φ ed.zero z.cells.toList := by rw [← hzc]; exact RelL.constA _ _ _
  have hzeros := zeros_rel hzr (by rw [oke.zlen]; exact oke.pos) m.toNat
  rw [oke.zlen] at hzeros
  have e1 : IntKind.i64.wrap n = n := wrap64_id (by omega) (by omega)
  have e2 : IntKind.i64.wrap m = m := wrap64_id (by omega) (by omega)
  have hcomm : (ed.bytes : Int) * m = m * ed.bytes := Int.mul_comm _ _
  have g1 : ¬ (m < 0) := by omega
  have g2 : ¬ (281474976710656 < (ed.bytes : Int) * m) := by rw [hcomm]; omega
  have g3 : ¬ (n < 0) := by omega
  have g4 : ¬ (m < n) := by omega
  have hzl : (zerosA n.toNat ed.zero).length ≤ m.toNat * ed.size := by
    rw [zerosA_len, oke.zlen]; exact Nat.mul_le_mul_right _ (by omega)
  by_cases hm0 : m.toNat * ed.size = 0
  · have hm : m.toNat = 0 := by rcases Nat.mul_eq_zero.1 hm0 with h | h; exact h; have := oke.pos; omega
    have hn : n.toNat = 0 := by omega
    obtain ⟨r, φ', q1, q2, q3, q4, q5⟩ := s.allocF hd #[] e 0 (Nat.le_refl _) (zerosA n.toNat ed.zero) (by rw [hn]; simp [zerosA]) (by rw [hn]; intro i av hi; simp [zerosA] at hi)
    refine ⟨.slice (some ⟨w.heap.size, 0, none⟩) n.toNat m.toNat, _, ?_, _, _, Z, φ', h r q1, Fro.le_refl _, q2, q4, q5, ?_⟩
    · have hr0 : Array.map (fun (_ : Nat) => (default : Value)) (Array.range 0) = #[] := by apply Array.ext'; simp
      simp [Instr.makeSlice, run_underlying hu, asInt, asIntOf, typeInfo, hi, e1, e2, hby, g1, g2, g3, g4, sizeOf, hsz, hm0, hr0, newRow]
    · rw [hn, hm]; exact .slz _ _ _ _
  · have hcs : ((Array.range (m.toNat * ed.size)).map (fun i => z.cells[i % z.cells.size]!)).size = m.toNat * ed.size := by simp
    obtain ⟨r, φ', q1, q2, q3, q4, q5⟩ := s.allocF hd ((Array.range (m.toNat * ed.size)).map (fun i => z.cells[i % z.cells.size]!)) e (m.toNat * ed.size) (by rw [hcs]; exact Nat.le_refl _) (zerosA n.toNat ed.zero) hzl
      (fun i av hi => by
        obtain ⟨y, hy, hc⟩ := hzeros.get (zerosA_get (m := m.toNat) (by omega) hi)
        rw [Array.getElem?_toList] at hy
        exact ⟨y, hy, hc⟩)
    refine ⟨.slice (some ⟨w.heap.size, 0, none⟩) n.toNat m.toNat, _, ?_, _, _, Z, φ', h r q1, Fro.le_refl _, q2, q4, q5, .sl q3 (by omega) (by simp only; omega)⟩
    simp [Instr.makeSlice, run_underlying hu, asInt, asIntOf, typeInfo, hi, e1, e2, hby, g1, g2, g3, g4, sizeOf, hsz, hm0, zeroValue, hz, newRow]

/-- A slice (or what lies in one) as a source of cells: the cells and how many elements. -/
def srcV (H : Heap) (sz : Nat) (x : AV) (K : List AV → Nat → Prop) : Prop :=
  match x with
  | .p .nil => K [] 0
  | .esl => K [] 0
  | .p (.sl es) => (∀ e ∈ es, e.length = sz) ∧ K (es.flatten.map .p) es.length
  | .sl r sz' off len => sz' = sz ∧ match H r with
    | some cs => off + len * sz ≤ cs.length ∧ K ((cs.drop off).take (len * sz)) len
    | none => False
  | _ => False

theorem srcV_ok {P : Program} {Z : Fro} {φ : Pm} {B0 : Nat} {w0 w : World} {H F : Heap} (s : Sim Z φ B0 w0 (H.or F) w) {sz : Nat} (hpos : 0 < sz) {x : AV} {v : Value} (c : Cv Z φ x v) {K : List AV → Nat → Prop} (h : srcV H sz x K) :
    ∃ a m cap vs xs, v = .slice a m cap ∧ K vs m ∧ vs.length = m * sz ∧ RelL Z φ vs xs ∧ m ≤ cap ∧
      ∀ w', w'.heap = w.heap → (Builtin.firstCells sz m v).run P w' = .ok xs.toArray w' := by
  have empty : ∀ (a : Option Addr) (cap : Nat) (w' : World), (Builtin.firstCells sz 0 (.slice a 0 cap)).run P w' = .ok (([] : List Value).toArray) w' := by
    intro a cap w'
    cases a with
    | none => simp [Builtin.firstCells]
    | some a => simp [Builtin.firstCells, loadCells, loadCellsFrom]
  cases c with
  | p hz =>
    cases hz with
    | nil => exact ⟨none, 0, 0, [], [], rfl, h, by simp, RelL.nil _ _, Nat.le_refl _, fun w' _ => empty _ _ w'⟩
    | emp a c =>
      obtain ⟨_, hK⟩ := h
      exact ⟨a, 0, c, [], [], rfl, hK, by simp, RelL.nil _ _, Nat.zero_le _, fun w' _ => empty _ _ w'⟩
    | sl es sz' b o c vals hc hs hz hv =>
      obtain ⟨hes, hK⟩ := h
      have hfl := flatten_len es hes
      have hg : ∀ (i : Nat) (av : AV), (es.flatten.map AV.p)[i]? = some av → ∃ y, w.cell? ⟨b, o + i, none⟩ = some y ∧ Cv Z φ av y := by
        intro i av hi
        rw [List.getElem?_map, flatten_get hpos es hes] at hi
        cases he : es[i / sz]? with
        | none => rw [he] at hi; cases hi
        | some e =>
          rw [he] at hi
          simp only [Option.bind_some] at hi
          cases hp : e[i % sz]? with
          | none => rw [hp] at hi; cases hi
          | some p =>
            rw [hp] at hi; cases hi
            have hlt := (List.getElem?_eq_some_iff.1 he).1
            have hse : sz' = sz := by rw [← hs _ (List.getElem_mem hlt), hes _ (List.getElem_mem hlt)]
            subst hse
            have hcz := hv _ e he _ p hp
            have hii : i / sz' * sz' + i % sz' = i := by rw [Nat.mul_comm]; exact Nat.div_add_mod i sz'
            rw [hii] at hcz
            have hil : i < es.length * sz' := by
              have h1 : (i / sz' + 1) * sz' ≤ es.length * sz' := Nat.mul_le_mul_right _ hlt
              rw [Nat.add_mul] at h1
              have := Nat.mod_lt i hpos
              omega
            exact ⟨_, s.froz _ _ _ (hz i hil), .p hcz⟩
      obtain ⟨xs, hr, hx⟩ := RelL.gather _ (fun i => w.cell? ⟨b, o + i, none⟩) hg
      have hvl : (es.flatten.map AV.p).length = es.length * sz := by rw [List.length_map, hfl]
      refine ⟨_, _, c, _, xs, rfl, hK, hvl, hr, hc, ?_⟩
      intro w' hw'
      refine run_firstCells_some w' sz es.length ⟨b, o, none⟩ es.length c xs (by rw [hr.1, hvl]) ?_
      intro j y hy
      rw [addr_add]
      have := hx j y hy
      simpa [World.cell?, hw'] using this
    | _ => exact h.elim
  | esl a => exact ⟨a, 0, 0, [], [], rfl, h, by simp, RelL.nil _ _, Nat.le_refl _, fun w' _ => empty _ _ w'⟩
  | slz r sz' off a =>
    obtain ⟨rfl, h⟩ := h
    split at h
    case h_2 => exact h.elim
    obtain ⟨_, hK⟩ := h
    exact ⟨a, 0, 0, _, [], rfl, hK, by simp, by simpa using RelL.nil Z φ, Nat.le_refl _, fun w' _ => empty _ _ w'⟩
  | sl hp hl hC =>
    rename_i r sz' off len cap pl
    obtain ⟨rfl, h⟩ := h
    split at h
    case h_2 => exact h.elim
    rename_i cs hH
    obtain ⟨hlen, hK⟩ := h
    obtain ⟨b, o, vs, xs, hx, hk, hvl, hr, hcell⟩ := ptrReads_ok (K := fun vs => K vs len) s (Cv.ptr (Z := Z) off hp) (n := len * sz') (by simp only [ptrReads]; rw [hH]; exact ⟨hlen, hK⟩)
    cases hx
    refine ⟨_, _, cap, vs, xs, rfl, hk, hvl, hr, hl, ?_⟩
    intro w' hw'
    refine run_firstCells_some w' sz' len _ len cap xs (by rw [hr.1, hvl]) ?_
    intro j y hy
    rw [addr_add]
    have := hcell j y hy
    simpa [World.cell?, hw'] using this
  | _ => exact h.elim

def lenV (tab : Tab) (t : Nat) (x : AV) (K : AV → Prop) : Prop :=
  match tab t with
  | some d => match d.k with
    | .slice _ => match x with
      | .p .nil => K (.p (.int .i64 0))
      | .esl => K (.p (.int .i64 0))
      | .p (.sl es) => K (.p (.int .i64 es.length))
      | .sl _ _ _ len => K (.p (.int .i64 len))
      | _ => False
    | .str => match x with
      | .p (.str s) => K (.p (.int .i64 s.size))
      | _ => False
    | _ => False
  | none => False

theorem lenV_ok {P : Program} {tab : Tab} (hT : tab.Ok P) {Z : Fro} {φ : Pm} {w : World} {t : Nat} {a : AV} {x : Value} (c : Cv Z φ a x) (ty : Nat) {K : AV → Prop} (h : lenV tab t a K) :
    ∃ v y, K v ∧ Cv Z φ v y ∧ (Builtin.len_ #[t] ty #[x]).run P w = .ok y w := by
  unfold lenV at h
  split at h
  case h_2 => exact h.elim
  rename_i d hdt
  have ok := hT t d hdt
  split at h
  · rename_i e hk
    have hu := ok.k
    rw [hk] at hu
    simp only [TK.ok] at hu
    have fin : ∀ (a : Option Addr) (n cap : Nat), (Builtin.len_ #[t] ty #[.slice a n cap]).run P w = .ok (.int .i64 n) w := by
      intro a n cap
      simp [Builtin.len_, run_underlying hu, goInt]
    cases c with
    | p hz =>
      cases hz with
      | nil => exact ⟨_, _, h, .p (.int _ _), fin _ _ _⟩
      | emp a c => exact ⟨_, _, h, .p (.int _ _), fin _ _ _⟩
      | sl es sz b o c vals hc hsz hz hv => exact ⟨_, _, h, .p (.int _ _), fin _ _ _⟩
      | _ => exact h.elim
    | esl a => exact ⟨_, _, h, .p (.int _ _), fin _ _ _⟩
    | slz r sz off a => exact ⟨_, _, h, .p (.int _ _), fin _ _ _⟩
    | sl hp hl hC => exact ⟨_, _, h, .p (.int _ _), fin _ _ _⟩
    | _ => exact h.elim
  · rename_i hk
    have hu := ok.k
    rw [hk] at hu
    simp only [TK.ok] at hu
    cases c with
    | p hz =>
      cases hz with
      | str s => exact ⟨_, _, h, .p (.int _ _), by simp [Builtin.len_, run_underlying hu, goInt]⟩
      | _ => exact h.elim
    | _ => exact h.elim
  · exact h.elim

theorem splice_take {bcs new : List AV} {off L M : Nat} (h : off + L ≤ bcs.length) (hn : new.length = M) :
    ((splice bcs (off + L) new).drop off).take (L + M) = (bcs.drop off).take L ++ new := by
  unfold splice
  have hl1 : ((bcs.drop off).take L).length = L := by simp only [List.length_take, List.length_drop]; omega
  rw [List.append_assoc, List.drop_append_of_le_length (by simp only [List.length_take]; omega), List.drop_take, show off + L - off = L by omega,
    List.take_append, hl1, List.take_of_length_le (l := (bcs.drop off).take L) (by omega), show L + M - L = M by omega,
    List.take_append_of_le_length (by omega), List.take_of_length_le (l := new) (by omega)]

/-- The base of an append: its cells, how many elements, and the heap without it. -/
def baseV (H : Heap) (sz : Nat) (x : AV) (K : List AV → Nat → Heap → Prop) : Prop :=
  match x with
  | .p .nil => K [] 0 H
  | .esl => K [] 0 H
  | .sl r sz' off len => sz' = sz ∧ match H r with
    | some cs => off + len * sz ≤ cs.length ∧ K ((cs.drop off).take (len * sz)) len (H.del r)
    | none => False
  | _ => False

def appendV (tab : Tab) (t0 t1 : Nat) (s x : AV) (H : Heap) (K : AV → Heap → Prop) : Prop :=
  match tab t0, tab t1 with
  | some d, some d1 => match d.k, d1.k with
    | .slice e, .slice _ => match tab e with
      | some ed => srcV H ed.size x fun new m => baseV H ed.size s fun old n H1 =>
          (n + m) * ed.bytes ≤ 140737488355328 ∧ n + m ≤ 9223372036854775807 ∧ new.all AV.isCell = true ∧
          ∀ r, H r = none → K (.sl r ed.size 0 (n + m)) (H1.set r (old ++ new))
      | none => False
    | _, _ => False
  | _, _ => False

theorem Heap.or_del_set {H F : Heap} {r r' : Nat} {b : List AV} (hF : F r = none) : ((H.del r).set r' b).or F = ((H.or F).del r).set r' b := by
  rw [Heap.or_set, Heap.or_del hF]

theorem appendV_ok {P : Program} {tab : Tab} (hT : tab.Ok P) {Z : Fro} {φ : Pm} {B0 : Nat} {w0 w : World} {H F : Heap} (hd : Disj H F) (s : Sim Z φ B0 w0 (H.or F) w) {t0 t1 : Nat} {sv x : AV} {xs xx : Value}
    (cs : Cv Z φ sv xs) (cx : Cv Z φ x xx) (ty : Nat) {K : AV → Heap → Prop} (h : appendV tab t0 t1 sv x H K) :
    ∃ y w', (Builtin.append_ #[t0, t1] ty #[xs, xx]).run P w = .ok y w' ∧ UpV B0 w0 F Z φ K y w' := by
  unfold appendV at h
  split at h
  case h_2 => exact h.elim
  rename_i d d1 hdt hdt1
  split at h
  case h_2 => exact h.elim
  rename_i e e1 hk hk1
  split at h
  case h_2 => exact h.elim
  rename_i ed hed
  have ok := hT t0 d hdt
  have ok1 := hT t1 d1 hdt1
  have oke := hT e ed hed
  have hu := ok.k
  rw [hk] at hu
  simp only [TK.ok] at hu
  have hu1 := ok1.k
  rw [hk1] at hu1
  simp only [TK.ok] at hu1
  obtain ⟨i, z, hi, hsz, hby, hz, hzc⟩ := oke.info
  have hzl : z.cells.size = ed.size := by have := congrArg List.length hzc; simp only [List.length_map, Array.length_toList] at this; rw [this, oke.zlen]
  have hpos := oke.pos
  obtain ⟨xa, m, xcap, new, news, rfl, hK, hnl, hnr, _, hnrun⟩ := srcV_ok (P := P) s hpos cx h
  have hnewsl : news.length = m * ed.size := by rw [hnr.1, hnl]
  -- the grown row
  have grow : ∀ (base : Option Addr) (n c : Nat) (old : List AV) (olds : List Value) (H1 : Heap), Heap.le H1 H → RelL Z φ old olds → old.length = n * ed.size →
      (Builtin.firstCells ed.size n (.slice base n c)).run P w.drew = .ok olds.toArray w.drew → c < n + m → (n + m) * ed.bytes ≤ 140737488355328 → n + m ≤ 9223372036854775807 →
      (∀ r, H r = none → K (.sl r ed.size 0 (n + m)) (H1.set r (old ++ new))) →
      ∃ y w', (Builtin.append_ #[t0, t1] ty #[.slice base n c, .slice xa m xcap]).run P w = .ok y w' ∧ UpV B0 w0 F Z φ K y w' := by
    intro base n c old olds H1 hle hor hol hrun hlt hb h63 hK
    have g1 : ¬ (n + m ≤ c) := by omega
    have g3 := growslice_fits (old := c) hlt hb
    have g3' : ¬ (281474976710656 < Builtin.nextslicecap (n + m) c * ed.bytes) := by omega
    have g4 : ¬ ((9223372036854775807 : Int) < (n : Int) + (m : Int)) := by omega
    have hge := grownCap_ge w (n + m) c e
    have hrel : RelL Z φ (old ++ new) (olds ++ news) := hor.append hnr
    have hcur : (olds ++ news).length = (n + m) * ed.size := by rw [hrel.1, List.length_append, hol, hnl, Nat.add_mul]
    have hcs : (olds.toArray ++ news.toArray ++ Builtin.zeroCells z.cells (grownCap w (n + m) c e - (n + m))).size = grownCap w (n + m) c e * ed.size := by
      simp only [Array.size_append, List.size_toArray, size_zeroCells, hzl]
      simp only [List.length_append] at hcur
      rw [hcur, ← Nat.add_mul]; congr 1; omega
    obtain ⟨r, φ', q1, q2, q3, q4, q5⟩ := s.drew.allocF hd (olds.toArray ++ news.toArray ++ Builtin.zeroCells z.cells (grownCap w (n + m) c e - (n + m))) e (grownCap w (n + m) c e * ed.size) (by rw [hcs]; exact Nat.le_refl _) (old ++ new)
      (by rw [← hrel.1, hcur]; exact Nat.mul_le_mul_right _ hge)
      (fun i av hi => by
        obtain ⟨y, hy, hc⟩ := hrel.get hi
        refine ⟨y, ?_, hc⟩
        have hil : i < (olds ++ news).length := (List.getElem?_eq_some_iff.1 hy).1
        rw [Array.getElem?_append_left (by simpa using hil)]
        simpa using hy)
    have hle2 : Heap.le (H1.set r (old ++ new)) (H.set r (old ++ new)) := Heap.set_le hle
    refine ⟨.slice (some ⟨w.heap.size, 0, none⟩) (n + m) (grownCap w (n + m) c e), _, ?_, _, _, Z, φ', hK r q1, Fro.le_refl _, q2, q4.of_le hle2, q5.forget (Heap.or_le hle2 q4), .sl q3 hge (by simp only; omega)⟩
    simp [Builtin.append_, run_underlying hu, run_underlying hu1, TD.run_size oke, typeInfo, zeroValue, hi, hz, hby, Builtin.lenOf, g1, g3', g4, Question.forced, hrun, hnrun w.drew rfl, newRow, grownCap]
    congr 2
    apply Array.ext'
    simp [List.append_assoc]
  -- nothing is appended onto nothing
  have none_ : ∀ (base : Option Addr) (H1 : Heap), Heap.le H1 H → m = 0 → (∀ r, H r = none → K (.sl r ed.size 0 (0 + m)) (H1.set r ([] ++ new))) →
      ∃ y w', (Builtin.append_ #[t0, t1] ty #[.slice base 0 0, .slice xa m xcap]).run P w = .ok y w' ∧ UpV B0 w0 F Z φ K y w' := by
    intro base H1 hle hm hK
    subst hm
    have hnew : new = [] := List.eq_nil_of_length_eq_zero (by omega)
    have hnews : news = [] := List.eq_nil_of_length_eq_zero (by omega)
    subst hnew; subst hnews
    obtain ⟨r, φ', q1, q2, q3, q4, q5⟩ := s.ghost
    have hHr : H r = none := by
      cases hH : H r with
      | none => rfl
      | some b => rw [Heap.or_left hH] at q1; cases q1
    have hFr : F r = none := by simpa [Heap.or, hHr] using q1
    have hd2 : Disj (H.set r []) F := hd.set hFr
    have hle2 : Heap.le (H1.set r []) (H.set r []) := Heap.set_le hle
    rw [← Heap.or_set] at q5
    refine ⟨.slice base 0 0, w, ?_, _, _, Z, φ', hK r hHr, Fro.le_refl _, q3, hd2.of_le hle2, q5.forget (Heap.or_le hle2 hd2), .slz _ _ _ _⟩
    have h0 := hnrun w rfl
    cases base with
    | none => simp [Builtin.append_, run_underlying hu, run_underlying hu1, TD.run_size oke, Builtin.lenOf, h0]
    | some a => simp [Builtin.append_, run_underlying hu, run_underlying hu1, TD.run_size oke, Builtin.lenOf, h0, storeCells]
  have nilrun : ∀ (base : Option Addr), (Builtin.firstCells ed.size 0 (.slice base 0 0)).run P w.drew = .ok (([] : List Value).toArray) w.drew := by
    intro base
    cases base with
    | none => simp [Builtin.firstCells]
    | some a => simp [Builtin.firstCells, loadCells, loadCellsFrom]
  have fromNil : ∀ (base : Option Addr) (H1 : Heap), Heap.le H1 H → ((0 + m) * ed.bytes ≤ 140737488355328 ∧ 0 + m ≤ 9223372036854775807 ∧ new.all AV.isCell = true ∧
      ∀ r, H r = none → K (.sl r ed.size 0 (0 + m)) (H1.set r ([] ++ new))) →
      ∃ y w', (Builtin.append_ #[t0, t1] ty #[.slice base 0 0, .slice xa m xcap]).run P w = .ok y w' ∧ UpV B0 w0 F Z φ K y w' := by
    intro base H1 hle hK
    by_cases hm : m = 0
    · exact none_ base H1 hle hm hK.2.2.2
    · exact grow base 0 0 [] [] H1 hle (RelL.nil _ _) (by simp) (nilrun base) (by omega) hK.1 hK.2.1 hK.2.2.2
  have hdel : ∀ r, Heap.le (H.del r) H := by
    intro r x b hx
    by_cases h : x = r
    · subst h; rw [Heap.del_same] at hx; cases hx
    · rwa [Heap.del_other h] at hx
  cases cs with
  | p hz0 =>
    cases hz0 with
    | nil => exact fromNil none H (Heap.le_refl _) hK
    | _ => exact hK.elim
  | esl a => exact fromNil a H (Heap.le_refl _) hK
  | slz r sz' off a =>
    obtain ⟨rfl, hK⟩ := hK
    split at hK
    case h_2 => exact hK.elim
    obtain ⟨_, hK⟩ := hK
    simp only [Nat.zero_mul, List.take_zero] at hK
    exact fromNil a (H.del r) (hdel r) hK
  | sl hp hl hC =>
    rename_i r sz' off len cap pl
    obtain ⟨rfl, hK⟩ := hK
    split at hK
    case h_2 => exact hK.elim
    rename_i bcs hH
    obtain ⟨hlen, hb, h63, hcell, hK⟩ := hK
    by_cases hroom : len + m ≤ cap
    · have hCm : (len + m) * ed.size ≤ cap * ed.size := Nat.mul_le_mul_right _ hroom
      rw [Nat.add_mul] at hCm
      obtain ⟨w', hrun, s'⟩ := s.store (Heap.or_left hH) hp (off := off + len * ed.size) (vs := new) (xs := news) (by omega) (by omega) hnr hcell P
      have hsr : ((H.or F).set r (splice bcs (off + len * ed.size) new)) r = some (splice bcs (off + len * ed.size) new) := Heap.set_same _ _ _
      obtain ⟨r', φ', q1, q2, q3, q4, q5⟩ := s'.sub hsr hp off (len * ed.size + m * ed.size)
      have hr'r : r' ≠ r := fun e => by subst e; rw [hsr] at q1; cases q1
      rw [Heap.set_other hr'r] at q1
      have hHr : H r' = none := by
        cases hH : H r' with
        | none => rfl
        | some b => rw [Heap.or_left hH] at q1; cases q1
      have hFr : F r' = none := by simpa [Heap.or, hHr] using q1
      have hFr0 : F r = none := hd.fresh hH
      have hblk : ((splice bcs (off + len * ed.size) new).drop off).take (len * ed.size + m * ed.size) = (bcs.drop off).take (len * ed.size) ++ new := by
        exact splice_take hlen hnl
      rw [hblk] at q5
      have heq : (((H.or F).set r (splice bcs (off + len * ed.size) new)).del r).set r' ((bcs.drop off).take (len * ed.size) ++ new) = ((H.del r).set r' ((bcs.drop off).take (len * ed.size) ++ new)).or F := by
        rw [Heap.or_set, Heap.or_del hFr0]
        funext x
        simp only [Heap.set, Heap.del]
        by_cases hx : x = r' <;> by_cases hx2 : x = r <;> simp [hx, hx2]
      rw [heq] at q5
      refine ⟨.slice (some ⟨pl.b, pl.o + off, none⟩) (len + m) cap, w', ?_, _, _, Z, φ', hK r' hHr, Fro.le_refl _, q3, (hd.del).set hFr, q5, ?_⟩
      · have h0 := hnrun w rfl
        have hst : (storeCells (⟨pl.b, pl.o + off + len * ed.size, none⟩ : Addr) news 0).run P w = .ok () w' := by
          rw [Nat.add_assoc]; exact hrun
        simp [Builtin.append_, run_underlying hu, run_underlying hu1, TD.run_size oke, Builtin.lenOf, h0, hroom, addr_add, hst]
      · exact .sl (pl := ⟨pl.b, pl.o + off, pl.C - off⟩) q4 hroom (by simp only; omega)
    · obtain ⟨b, o, vs, oxs, hx, hk, hvl, hr, hcellr⟩ := ptrReads_ok (K := fun vs => vs = (bcs.drop off).take (len * ed.size)) s (Cv.ptr (Z := Z) off hp) (n := len * ed.size) (by simp only [ptrReads]; rw [hH]; exact ⟨hlen, rfl⟩)
      cases hx
      subst hk
      refine grow _ len cap _ oxs (H.del r) (hdel r) hr hvl ?_ (by omega) hb h63 hK
      refine run_firstCells_some w.drew ed.size len _ len cap oxs (by rw [hr.1, hvl]) ?_
      intro j y hy
      rw [addr_add, World.cell?_drew]
      exact hcellr j y hy
  | _ => exact hK.elim

end Go.Sep
