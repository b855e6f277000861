/- Sep, part 5: operations on slices. -/
import Derived.Test.YthlbkcgnacemgaaSep4
namespace Go.Sep
open Go Go.RowKit

def numV (a : AV) (K : Int → Prop) : Prop :=
  match a with
  | .p (.int _ n) => K n
  | _ => False

theorem numV_ok {Z : Fro} {φ : Pm} {a : AV} {x : Value} (c : Cv Z φ a x) {K : Int → Prop} (h : numV a K) : ∃ k n, x = .int k n ∧ K n := by
  cases c with
  | p hz => cases hz with
    | int k n => exact ⟨k, n, rfl, h⟩
    | _ => exact h.elim
  | _ => exact h.elim

/-- A bound of a slice expression, or what stands for it. -/
def bndV (o : Option AV) (n : Int) (K : Int → Prop) : Prop :=
  match o with
  | some a => numV a K
  | none => K n

theorem numV.mono {a : AV} {A B : Int → Prop} (hAB : ∀ v, A v → B v) (h : numV a A) : numV a B := by
  unfold numV at *
  split at h
  · exact hAB _ h
  · exact h.elim

theorem bndV.mono {o : Option AV} {n : Int} {A B : Int → Prop} (hAB : ∀ v, A v → B v) (h : bndV o n A) : bndV o n B := by
  cases o with
  | none => exact hAB _ h
  | some a => exact numV.mono hAB h

def sliceV (tab : Tab) (t : Nat) (a : AV) (lo hi mx : Option AV) (K : AV → Prop) : Prop :=
  match tab t with
  | some d => match d.k with
    | .slice e => match tab e with
      | some ed => match a with
        | .sl r sz off len => sz = ed.size ∧ (mx.isSome = true → hi.isSome = true) ∧ bndV lo 0 fun l => bndV hi len fun h => bndV mx h fun m => 0 ≤ l ∧ l ≤ h ∧ h ≤ m ∧ m ≤ len ∧
            K (if mx.isSome = true ∧ m = 0 then .esl else .sl r sz (off + l.toNat * sz) (h - l).toNat)
        | .p (.sl es) => (mx.isSome = true → hi.isSome = true) ∧ bndV lo 0 fun l => bndV hi es.length fun h => bndV mx h fun m => 0 ≤ l ∧ l ≤ h ∧ h ≤ m ∧ m ≤ es.length ∧
            (∀ e ∈ es, e.length = ed.size) ∧ ((mx.isSome = true ∧ m = 0 ∧ K .esl) ∨ ((mx.isSome = true → m ≠ 0) ∧ K (.p (.sl ((es.drop l.toNat).take (h - l).toNat)))))
        | .p .nil => (mx.isSome = true → hi.isSome = true) ∧ bndV lo 0 fun l => bndV hi 0 fun h => bndV mx h fun m => l = 0 ∧ h = 0 ∧ m = 0 ∧ K (if mx.isSome then .esl else .p .nil)
        | _ => False
      | none => False
    | .str => match a with
      | .p (.str s) => mx.isSome = false ∧ bndV lo 0 fun l => bndV hi s.size fun h => 0 ≤ l ∧ l ≤ h ∧ h ≤ s.size ∧ K (.p (.str (s.extract l.toNat h.toNat)))
      | _ => False
    | _ => False
  | none => False

def OptRel (Z : Fro) (φ : Pm) : Option AV → Option Value → Prop
  | none, none => True
  | some a, some x => Cv Z φ a x
  | _, _ => False

/-- The bounds of a slice expression, worked out. -/
theorem bounds_ok {P : Program} {Z : Fro} {φ : Pm} (w : World) {lo hi mx : Option AV} {xl xh xm : Option Value} (cl : OptRel Z φ lo xl) (ch : OptRel Z φ hi xh) (cm : OptRel Z φ mx xm) (isS : Bool) (len cap : Nat) (n : Int)
    (hn : n = len) (hc : len ≤ cap) (hms : isS = false → mx = none ∧ cap = len) (hmh : mx.isSome = true → hi.isSome = true) {K : Int → Int → Int → Prop}
    (h : bndV lo 0 fun l => bndV hi n fun hh => bndV mx hh fun m => 0 ≤ l ∧ l ≤ hh ∧ hh ≤ m ∧ m ≤ len ∧ K l hh m) :
    ∃ (l hh m m' : Nat), K l hh m ∧ l ≤ hh ∧ hh ≤ m ∧ m ≤ len ∧ hh ≤ m' ∧ m' ≤ cap ∧ (mx.isSome = true → m' = m) ∧ (mx.isSome = false → m' = cap) ∧
      (Instr.sliceBounds isS len cap xl xh xm).run P w = .ok (l, hh, m') w := by
  have bnd : ∀ (v : Int) (k : IntKind) (y : Nat) (c : BoundsCode), 0 ≤ v → v ≤ y → (Instr.sliceBound (.int k v) y c).run P w = .ok v.toNat w := by
    intro v k y c h0 h1
    simp [Instr.sliceBound, asIntOf, h0, h1]
  have getl : ∃ l : Int, (bndV hi n fun hh => bndV mx hh fun m => 0 ≤ l ∧ l ≤ hh ∧ hh ≤ m ∧ m ≤ len ∧ K l hh m) ∧ ((xl = none ∧ l = 0) ∨ ∃ k, xl = some (.int k l)) := by
    cases lo with
    | none => cases xl with
      | none => exact ⟨0, h, .inl ⟨rfl, rfl⟩⟩
      | some x => exact cl.elim
    | some a => cases xl with
      | none => exact cl.elim
      | some x => obtain ⟨k, n, rfl, hk⟩ := numV_ok cl h; exact ⟨n, hk, .inr ⟨k, rfl⟩⟩
  obtain ⟨l, hl, hxl⟩ := getl
  have geth : ∃ hh : Int, (bndV mx hh fun m => 0 ≤ l ∧ l ≤ hh ∧ hh ≤ m ∧ m ≤ len ∧ K l hh m) ∧ ((xh = none ∧ hh = len) ∨ ∃ k, xh = some (.int k hh)) := by
    cases hi with
    | none => cases xh with
      | none => exact ⟨n, hl, .inl ⟨rfl, hn⟩⟩
      | some x => exact ch.elim
    | some a => cases xh with
      | none => exact ch.elim
      | some x => obtain ⟨k, n, rfl, hk⟩ := numV_ok ch hl; exact ⟨n, hk, .inr ⟨k, rfl⟩⟩
  obtain ⟨hh, hm, hxh⟩ := geth
  cases mx with
  | none => cases xm with
    | some x => exact cm.elim
    | none =>
      obtain ⟨h0, h1, h2, h3, hK⟩ := hm
      refine ⟨l.toNat, hh.toNat, hh.toNat, cap, by rw [Int.toNat_of_nonneg h0, Int.toNat_of_nonneg (by omega)]; exact hK, by omega, by omega, by omega, by omega, by omega, by simp, by simp, ?_⟩
      have el := fun k c => bnd l k hh.toNat c h0 (by omega)
      have eh := fun k c => bnd hh k cap c (by omega) (by omega)
      rcases hxl with ⟨rfl, rfl⟩ | ⟨k, rfl⟩ <;> rcases hxh with ⟨rfl, rfl⟩ | ⟨k', rfl⟩ <;> 
        (unfold Instr.sliceBounds
         simp only [Sem.run_bind, Sem.run_pure, Result.andThen_ok]
         try rw [eh]
         simp only [Result.andThen_ok, Int.toNat_natCast] at *
         try rw [el]
         first | rfl | simp)
  | some am => cases xm with
    | none => exact cm.elim
    | some x =>
      obtain ⟨km, m, rfl, h0, h1, h2, h3, hK⟩ := numV_ok cm hm
      have hS : isS = true := by cases isS with | true => rfl | false => exact absurd (hms rfl).1 (by simp)
      refine ⟨l.toNat, hh.toNat, m.toNat, m.toNat, by rw [Int.toNat_of_nonneg h0, Int.toNat_of_nonneg (by omega), Int.toNat_of_nonneg (by omega)]; exact hK, by omega, by omega, by omega, by omega, by omega, by simp, by simp, ?_⟩
      have e0 := fun c => bnd m km cap c (by omega) (by omega)
      have el := fun k c => bnd l k hh.toNat c h0 (by omega)
      have eh := fun k c => bnd hh k m.toNat c (by omega) (by omega)
      rcases hxh with ⟨rfl, _⟩ | ⟨k', rfl⟩
      · exact absurd (hmh rfl) (by cases hi with | none => simp | some _ => exact ch.elim)
      · rcases hxl with ⟨rfl, rfl⟩ | ⟨k, rfl⟩ <;> simp [Instr.sliceBounds, e0, eh, el]

theorem Cz.drop {Z : Fro} {es : List (List PV)} {x : Value} (c : Cz Z (.sl es) x) (l n : Nat) (h : l + n ≤ es.length) (sz : Nat) (hsz : ∀ e ∈ es, e.length = sz) :
    ∃ a cap, x = .slice a es.length cap ∧ es.length ≤ cap ∧ ∀ cap', n ≤ cap' →
      Cz Z (.sl ((es.drop l).take n)) (.slice (a.map (·.add (l * sz))) n cap') ∧ (n = 0 → ∀ a', Cz Z (.sl ((es.drop l).take n)) (.slice a' n cap')) := by
  have hemp : ∀ (a' : Option Addr) (cap' : Nat), n = 0 → Cz Z (.sl ((es.drop l).take n)) (.slice a' n cap') := by
    intro a' cap' hn
    subst hn
    rw [List.take_zero]; exact .emp _ _
  cases c with
  | emp a c =>
    refine ⟨a, c, rfl, Nat.zero_le _, fun cap' _ => ?_⟩
    have hn : n = 0 := by simp at h; omega
    exact ⟨hemp _ _ hn, fun _ a' => hemp a' cap' hn⟩
  | sl _ sz' b o c vals hc hs hz hv =>
    refine ⟨some ⟨b, o, none⟩, c, rfl, hc, fun cap' hcap => ⟨?_, fun hn a' => hemp a' cap' hn⟩⟩
    by_cases hn : n = 0
    · exact hemp _ _ hn
    have hlen : ((es.drop l).take n).length = n := by simp only [List.length_take, List.length_drop]; omega
    have hse : sz' = sz := by
      have h0 : 0 < es.length := by omega
      rw [← hs _ (List.getElem_mem h0), hsz _ (List.getElem_mem h0)]
    subst hse
    have e1 : ((some (⟨b, o, none⟩ : Addr)).map (·.add (l * sz'))) = some ⟨b, o + l * sz', none⟩ := by simp [addr_add]
    rw [e1]
    have key := Cz.sl (Z := Z) ((es.drop l).take n) sz' b (o + l * sz') cap' (fun i => vals (l * sz' + i)) (by omega)
      (fun e he => hs e (List.mem_of_mem_drop (List.mem_of_mem_take he)))
      (by
        intro i hi
        rw [hlen] at hi
        rw [Nat.add_assoc]
        refine hz _ ?_
        have : (l + n) * sz' ≤ es.length * sz' := Nat.mul_le_mul_right _ h
        rw [Nat.add_mul] at this; omega)
      (by
        intro i e he j p hp
        rw [List.getElem?_take] at he
        split at he
        case isFalse => cases he
        rw [List.getElem?_drop] at he
        have := hv _ e he j p hp
        rw [Nat.add_mul, Nat.add_assoc] at this
        exact this)
    rw [hlen] at key
    exact key

theorem sliceV_ok {P : Program} {tab : Tab} (hT : tab.Ok P) {Z : Fro} {φ : Pm} {w : World} {t : Nat} {a : AV} {x : Value} (c : Cv Z φ a x) {lo hi mx : Option AV} {xl xh xm : Option Value}
    (cl : OptRel Z φ lo xl) (ch : OptRel Z φ hi xh) (cm : OptRel Z φ mx xm) {K : AV → Prop} (h : sliceV tab t a lo hi mx K) :
    ∃ v y, K v ∧ Cv Z φ v y ∧ (Instr.sliceAt t x xl xh xm).run P w = .ok y w := by
  unfold sliceV at h
  split at h
  case h_2 => exact h.elim
  rename_i d hdt
  have ok := hT t d hdt
  split at h
  · rename_i e hk
    split at h
    case h_2 => exact h.elim
    rename_i ed hed
    have oke := hT e ed hed
    have hu := ok.k
    rw [hk] at hu
    simp only [TK.ok] at hu
    cases c with
    | slz r sz off a =>
      obtain ⟨rfl, hmh, h⟩ := h
      obtain ⟨l, hh, m, m', hK, h1, h2, h3, h4, h5, h6, h7, hrun⟩ := bounds_ok (P := P) w cl ch cm true 0 0 _ (by rfl) (Nat.le_refl _) (by simp) hmh h
      have hl0 : l = 0 := by omega
      have hh0 : hh = 0 := by omega
      have hm0 : m = 0 := by omega
      have hm0' : m' = 0 := by omega
      subst hl0; subst hh0; subst hm0; subst hm0'
      refine ⟨_, .slice a 0 0, hK, ?_, ?_⟩
      · split
        · exact .esl a
        · exact .slz _ _ _ a
      · simp [Instr.sliceAt, Instr.slice, run_underlying hu, hrun, TD.run_size oke]
    | sl hp hl hC =>
      rename_i r sz off len c pl
      obtain ⟨rfl, hmh, h⟩ := h
      obtain ⟨l, hh, m, m', hK, h1, h2, h3, h4, h5, h6, h7, hrun⟩ := bounds_ok (P := P) w cl ch cm true len c _ (by rfl) hl (by simp) hmh h
      have hmul : (l + (m' - l)) * ed.size ≤ c * ed.size := Nat.mul_le_mul_right _ (by omega)
      rw [Nat.add_mul] at hmul
      have hm'c : (if m' = l then (some ⟨pl.b, pl.o + off, none⟩ : Option Addr) else (some (⟨pl.b, pl.o + off, none⟩ : Addr)).map (·.add (l * ed.size))) =
          (if m' = l then some ⟨pl.b, pl.o + off, none⟩ else some ⟨pl.b, pl.o + (off + l * ed.size), none⟩) := by
        simp [addr_add, Nat.add_assoc]
      refine ⟨_, .slice (if m' = l then (some ⟨pl.b, pl.o + off, none⟩ : Option Addr) else (some (⟨pl.b, pl.o + off, none⟩ : Addr)).map (·.add (l * ed.size))) (hh - l) (m' - l), hK, ?_, ?_⟩
      · rw [hm'c]
        have htn : ((hh : Int) - (l : Int)).toNat = hh - l := by omega
        rw [htn, Int.toNat_natCast]
        split
        · rename_i hc0
          have : m' = 0 := by rw [h6 hc0.1]; omega
          have e1 : hh - l = 0 := by omega
          have e2 : m' - l = 0 := by omega
          rw [e1, e2]; exact .esl _
        · by_cases hml : m' = l
          · have e1 : hh - l = 0 := by omega
            have e2 : m' - l = 0 := by omega
            rw [e1, e2]; exact .slz _ _ _ _
          · rw [if_neg hml]
            exact .sl hp (by omega) (by omega)
      · simp [Instr.sliceAt, Instr.slice, run_underlying hu, hrun, TD.run_size oke]
    | p hz =>
      have hx := hz
      cases hz with
      | nil =>
        obtain ⟨hmh, h⟩ := h
        obtain ⟨l, hh, m, m', hK, h1, h2, h3, h4, h5, h6, h7, hrun⟩ := bounds_ok (P := P) w cl ch cm true 0 0 _ (by rfl) (Nat.le_refl _) (by simp) hmh
          (K := fun l h m => K (if mx.isSome then .esl else .p .nil)) (by
            refine bndV.mono (fun l h => ?_) h
            refine bndV.mono (fun hh h => ?_) h
            refine bndV.mono (fun m h => ?_) h
            obtain ⟨a1, a2, a3, a4⟩ := h
            subst a1; subst a2; subst a3
            exact ⟨by omega, by omega, by omega, by omega, a4⟩)
        have hl0 : l = 0 := by omega
        have hh0 : hh = 0 := by omega
        have hm0' : m' = 0 := by omega
        subst hl0; subst hh0; subst hm0'
        refine ⟨_, .slice none 0 0, hK, ?_, ?_⟩
        · split
          · exact .esl _
          · exact .p .nil
        · simp [Instr.sliceAt, Instr.slice, run_underlying hu, hrun, TD.run_size oke]
      | emp a c =>
        obtain ⟨hmh, h⟩ := h
        obtain ⟨l, hh, m, m', hK, h1, h2, h3, h4, h5, h6, h7, hrun⟩ := bounds_ok (P := P) w cl ch cm true 0 c _ (by rfl) (Nat.zero_le _) (by simp) hmh h
        have hl0 : l = 0 := by omega
        have hh0 : hh = 0 := by omega
        have hm0 : m = 0 := by omega
        subst hl0; subst hh0; subst hm0
        obtain ⟨_, hK⟩ := hK
        have hr2 : (Instr.sliceAt t (.slice a 0 c) xl xh xm).run P w = .ok (.slice (if m' = 0 then a else a.map (·.add (0 * ed.size))) 0 m') w := by
          simp [Instr.sliceAt, Instr.slice, run_underlying hu, hrun, TD.run_size oke]
        rcases hK with ⟨g1, _, g3⟩ | ⟨g1, g3⟩
        · have := h6 g1
          subst this
          exact ⟨_, _, g3, .esl _, hr2⟩
        · exact ⟨_, _, g3, .p (by simpa using Cz.emp _ _), hr2⟩
      | sl es sz b o c vals hc hsz hz hv =>
        obtain ⟨hmh, h⟩ := h
        obtain ⟨l, hh, m, m', hK, h1, h2, h3, h4, h5, h6, h7, hrun⟩ := bounds_ok (P := P) w cl ch cm true es.length c _ (by rfl) hc (by simp) hmh h
        obtain ⟨hes, hK⟩ := hK
        have hr2 : (Instr.sliceAt t (.slice (some ⟨b, o, none⟩) es.length c) xl xh xm).run P w =
            .ok (.slice (if m' = l then some ⟨b, o, none⟩ else (some (⟨b, o, none⟩ : Addr)).map (·.add (l * ed.size))) (hh - l) (m' - l)) w := by
          simp [Instr.sliceAt, Instr.slice, run_underlying hu, hrun, TD.run_size oke]
        rcases hK with ⟨g1, g2, g3⟩ | ⟨g1, g3⟩
        · have := h6 g1
          have e1 : hh - l = 0 := by omega
          have e2 : m' - l = 0 := by omega
          refine ⟨_, _, g3, ?_, hr2⟩
          rw [e1, e2]; exact .esl _
        · refine ⟨_, _, g3, ?_, hr2⟩
          obtain ⟨a', cap', hxe, _, hd⟩ := hx.drop l (hh - l) (by omega) ed.size hes
          cases hxe
          have htn : ((hh : Int) - (l : Int)).toNat = hh - l := by omega
          rw [htn, Int.toNat_natCast]
          by_cases hml : m' = l
          · rw [if_pos hml]
            exact .p ((hd _ (by omega)).2 (by omega) _)
          · rw [if_neg hml]
            exact .p (hd _ (by omega)).1
      | _ => exact h.elim
    | _ => exact h.elim
  · rename_i hk
    have hu := ok.k
    rw [hk] at hu
    simp only [TK.ok] at hu
    cases c with
    | p hz =>
      cases hz with
      | str s =>
        obtain ⟨hmx, h⟩ := h
        have hmn : mx = none := by cases mx with | none => rfl | some _ => cases hmx
        subst hmn
        have hxm : xm = none := by cases xm with | none => rfl | some _ => exact cm.elim
        subst hxm
        obtain ⟨l, hh, m, m', hK, h1, h2, h3, h4, h5, h6, h7, hrun⟩ := bounds_ok (P := P) w cl ch (mx := none) (xm := none) trivial false s.size s.size _ (by rfl) (Nat.le_refl _) (by simp) (by simp)
          (K := fun l h _ => K (.p (.str (s.extract l.toNat h.toNat)))) (by
            refine bndV.mono (fun l h => ?_) h
            refine bndV.mono (fun hh h => ?_) h
            obtain ⟨a1, a2, a3, a4⟩ := h
            exact ⟨a1, a2, Int.le_refl _, a3, a4⟩)
        refine ⟨_, .string (s.extract l hh), hK, .p (.str _), ?_⟩
        simp [Instr.sliceAt, Instr.slice, run_underlying hu, hrun]
      | _ => exact h.elim
    | _ => exact h.elim
  · exact h.elim

end Go.Sep
