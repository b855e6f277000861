/- Sep, part 17: regions that draw their order: what an order must keep, and that any such order goes as a canonical one. -/
import Derived.Test.YthlbkcgnacemgaaSep16
namespace Go.Sep
open Go Go.RowKit

def tmpsOf (xs : List Operand) : List Nat := xs.filterMap fun | .tmp t => some t | _ => none
/-- The slots that an operation reads. -/
def rds (o : Op) : List Nat := tmpsOf o.operands.toList

theorem ev_congr {env env' : List AV} {xs : List Operand} (h : ∀ t ∈ tmpsOf xs, env.getD t .any = env'.getD t .any) {x : Operand} (hx : x ∈ xs) : ev env x = ev env' x := by
  cases x with
  | tmp t => exact h t (List.mem_filterMap.2 ⟨_, hx, rfl⟩)
  | _ => rfl

theorem opV_congr {P : Program} {tab : Tab} {o : Op} {env env' : List AV} (h : ∀ t ∈ rds o, env.getD t .any = env'.getD t .any) (H : Heap) (K : AV → Heap → Prop) : opV P tab o env H K = opV P tab o env' H K := by
  have key : ∀ x, x ∈ o.operands.toList → ev env x = ev env' x := fun x hx => ev_congr h hx
  have opt : ∀ (q : Option Operand), (∀ x, q = some x → x ∈ o.operands.toList) → q.map (ev env) = q.map (ev env') := by
    intro q hq
    cases q with
    | none => rfl
    | some x => simp [key x (hq x rfl)]
  have lst : ∀ (q : List Operand), (∀ x ∈ q, x ∈ o.operands.toList) → q.map (ev env) = q.map (ev env') := fun q hq => List.map_congr_left fun x hx => key x (hq x hx)
  cases o <;> simp only [opV]
  case move x => rw [key x (by simp [Op.operands])]
  case assign x => rw [key x (by simp [Op.operands])]
  case pick c a b => rw [key c (by simp [Op.operands]), key a (by simp [Op.operands]), key b (by simp [Op.operands])]
  case box t x => rw [key x (by simp [Op.operands])]
  case build t ps =>
    have : (ps.toList.map fun p => (p.1, ev env p.2)) = ps.toList.map fun p => (p.1, ev env' p.2) := List.map_congr_left fun p hp => by rw [key p.2 (by simp only [Op.operands]; exact List.mem_map.2 ⟨p, hp, rfl⟩)]
    rw [this]
  case buildSlice t n ps =>
    have : (ps.toList.map fun p => (p.1, ev env p.2)) = ps.toList.map fun p => (p.1, ev env' p.2) := List.map_congr_left fun p hp => by rw [key p.2 (by simp only [Op.operands]; exact List.mem_map.2 ⟨p, hp, rfl⟩)]
    rw [this]
  case load t x => rw [key x (by simp [Op.operands])]
  case store t x y => rw [key x (by simp [Op.operands]), key y (by simp [Op.operands])]
  case nilCheck x => rw [key x (by simp [Op.operands])]
  case binOp op t x y ty => rw [key x (by simp [Op.operands]), key y (by simp [Op.operands])]
  case unOp op t x => rw [key x (by simp [Op.operands])]
  case convert s d x => rw [key x (by simp [Op.operands])]
  case makeFunc fn first caps =>
    have : caps.toList.map (ev env) = caps.toList.map (ev env') := lst _ (fun x hx => by simp only [Op.operands, Array.toList_append, List.mem_append]; exact .inr hx)
    cases fn <;> simp only [this]
  case makeSlice t l c => rw [key l (by simp [Op.operands]), key c (by simp [Op.operands])]
  case slice t x lo hi mx =>
    rw [key x (by simp [Op.operands]), opt lo (by rintro y rfl; simp [Op.operands]), opt hi (by rintro y rfl; simp [Op.operands]), opt mx (by rintro y rfl; simp [Op.operands])]
  case fieldAddr t x f => rw [key x (by simp [Op.operands])]
  case field t x f => rw [key x (by simp [Op.operands])]
  case indexAddr t x i => rw [key x (by simp [Op.operands]), key i (by simp [Op.operands])]
  case index t x i => rw [key x (by simp [Op.operands]), key i (by simp [Op.operands])]
  case extract x i => rw [key x (by simp [Op.operands])]
  case call c =>
    unfold callV
    have h1 : c.args.toList.map (ev env) = c.args.toList.map (ev env') := lst _ (fun x hx => by simp only [Op.operands, Call.operands, Array.toList_append, List.mem_append]; exact .inr hx)
    rw [h1]
    cases hc : c.callee with
    | value f => dsimp only; rw [key f (by simp [Op.operands, Call.operands, hc])]
    | builtin b =>
      generalize c.args.toList.map (ev env') = l
      rcases l with _ | ⟨x, _ | ⟨y, _ | ⟨z, l⟩⟩⟩ <;> cases b <;> rfl
    | invoke r m => rfl

def XOp.op : XOp → Op
  | .run _ o => o
  | .guarded _ _ _ o => o
  | .bad => .ready 0
def XOp.d : XOp → Option Nat
  | .run d _ => d
  | .guarded _ _ d _ => d
  | .bad => none
def XOp.rd : XOp → List Nat
  | .run _ o => rds o
  | .guarded g _ _ o => g :: rds o
  | .bad => []
def XOp.nh (x : XOp) : Bool := nhOp x.op
def XOp.isRead (x : XOp) : Bool := rdOp x.op

/-- One operation, its guard with it; the value goes on. -/
def stV (P : Program) (tab : Tab) (x : XOp) (env : List AV) (H : Heap) (K : AV → Heap → Prop) : Prop :=
  match x with
  | .run _ o => opV P tab o env H K
  | .guarded g want _ o =>
    match env.getD g .any with
    | .p (.bool b) => gd b want (opV P tab o env H K) (K .und H)
    | .tup [] => K .und H
    | _ => False
  | .bad => False

theorem stV_congr {P : Program} {tab : Tab} {x : XOp} {env env' : List AV} (h : ∀ t ∈ x.rd, env.getD t .any = env'.getD t .any) (H : Heap) (K : AV → Heap → Prop) : stV P tab x env H K = stV P tab x env' H K := by
  cases x with
  | run d o => exact opV_congr h H K
  | guarded g want d o =>
    simp only [stV]
    rw [h g (by simp [XOp.rd]), opV_congr (fun t ht => h t (by simp [XOp.rd, ht])) H K]
  | bad => rfl

theorem stV_pure {P : Program} {tab : Tab} {x : XOp} (h : x.nh = true) (hr : x.isRead = false) (env : List AV) : ∃ (S : Prop) (u : AV), ∀ (H : Heap) (K : AV → Heap → Prop), stV P tab x env H K ↔ (S ∧ K u H) := by
  cases x with
  | run d o => exact nh_pure h hr env
  | guarded g want d o =>
    obtain ⟨S, u, k⟩ := nh_pure (P := P) (tab := tab) (o := o) h hr env
    simp only [stV]
    split
    · rename_i b _
      by_cases hb : b = want
      · subst hb
        exact ⟨S, u, fun H K => by cases b <;> simp only [gd_tt, gd_ff] <;> exact k H K⟩
      · have : b = !want := by cases b <;> cases want <;> simp_all
        subst this
        exact ⟨True, .und, fun H K => by cases want <;> simp [gd]⟩
    · exact ⟨True, .und, fun H K => by simp⟩
    · exact ⟨False, .any, fun H K => by simp⟩
  | bad => exact ⟨False, .any, fun H K => by simp [stV]⟩

theorem stV_lin {P : Program} {tab : Tab} {x : XOp} (h : x.nh = true) (env : List AV) (H : Heap) : ∃ (S : Prop) (u : AV), ∀ (K : AV → Heap → Prop), stV P tab x env H K ↔ (S ∧ K u H) := by
  cases x with
  | run d o => exact nh_lin h env H
  | guarded g want d o =>
    obtain ⟨S, u, k⟩ := nh_lin (P := P) (tab := tab) (o := o) h env H
    simp only [stV]
    split
    · rename_i b _
      by_cases hb : b = want
      · subst hb
        exact ⟨S, u, fun K => by cases b <;> simp only [gd_tt, gd_ff] <;> exact k K⟩
      · have : b = !want := by cases b <;> cases want <;> simp_all
        subst this
        exact ⟨True, .und, fun K => by cases want <;> simp [gd]⟩
    · exact ⟨True, .und, fun K => by simp⟩
    · exact ⟨False, .any, fun K => by simp⟩
  | bad => exact ⟨False, .any, fun K => by simp [stV]⟩

theorem storeV_mono {tab : Tab} {t : Nat} {a v : AV} {H : Heap} {K K' : Heap → Prop} (k : ∀ H', K H' → K' H') (h : storeV tab t a v H K) : storeV tab t a v H K' := by
  unfold storeV at *
  revert h
  split
  · split
    · exact fun h => ⟨h.1, h.2.1, h.2.2.1, k _ h.2.2.2⟩
    · exact id
  · exact id
theorem numV_mono2 {a : AV} {A B : Int → Prop} (hAB : ∀ v, A v → B v) (h : numV a A) : numV a B := numV.mono hAB h
theorem makeSliceV_mono {tab : Tab} {t : Nat} {l c : AV} {H : Heap} {K K' : AV → Heap → Prop} (k : ∀ v H', K v H' → K' v H') (h : makeSliceV tab t l c H K) : makeSliceV tab t l c H K' := by
  unfold makeSliceV at *
  revert h
  split
  · split
    · split
      · exact fun h => numV.mono (fun n h => numV.mono (fun m h => ⟨h.1, h.2.1, h.2.2.1, h.2.2.2.1, fun r hr => k _ _ (h.2.2.2.2 r hr)⟩) h) h
      · exact id
    · exact id
  · exact id
theorem srcV_mono {H : Heap} {sz : Nat} {x : AV} {K K' : List AV → Nat → Prop} (k : ∀ v n, K v n → K' v n) (h : srcV H sz x K) : srcV H sz x K' := by
  unfold srcV at *
  revert h
  split
  · exact k _ _
  · exact k _ _
  · exact fun h => ⟨h.1, k _ _ h.2⟩
  · split
    · exact fun h => ⟨h.1, h.2.1, k _ _ h.2.2⟩
    · exact id
  · exact id
theorem baseV_mono {H : Heap} {sz : Nat} {x : AV} {K K' : List AV → Nat → Heap → Prop} (k : ∀ v n H', K v n H' → K' v n H') (h : baseV H sz x K) : baseV H sz x K' := by
  unfold baseV at *
  revert h
  split
  · exact k _ _ _
  · exact k _ _ _
  · split
    · exact fun h => ⟨h.1, h.2.1, k _ _ _ h.2.2⟩
    · exact id
  · exact id
theorem appendV_mono {tab : Tab} {t0 t1 : Nat} {s x : AV} {H : Heap} {K K' : AV → Heap → Prop} (k : ∀ v H', K v H' → K' v H') (h : appendV tab t0 t1 s x H K) : appendV tab t0 t1 s x H K' := by
  unfold appendV at *
  revert h
  split
  · split
    · split
      · exact srcV_mono fun v n => baseV_mono fun v' n' H' h => ⟨h.1, h.2.1, h.2.2.1, fun r hr => k _ _ (h.2.2.2 r hr)⟩
      · exact id
    · exact id
  · exact id

theorem opV_mono' {P : Program} {tab : Tab} {o : Op} {env : List AV} {H : Heap} {K K' : AV → Heap → Prop} (k : ∀ v H', K v H' → K' v H') (h : opV P tab o env H K) : opV P tab o env H K' := by
  by_cases hn : nhOp o = true
  · obtain ⟨S, u, hl⟩ := nh_lin (P := P) (tab := tab) hn env H
    obtain ⟨h1, h2⟩ := (hl K).1 h
    exact (hl K').2 ⟨h1, k _ _ h2⟩
  · cases o <;> first | (simp only [nhOp, not_true_eq_false] at hn; done) | (simp only [opV] at h; done) | (simp only [opV] at h ⊢; exact h.elim) | skip
    case alloc t =>
      simp only [opV, allocV] at h ⊢
      split
      · rename_i d hd; rw [hd] at h; exact fun r hr => k _ _ (h r hr)
      · rename_i hd; rw [hd] at h; exact h
    case box t x =>
      simp only [opV, boxV] at h ⊢
      split
      · rename_i d hd; rw [hd] at h; exact fun r hr => k _ _ (h r hr)
      · rename_i hd; rw [hd] at h; exact h
    case buildSlice t n ps =>
      simp only [opV, buildSliceV] at h ⊢
      split
      · rename_i d hd
        rw [hd] at h; dsimp only at h
        split
        · rename_i e he
          rw [he] at h; dsimp only at h
          split
          · rename_i ed hed
            rw [hed] at h; dsimp only at h
            refine ⟨h.1, ?_⟩
            have h2 := h.2
            split
            · rename_i cs hcs; rw [hcs] at h2; exact fun r hr => wkK.mono k (h2 r hr)
            · rename_i hcs; rw [hcs] at h2; exact h2
          · rename_i hed; rw [hed] at h; exact h
        · rename_i hne
          split at h
          · rename_i e he; exact absurd he (hne e)
          · exact h
      · rename_i hd; rw [hd] at h; exact h
    case store t a x =>
      simp only [opV] at h ⊢
      exact storeV_mono (fun H' => k _ H') h
    case makeSlice t l c =>
      simp only [opV] at h ⊢
      exact makeSliceV_mono k h
    case call c =>
      simp only [opV] at h ⊢
      unfold callV at *
      revert h
      split
      · rename_i hc _; simp [nhOp, hc] at hn
      · split
        · exact appendV_mono (fun _ _ => wkK.mono k)
        · exact id
      · rename_i b x y _ hc _
        intro h
        unfold mmV at *
        revert h
        split
        · exact k _ _
        · exact k _ _
        · exact id
      · split
        · exact fun h => h.mono k
        · exact id
      · exact id

theorem stV_mono {P : Program} {tab : Tab} {x : XOp} {env : List AV} {H : Heap} {K K' : AV → Heap → Prop} (k : ∀ v H', K v H' → K' v H') (h : stV P tab x env H K) : stV P tab x env H K' := by
  cases x with
  | run d o => exact opV_mono' k h
  | guarded g want d o =>
    simp only [stV] at *
    split at h
    · rename_i b hb
      exact ⟨fun e => opV_mono' k (h.1 e), fun e => k _ _ (h.2 e)⟩
    · exact k _ _ h
    · exact h
  | bad => exact h

end Go.Sep
