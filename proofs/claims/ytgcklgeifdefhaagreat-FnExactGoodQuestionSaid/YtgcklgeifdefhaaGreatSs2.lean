/- slices.Sort and slices.Compact of numbers, by the shelf's contracts, for live rows. -/
import Derived.Test.YtgcklgeifdefhaaGreatSs1
import Derived.Test.YtgcklgeifdefhaaGreatLay
import Derived.Test.YtgcklgeifdefhaaGreatPs1
import Derived.Shelf.SortG.Plain
import Derived.Shelf.SortG.SortNone
import Derived.Shelf.SlicesG.CompactI
namespace Go.Proofs.YtgcklgeifdefhaaGreat
open Go Go.Sep Go.Pt Go.RowKit
set_option linter.unusedVariables false

abbrev srt (zs : List Int) : List Int := zs.mergeSort fun x y => decide (x ≤ y)
theorem Sort_hb : HasBody Tryz.prog 137 := ⟨_, bodyOf Tryz.f137, Tryz.func137, by kernel_rfl, rfl⟩
theorem Compact_hb : HasBody Tryz.prog 138 := ⟨_, bodyOf Tryz.f138, Tryz.func138, by kernel_rfl, rfl⟩
theorem Sort_row {H : Heap} {q : Nat} {zs : List Int} {K : AV → Heap → Prop} (hq : H q = some (zs.map fun n => AV.p (.int .i64 n))) (hl : zs.length ≤ 1000000000) (h : K (.tup []) (H.set q ((srt zs).map fun n => AV.p (.int .i64 n)))) : CallT Tryz.prog 137 [.sl q 1 0 zs.length] H K :=
  CallT.inPlace Sort_hb hq (srt zs) (List.length_mergeSort ..) (fun blk off cap w _ hH hb => AnyG.slices_Sort_int Tryz.laySort blk off cap zs w hH hb (by omega)) (fun _ p cap w => AnyG.slices_Sort_int_none Tryz.laySort p cap w) h
theorem Sort_nil {H : Heap} {K : AV → Heap → Prop} (h : K (.tup []) H) : CallT Tryz.prog 137 [.p .nil] H K :=
  CallT.nilArg Sort_hb (fun Z φ => .tup [] #[] rfl (fun i av x h => by simp at h)) (fun w => AnyG.slices_Sort_int_none Tryz.laySort none 0 w) h
theorem Compact_row {H : Heap} {q : Nat} {zs : List Int} {K : AV → Heap → Prop} (hq : H q = some (zs.map fun n => AV.p (.int .i64 n))) (hl : zs.length ≤ 1000000000) (h : K (.sl q 1 0 (Lib.compact zs).length) (H.set q ((Lib.compact zs).map fun n => AV.p (.int .i64 n)))) : CallT Tryz.prog 138 [.sl q 1 0 zs.length] H K := by
  refine CallT.fin ?_
  refine CallT.inPlaceC Compact_hb hq (Lib.compact zs) (List.replicate (zs.length - (Lib.compact zs).length) 0) (by have := compact_len zs; rw [List.length_append, List.length_replicate]; omega) (fun blk off cap w hc hH hb => AnyG.slices_Compact_int Tryz.layCompact blk off cap zs w hH (by omega) hc) (fun _ p cap w => AnyG.slices_Compact_int_empty Tryz.layCompact p cap w) ?_
  refine ⟨_, _, .cell (cs' := (Lib.compact zs).map fun n => AV.p (.int .i64 n)) (Heap.set_same _ _ _) (by rw [List.map_append, List.length_append]; omega) (fun i a a' h1 h2 => ?_), ?_⟩
  · rw [List.map_append, List.getElem?_append_left (List.getElem?_eq_some_iff.1 h2).1, h2] at h1
    cases h1; exact .refl _
  · rw [Heap.set_set]; exact h
theorem Compact_nil {H : Heap} {K : AV → Heap → Prop} (h : K (.p .nil) H) : CallT Tryz.prog 138 [.p .nil] H K :=
  CallT.nilArg Compact_hb (fun Z φ => .p .nil) (fun w => AnyG.slices_Compact_int_empty Tryz.layCompact none 0 w) h
end Go.Proofs.YtgcklgeifdefhaaGreat
