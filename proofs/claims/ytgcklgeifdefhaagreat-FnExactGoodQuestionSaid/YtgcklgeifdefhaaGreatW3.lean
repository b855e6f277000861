/- What each function's code is asked for, as a formula. Written by wgen.py (a program of this session's) out of Lean's print of the program. -/
import Derived.KernelRfl
import Derived.Test.YtgcklgeifdefhaaGreatTab
import Derived.Test.YtgcklgeifdefhaaGreatSepC
namespace Go.Proofs.YtgcklgeifdefhaaGreat
open Go Go.Sep
set_option linter.unusedVariables false
attribute [local irreducible] wpC headF
/-- loop.example/g00649/laws.szChange -/
def D183 : Info := ⟨12, fun i => ([], []), fun i => ([], [])⟩
def W183 (v0 : AV) (v1 : AV) (H : Heap) (K : AV → Heap → Prop) : Prop :=
 boxV v0 H fun v2 H1 =>
 fieldAddrV tab 201 v2 1 fun v5 =>
 loadV tab 22 v5 H1 fun v6 =>
 CallT Tryz.prog 74 [v6, v1] H1 fun v8 H2 =>
 binV tab .lss 3 v8 (AV.p (.int .i64 0)) fun v10 =>
 condV v10 (K (AV.p (.int .i64 (-1))) H2)
 (K v8 H2)
theorem W183_wp (v0 : AV) (v1 : AV) (H : Heap) (K : AV → Heap → Prop) : wpC Tryz.prog tab D183 (bodyOf Tryz.f183) (retF tab [.tmp 4] K) (nthA [v0, v1]) H = W183 v0 v1 H K := by kernel_rfl
theorem W183_ok {v0 v1 : AV} {H : Heap} {K : AV → Heap → Prop} (h : W183 v0 v1 H K) : CallT Tryz.prog 183 [v0, v1] H K :=
  CallT.of_wp (D := D183) tab_ok mixed Tryz.func183 (c := bodyOf Tryz.f183) (by kernel_rfl) rfl (by kernel_rfl) (rs := #[.tmp 4]) rfl (by decide +kernel) (by kernel_rfl) (W183_wp v0 v1 H K) h
theorem W183_hb : HasBody Tryz.prog 183 := ⟨_, bodyOf Tryz.f183, Tryz.func183, by kernel_rfl, rfl⟩
/-- loop.example/g00649/laws.toChange -/
def D184 : Info := ⟨12, fun i => ([], []), fun i => ([], [])⟩
def W184 (v0 : AV) (H : Heap) (K : AV → Heap → Prop) : Prop :=
 boxV v0 H fun v1 H1 =>
 allocV tab 188 H1 fun v2 H2 =>
 allocV tab 188 H2 fun v3 H3 =>
 fieldAddrV tab 201 v1 0 fun v4 =>
 loadV tab 3 v4 H3 fun v5 =>
 fieldAddrV tab 188 v3 0 fun v6 =>
 storeV tab 3 v6 v5 H3 fun H4 =>
 fieldAddrV tab 201 v1 1 fun v7 =>
 loadV tab 22 v7 H4 fun v8 =>
 CallT Tryz.prog 80 [v8] H4 fun v9 H5 =>
 fieldAddrV tab 188 v3 1 fun v10 =>
 storeV tab 32 v10 v9 H5 fun H6 =>
 loadV tab 188 v3 H6 fun v11 =>
 storeV tab 188 v2 v11 H6 fun H7 =>
 loadV tab 188 v2 H7 fun r0 =>
 K r0 H7
theorem W184_wp (v0 : AV) (H : Heap) (K : AV → Heap → Prop) : wpC Tryz.prog tab D184 (bodyOf Tryz.f184) (retF tab [.cell 2 188] K) (nthA [v0]) H = W184 v0 H K := by kernel_rfl
theorem W184_ok {v0 : AV} {H : Heap} {K : AV → Heap → Prop} (h : W184 v0 H K) : CallT Tryz.prog 184 [v0] H K :=
  CallT.of_wp (D := D184) tab_ok mixed Tryz.func184 (c := bodyOf Tryz.f184) (by kernel_rfl) rfl (by kernel_rfl) (rs := #[.cell 2 188]) rfl (by decide +kernel) (by kernel_rfl) (W184_wp v0 H K) h
theorem W184_hb : HasBody Tryz.prog 184 := ⟨_, bodyOf Tryz.f184, Tryz.func184, by kernel_rfl, rfl⟩
/-- loop.example/g00649/impl.GoodWord -/
def D196 : Info := ⟨13, fun i => ([], []), fun i => ([], [])⟩
def W196 (v0 : AV) (v1 : AV) (H : Heap) (K : AV → Heap → Prop) : Prop :=
 CallT Tryz.prog 129 [v0] H fun v6 H1 =>
 grdV v6 true (CallT Tryz.prog 144 [v0] H1 fun v10 H2 =>
 binV tab .leq 153 v1 v10 fun v11 =>
 K v11 H2)
 (K (AV.p (.bool false)) H1)
theorem W196_wp (v0 : AV) (v1 : AV) (H : Heap) (K : AV → Heap → Prop) : wpC Tryz.prog tab D196 (bodyOf Tryz.f196) (retF tab [.tmp 4] K) (nthA [v0, v1]) H = W196 v0 v1 H K := by kernel_rfl
theorem W196_ok {v0 v1 : AV} {H : Heap} {K : AV → Heap → Prop} (h : W196 v0 v1 H K) : CallT Tryz.prog 196 [v0, v1] H K :=
  CallT.of_wp (D := D196) tab_ok mixed Tryz.func196 (c := bodyOf Tryz.f196) (by kernel_rfl) rfl (by kernel_rfl) (rs := #[.tmp 4]) rfl (by decide +kernel) (by kernel_rfl) (W196_wp v0 v1 H K) h
theorem W196_hb : HasBody Tryz.prog 196 := ⟨_, bodyOf Tryz.f196, Tryz.func196, by kernel_rfl, rfl⟩
/-- loop.example/g00649/laws.eqChange -/
def D197 : Info := ⟨16, fun i => ([], []), fun i => ([], [])⟩
def W197 (v0 : AV) (v1 : AV) (H : Heap) (K : AV → Heap → Prop) : Prop :=
 boxV v0 H fun v2 H1 =>
 boxV v1 H1 fun v3 H2 =>
 fieldAddrV tab 188 v2 0 fun v5 =>
 loadV tab 3 v5 H2 fun v6 =>
 fieldAddrV tab 188 v3 0 fun v7 =>
 loadV tab 3 v7 H2 fun v8 =>
 binV tab .neq 3 v6 v8 fun v9 =>
 condV v9 (K (AV.p (.bool false)) H2)
 (fieldAddrV tab 188 v2 1 fun v10 =>
 loadV tab 32 v10 H2 fun v11 =>
 fieldAddrV tab 188 v3 1 fun v12 =>
 loadV tab 32 v12 H2 fun v13 =>
 CallT Tryz.prog 88 [v11, v13] H2 fun v14 H3 =>
 unV .not v14 fun v15 =>
 condV v15 (K (AV.p (.bool false)) H3)
 (K (AV.p (.bool true)) H3))
theorem W197_wp (v0 : AV) (v1 : AV) (H : Heap) (K : AV → Heap → Prop) : wpC Tryz.prog tab D197 (bodyOf Tryz.f197) (retF tab [.tmp 4] K) (nthA [v0, v1]) H = W197 v0 v1 H K := by kernel_rfl
theorem W197_ok {v0 v1 : AV} {H : Heap} {K : AV → Heap → Prop} (h : W197 v0 v1 H K) : CallT Tryz.prog 197 [v0, v1] H K :=
  CallT.of_wp (D := D197) tab_ok mixed Tryz.func197 (c := bodyOf Tryz.f197) (by kernel_rfl) rfl (by kernel_rfl) (rs := #[.tmp 4]) rfl (by decide +kernel) (by kernel_rfl) (W197_wp v0 v1 H K) h
theorem W197_hb : HasBody Tryz.prog 197 := ⟨_, bodyOf Tryz.f197, Tryz.func197, by kernel_rfl, rfl⟩
/-- cmp.isNaN[int] -/
def D212 : Info := ⟨6, fun i => ([], []), fun i => ([], [])⟩
def W212 (v0 : AV) (H : Heap) (K : AV → Heap → Prop) : Prop :=
 binV tab .neq 3 v0 v0 fun v5 =>
 K v5 H
theorem W212_wp (v0 : AV) (H : Heap) (K : AV → Heap → Prop) : wpC Tryz.prog tab D212 (bodyOf Tryz.f212) (retF tab [.tmp 2] K) (nthA [v0]) H = W212 v0 H K := by kernel_rfl
theorem W212_ok {v0 : AV} {H : Heap} {K : AV → Heap → Prop} (h : W212 v0 H K) : CallT Tryz.prog 212 [v0] H K :=
  CallT.of_wp (D := D212) tab_ok mixed Tryz.func212 (c := bodyOf Tryz.f212) (by kernel_rfl) rfl (by kernel_rfl) (rs := #[.tmp 2]) rfl (by decide +kernel) (by kernel_rfl) (W212_wp v0 H K) h
theorem W212_hb : HasBody Tryz.prog 212 := ⟨_, bodyOf Tryz.f212, Tryz.func212, by kernel_rfl, rfl⟩
end Go.Proofs.YtgcklgeifdefhaaGreat
