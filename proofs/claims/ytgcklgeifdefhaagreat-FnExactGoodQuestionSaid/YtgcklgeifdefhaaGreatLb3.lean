/- Rules for rows that are filled one element after the other. -/
import Derived.Test.YtgcklgeifdefhaaGreatLb0
namespace Go.Proofs.YtgcklgeifdefhaaGreat
open Go Go.Sep
set_option linter.unusedSimpArgs false
set_option linter.unusedVariables false

/-- The cells of a row whose first i elements are told. -/
def rowZ {α : Type} (e : α → List PV) (zero : List AV) (xs : List α) (i : Nat) : List AV := cells ((xs.take i).map e) ++ zerosA (xs.length - i) zero
theorem rowZ_zero {α : Type} {e : α → List PV} {zero : List AV} {xs : List α} : rowZ e zero xs 0 = zerosA xs.length zero := by simp [rowZ, cells]
theorem rowZ_end {α : Type} {e : α → List PV} {zero : List AV} {xs : List α} : rowZ e zero xs xs.length = cells (xs.map e) := by
  simp [rowZ, zerosA]
theorem cells_map_len {α : Type} {e : α → List PV} {sz : Nat} (h : ∀ a, (e a).length = sz) (xs : List α) : (cells (xs.map e)).length = xs.length * sz := by
  rw [cells_len (sized_map h xs), List.length_map]
theorem rowZ_len {α : Type} {e : α → List PV} {zero : List AV} {xs : List α} {i sz : Nat} (h : ∀ a, (e a).length = sz) (hz : zero.length = sz) (hi : i ≤ xs.length) : (rowZ e zero xs i).length = xs.length * sz := by
  rw [rowZ, List.length_append, cells_map_len h, zerosA_len, hz, List.length_take, Nat.min_eq_left hi, ← Nat.add_mul]
  congr 1; omega
theorem zerosA_succ (n : Nat) (z : List AV) : zerosA (n + 1) z = z ++ zerosA n z := by simp [zerosA, List.replicate_succ]
theorem rowZ_put {α : Type} [Inhabited α] {e : α → List PV} {zero : List AV} {xs : List α} {i sz : Nat} (h : ∀ a, (e a).length = sz) (hz : zero.length = sz) (hi : i < xs.length) {off : Nat} (ho : off = i * sz) {n : Nat} (hn : n = sz) :
    List.take off (rowZ e zero xs i) ++ (e (xs.getD i default)).map .p ++ List.drop (off + n) (rowZ e zero xs i) = rowZ e zero xs (i + 1) := by
  subst ho; subst hn
  have hl : (cells ((xs.take i).map e)).length = i * n := by rw [cells_map_len h, List.length_take, Nat.min_eq_left (Nat.le_of_lt hi)]
  have e1 : List.take (i * n) (rowZ e zero xs i) = cells ((xs.take i).map e) := by
    rw [rowZ, List.take_append_of_le_length (by omega), List.take_of_length_le (by omega)]
  have e2 : List.drop (i * n + n) (rowZ e zero xs i) = zerosA (xs.length - (i + 1)) zero := by
    rw [rowZ, List.drop_append, List.drop_of_length_le (by omega), List.nil_append, hl, Nat.add_sub_cancel_left]
    obtain ⟨m, hm⟩ : ∃ m, xs.length - i = m + 1 := ⟨xs.length - i - 1, by omega⟩
    rw [hm, zerosA_succ, List.drop_append_of_le_length (by omega), List.drop_of_length_le (by omega), List.nil_append]
    congr 1; omega
  rw [e1, e2, rowZ]
  congr 1
  rw [List.take_succ_eq_append_getElem hi, List.map_append, cells_app]
  congr 1
  simp [cells, List.getD, hi]
end Go.Proofs.YtgcklgeifdefhaaGreat
