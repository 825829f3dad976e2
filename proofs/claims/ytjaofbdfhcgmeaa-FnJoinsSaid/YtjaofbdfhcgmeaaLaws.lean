/-
  The laws' own helpers: copying, comparing, marking and asking slices of integers.
-/
import Derived.Test.YtjaofbdfhcgmeaaLib
namespace Go.Proofs.Ytjaofbdfhcgmeaa
open Go.RowKit


theorem take_eq_take_succ (xs ys : List Int) (k : Nat) (h : k < xs.length) (h' : k < ys.length) (hp : xs.take k = ys.take k) (he : gi xs k = gi ys k) : xs.take (k + 1) = ys.take (k + 1) := by
  rw [List.take_succ_eq_append_getElem h, List.take_succ_eq_append_getElem h', hp, ← gi_eq xs k h, ← gi_eq ys k h', he]


theorem copy_step (xs : List Int) (k : Nat) (h : k < xs.length) :
    (ints (xs.take k ++ List.replicate (xs.length - k) 0)).set k (.int .i64 (gi xs k)) = ints (xs.take (k + 1) ++ List.replicate (xs.length - (k + 1)) 0) := by
  rw [ints_set]
  congr 1
  rw [List.set_append_right _ _ (by simp; omega)]
  have e : xs.length - k = (xs.length - (k + 1)) + 1 := by omega
  rw [e, List.replicate_succ, List.length_take, Nat.min_eq_left (by omega), Nat.sub_self, List.set_cons_zero, List.take_succ_eq_append_getElem h, gi_eq xs k h, List.append_assoc]
  rfl


def marks (k : Int) (n : Nat) : List Int := (List.range n).map fun j : Nat => k + (j : Int)
theorem length_marks (k : Int) (n : Nat) : (marks k n).length = n := by simp [marks]
attribute [simp] length_marks
theorem gi_marks (k : Int) (n j : Nat) (h : j < n) : gi (marks k n) j = k + j := by simp [gi, marks, List.getD, h]
theorem mark_step (L : List Value) (k : Int) (j : Nat) (h : j < L.length) :
    (ints (marks k j) ++ L.drop j).set j (.int .i64 (k + j)) = ints (marks k (j + 1)) ++ L.drop (j + 1) := by
  rw [List.set_append_right _ _ (by simp)]
  have e : L.drop j = L[j] :: L.drop (j + 1) := List.drop_eq_getElem_cons h
  rw [e, length_ints, length_marks, Nat.sub_self, List.set_cons_zero]
  simp [ints, marks, List.range_succ, -List.getElem_cons_drop]



theorem ints_cells (xs : List Int) : ∀ j, j < (ints xs).length → ∃ n, (ints xs)[j]? = some (.int .i64 n) :=
  fun j hj => ⟨_, ints_get xs j (by simpa using hj)⟩

end Go.Proofs.Ytjaofbdfhcgmeaa
