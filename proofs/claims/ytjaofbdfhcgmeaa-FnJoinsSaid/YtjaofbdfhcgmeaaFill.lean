/-
  Matrices that are filled place by place, row by row.
-/
import Derived.Test.YtjaofbdfhcgmeaaMat
namespace Go.Proofs.Ytjaofbdfhcgmeaa
open Go.RowKit

theorem ext_gr' {M N : List (List Int)} (hl : M.length = N.length) (h : ∀ k, k < M.length → gr M k = gr N k) : M = N := by
  refine List.ext_getElem hl fun k h1 h2 => ?_
  have := h k h1
  rwa [gr_eq h1, gr_eq h2] at this
/-- Rows made so far, the rest nil. -/
def partM (M : List (List Int)) (i : Nat) : List (List Int) := (List.range M.length).map fun a => if a < i then gr M a else []
theorem partM_len (M : List (List Int)) (i : Nat) : (partM M i).length = M.length := by simp [partM]
theorem partM_gr {M : List (List Int)} {i a : Nat} (h : a < M.length) : gr (partM M i) a = if a < i then gr M a else [] := by simp [gr, partM, List.getD, h]
theorem partM_zero (M : List (List Int)) : partM M 0 = List.replicate M.length [] := ext_gr' (by simp [partM]) fun k hk => by
  have hk' : k < M.length := by rwa [partM_len] at hk
  rw [partM_gr hk', if_neg (by omega)]; simp [gr, List.getD, hk']
theorem partM_all {M : List (List Int)} {i : Nat} (h : M.length ≤ i) : partM M i = M := ext_gr' (partM_len M i) fun k hk => by
  have hk' : k < M.length := by rwa [partM_len] at hk
  rw [partM_gr hk', if_pos (by omega)]
theorem partM_succ {M : List (List Int)} {i : Nat} (h : i < M.length) : (partM M i).set i (gr M i) = partM M (i + 1) := ext_gr' (by simp [partM]) fun k hk => by
  have hk' : k < M.length := by simpa [partM] using hk
  rw [gr_set (by rw [partM_len]; exact h), partM_gr hk', partM_gr hk']
  by_cases e : k = i
  · subst e; rw [if_pos rfl, if_pos (by omega)]
  · rw [if_neg e]
    by_cases h2 : k < i
    · rw [if_pos h2, if_pos (by omega)]
    · rw [if_neg h2, if_neg (by omega)]
/-- A row with its first j places written. -/
def fillTo (r : List Int) (j : Nat) : List Int := r.take j ++ List.replicate (r.length - j) 0
theorem fillTo_len (r : List Int) (j : Nat) (h : j ≤ r.length) : (fillTo r j).length = r.length := by simp [fillTo]; omega
theorem fillTo_zero (r : List Int) : fillTo r 0 = List.replicate r.length 0 := by simp [fillTo]
theorem fillTo_all {r : List Int} {j : Nat} (h : r.length ≤ j) : fillTo r j = r := by
  rw [fillTo, List.take_of_length_le h, show r.length - j = 0 by omega]; simp
theorem fillTo_succ {r : List Int} {j : Nat} (h : j < r.length) : (fillTo r j).set j (gi r j) = fillTo r (j + 1) := by
  unfold fillTo
  rw [List.set_append_right _ _ (by simp; omega)]
  have e : r.length - j = (r.length - (j + 1)) + 1 := by omega
  rw [e, List.replicate_succ, List.length_take, Nat.min_eq_left (by omega), Nat.sub_self, List.set_cons_zero, List.take_succ_eq_append_getElem h, gi_eq r j h, List.append_assoc]
  rfl
theorem ints_zeros (n : Nat) : List.replicate n (Value.int .i64 0) = ints (List.replicate n 0) := by simp [ints]
/-- A new row in the place of row k. -/
theorem St.putRow {w0 w : World} {v : Value} {t : TypeId} {vs us : List Value} {M : List (List Int)} {env : List Ent} {r : Value} {x : List Int} (h : St w0 w (⟨r, 3, ints x⟩ :: ⟨v, t, us⟩ :: rowsOn vs M env)) (hl : vs.length = M.length) {k : Nat} (hk : k < M.length) :
    St w0 w (⟨v, t, us⟩ :: rowsOn (vs.set k r) (M.set k x) env) := by
  have h1 : St w0 w (⟨r, 3, ints x⟩ :: ⟨v, t, us⟩ :: rowsOn (vs.eraseIdx k) (M.eraseIdx k) env) := by
    have hp := (rows_pick hl hk).append_right env
    have h2 := h.perm (List.Perm.cons _ (List.Perm.cons _ hp))
    exact h2.sub (.cons_cons _ (.cons_cons _ (.cons _ (List.Sublist.refl _))))
  exact h1.unpick hl hk
theorem set_set' {α : Type} (l : List α) (k : Nat) (a b : α) : (l.set k a).set k b = l.set k b := List.set_set ..


end Go.Proofs.Ytjaofbdfhcgmeaa
