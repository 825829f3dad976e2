/-
  The laws' own helpers for slices of slices of integers.
-/
import Derived.Test.YtjaofbdfhcgmeaaMat
import Derived.Test.YtjaofbdfhcgmeaaLaws
namespace Go.Proofs.Ytjaofbdfhcgmeaa
open Go.RowKit

theorem rowsPerm {e : Ent} {vs : List Value} {M : List (List Int)} {X Y : List Ent} (h : X.Perm Y) : (e :: rowsOn vs M X).Perm (e :: rowsOn vs M Y) := List.Perm.cons _ (h.append_left _)
theorem rowsLift {e x : Ent} {vs : List Value} {M : List (List Int)} {Y : List Ent} : (e :: rowsOn vs M (x :: Y)).Perm (x :: e :: rowsOn vs M Y) := (List.Perm.cons _ List.perm_middle).trans (List.Perm.swap _ _ _)
theorem rowsSwap {e e' : Ent} {vs us : List Value} {M N : List (List Int)} {Z : List Ent} : (e :: rowsOn vs M (e' :: rowsOn us N Z)).Perm (e' :: rowsOn us N (e :: rowsOn vs M Z)) := by
  refine rowsLift.trans (List.Perm.cons _ ?_)
  have h : (rowsOn vs M (rowsOn us N Z)).Perm (rowsOn us N (rowsOn vs M Z)) := by
    simp only [rowsOn]
    rw [← List.append_assoc, ← List.append_assoc]
    exact (List.perm_append_comm (l₁ := rows vs M) (l₂ := rows us N)).append_right Z
  exact (List.Perm.cons _ h).trans List.perm_middle.symm
theorem quiet_drew {P : Program} {f : FuncId} {args : Array Value} {w : World} {n : Nat} {v : Value}
    (h : Calls P f args (w.drewN n) fun e w' => e = .returned v ∧ ∃ m, w' = (w.drewN n).drewN m) : Calls P f args (w.drewN n) fun e w'' => e = .returned v ∧ ∃ m, w'' = w.drewN m :=
  h.mono fun _ _ ⟨he, m, hm⟩ => ⟨he, n + m, by rw [hm, World.drewN_drewN]⟩
theorem take_succ_eq_gr {M N : List (List Int)} {k : Nat} (h : k < M.length) (h' : k < N.length) (hp : M.take k = N.take k) (he : gr M k = gr N k) : M.take (k + 1) = N.take (k + 1) := by
  rw [take_succ_gr h, take_succ_gr h', hp, he]


/-- How many numbers the first i rows have. -/
def cntTo (M : List (List Int)) : Nat → Nat
  | 0 => 0
  | i + 1 => cntTo M i + (gr M i).length
def cnt (M : List (List Int)) : Nat := cntTo M M.length
theorem cntTo_mono (M : List (List Int)) {i j : Nat} (h : i ≤ j) : cntTo M i ≤ cntTo M j := by
  induction j with
  | zero => have : i = 0 := by omega
            subst this; exact Nat.le_refl _
  | succ j ih =>
    by_cases e : i = j + 1
    · subst e; exact Nat.le_refl _
    · have := ih (by omega)
      rw [cntTo]; omega
theorem cntTo_le (M : List (List Int)) {i : Nat} (h : i ≤ M.length) : cntTo M i ≤ cnt M := cntTo_mono M h
theorem cntTo_bd {M : List (List Int)} {B : Nat} (h : ∀ k, k < M.length → (gr M k).length ≤ B) {i : Nat} (hi : i ≤ M.length) : cntTo M i ≤ B * i := by
  induction i with
  | zero => simp [cntTo]
  | succ i ih =>
    have h1 := ih (by omega)
    have h2 := h i (by omega)
    rw [cntTo, Nat.mul_succ]; omega
theorem cnt_bd {M : List (List Int)} {B n : Nat} (h : ∀ k, k < M.length → (gr M k).length ≤ B) (hn : M.length ≤ n) : cnt M ≤ B * n :=
  Nat.le_trans (cntTo_bd h (Nat.le_refl _)) (Nat.mul_le_mul_left _ hn)
/-- The first i rows marked. -/
def markTo (k : Int) (M : List (List Int)) (i : Nat) : List (List Int) := (List.range M.length).map fun a => if a < i then marks (k + (cntTo M a : Int)) (gr M a).length else gr M a
theorem markTo_len (k : Int) (M : List (List Int)) (i : Nat) : (markTo k M i).length = M.length := by simp [markTo]
theorem markTo_gr {k : Int} {M : List (List Int)} {i a : Nat} (h : a < M.length) : gr (markTo k M i) a = if a < i then marks (k + (cntTo M a : Int)) (gr M a).length else gr M a := by simp [gr, markTo, List.getD, h]
theorem ext_gr {M N : List (List Int)} (hl : M.length = N.length) (h : ∀ k, k < M.length → gr M k = gr N k) : M = N := by
  refine List.ext_getElem hl fun k h1 h2 => ?_
  have := h k h1
  rwa [gr_eq h1, gr_eq h2] at this
theorem markTo_zero (k : Int) (M : List (List Int)) : markTo k M 0 = M := ext_gr (markTo_len k M 0) fun a ha => by
  rw [markTo_gr (by rwa [markTo_len] at ha), if_neg (by omega)]
theorem markTo_succ {k : Int} {M : List (List Int)} {i : Nat} (h : i < M.length) : (markTo k M i).set i (marks (k + (cntTo M i : Int)) (gr M i).length) = markTo k M (i + 1) := ext_gr (by simp [markTo]) fun a ha => by
  have ha' : a < M.length := by simpa [markTo] using ha
  rw [gr_set (by rw [markTo_len]; exact h), markTo_gr ha', markTo_gr ha']
  by_cases e : a = i
  · subst e; rw [if_pos rfl, if_pos (by omega)]
  · rw [if_neg e]
    by_cases h2 : a < i
    · rw [if_pos h2, if_pos (by omega)]
    · rw [if_neg h2, if_neg (by omega)]



end Go.Proofs.Ytjaofbdfhcgmeaa
