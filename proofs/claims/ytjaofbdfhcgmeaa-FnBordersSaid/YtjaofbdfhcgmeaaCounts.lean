/-
  Counts of faces from h numbers.
-/
import Derived.Test.YtjaofbdfhcgmeaaNum
namespace Go.Proofs.Ytjaofbdfhcgmeaa
open Go.RowKit

theorem quiet_eq {P : Program} {f : FuncId} {args : Array Value} {w : World} {n : Nat} {v : Value}
    (h : Calls P f args (w.drewN n) fun e w' => e = .returned v ∧ w.drewN n = w') : Calls P f args (w.drewN n) fun e w'' => e = .returned v ∧ ∃ m, w'' = w.drewN m :=
  h.mono fun _ _ ⟨he, hm⟩ => ⟨he, n, hm.symm⟩

/-- The sum for place k, after i terms. -/
def cSum (h : List Int) (k : Nat) : Nat → Int
  | 0 => 0
  | i + 1 => wrap64 (cSum h k i + wrap64 (gi h i * chooseB ((h.length : Int) - 1 - (i : Int)) ((k : Int) - (i : Int))))
def cList (h : List Int) (k : Nat) : List Int := (List.range k).map fun j => cSum h j (j + 1)
def cfhOk (h : List Int) : Prop := 1 ≤ h.length ∧ h.length ≤ 7 ∧ ∀ x ∈ h, -1000 ≤ x ∧ x ≤ 1000
instance (h : List Int) : Decidable (cfhOk h) := by unfold cfhOk; exact inferInstance
def cfhB (h : List Int) : List Int := if cfhOk h then cList h h.length else []
theorem cfhB_len (h : List Int) : (cfhB h).length ≤ 1000000 := by
  unfold cfhB
  split
  · rename_i hk
    have := hk.2.1
    simp [cList]; omega
  · simp
theorem cList_succ (h : List Int) (k : Nat) : cList h (k + 1) = cList h k ++ [cSum h k (k + 1)] := by simp [cList, List.range_succ]
theorem gi_mem {xs : List Int} {j : Nat} (h : j < xs.length) : gi xs j ∈ xs := by rw [gi_eq xs j h]; exact List.getElem_mem _
theorem all_gi {xs : List Int} {p : Int → Prop} (h : ∀ j, j < xs.length → p (gi xs j)) : ∀ x ∈ xs, p x := by
  intro x hx
  obtain ⟨j, hj, rfl⟩ := List.getElem_of_mem hx
  rw [← gi_eq xs j hj]
  exact h j hj



end Go.Proofs.Ytjaofbdfhcgmeaa
