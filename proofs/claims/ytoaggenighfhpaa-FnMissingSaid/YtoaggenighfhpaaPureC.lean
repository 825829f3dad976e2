/-
  Equal complexes and equal lists, as a law compares them.
-/
import Derived.Test.YtoaggenighfhpaaText2
import Derived.Test.YtoaggenighfhpaaHLaw
import Derived.Test.YtoaggenighfhpaaDual2
import Derived.Test.YtoaggenighfhpaaBord3
namespace Go.Proofs.Ytoaggenighfhpaa
open Go.RowKit

theorem intsOne (xs : List Int) : ∀ u ∈ ints xs, u.oneCell' = true := fun u h => by
  obtain ⟨x, _, rfl⟩ := List.mem_map.1 h; rfl

set_option maxHeartbeats 1000000 in
theorem sameCx_c (n : Int) (va vb : Value) (fs : List Int) (w : World) (ha : Rd w va (ints fs)) (hb : Rd w vb (ints fs)) : Calls Try.prog 34 #[cx n va, cx n vb] w fun e w' => e = .returned (.bool true) ∧ Below w.heap.size w w' := by
  obtain ⟨p1, l1, k1, rfl⟩ := ha.form
  obtain ⟨p2, l2, k2, rfl⟩ := hb.form
  have hS := ((St.start w).box n (.slice p1 l1 k1) 26).boxAt n (.slice p2 l2 k2) 26 (H := w.heap.size + 1) (by simp)
  have ha' := hS.old ha
  have hb' := hS.old hb
  have HS := hid hS
  have q0 : (n == n) = true := beq_self_eq_true _
  clear hS
  unfold cx
  go_enter Try.func34, Try.ntmps34
  go_wp2_with fail
  refine (same_c _ _ fs _ ha' hb').mono ?_
  rintro e w1 ⟨rfl, q, rfl⟩
  go_wp2_with fail
  go_ret
  exact ⟨rfl, (HS.out.drewN q).bel⟩

set_option maxHeartbeats 2000000 in
set_option maxRecDepth 100000 in
theorem sameLs_c (va vb : Value) (us ts : List Value) (M : List (List Int)) (w : World) (ha : RdM w va us M) (hb : RdM w vb ts M) : Calls Try.prog 52 #[va, vb] w fun e w' => e = .returned (.bool true) ∧ ∃ m, w' = w.drewN m := by
  have la := ha.ln
  have lb := hb.ln
  have ll := ha.le
  have q0 : ((M.length : Int) != (M.length : Int)) = false := by simp
  go_enter Try.func52, Try.ntmps52
  go_wp2_with fail
  go_loopw [5] (fun i wr => ∃ (j m : Nat), j ≤ M.length ∧ i = .int .i64 j ∧ wr = w.drewN m) (fun i _ => M.length - (intOf i).toNat)
  case atStart => exact ⟨0, 0, Nat.zero_le _, rfl, rfl⟩
  case round =>
    obtain ⟨j, m, hj, rfl, hw⟩ := hrel
    have HW := hid hw
    have ha' : RdM wr va us M := by rw [hw]; exact ha.drew m
    have hb' : RdM wr vb ts M := by rw [hw]; exact hb.drew m
    clear hw
    by_cases hlt : j < M.length
    · have f1 := ha'.ix j hlt
      have f2 := ha'.cell j hlt
      have g1 := hb'.ix j hlt
      have g2 := hb'.cell j hlt
      have HR1 := hid (ha'.row j hlt)
      have HR2 := hid (hb'.row j hlt)
      obtain ⟨x, hx⟩ : ∃ x, gv us j = x := ⟨_, rfl⟩
      obtain ⟨y, hy⟩ : ∃ y, gv ts j = y := ⟨_, rfl⟩
      rw [hx] at f2 HR1
      rw [hy] at g2 HR2
      clear ha' hb' hx hy
      go_wp2_with fail
      go_region_held3 (fun w' => w'.cell? (adr va j) = some x ∧ w'.cell? (adr vb j) = some y) (first | go_keep | exact ⟨f2, g2⟩)
        (first | (go_at_call 12; refine (same_c _ _ (gr M j) _ (HR1.out.drew 1) (HR2.out.drew 1)).mono ?_; rintro e _ ⟨rfl, q, rfl⟩))
      all_goals
        go_wp2_with fail
        go_roundw
        case rel => exact ⟨j + 1, m + 1 + q, by omega, by go_num, by rw [HW.out, World.drewN_drewN, Nat.add_assoc]⟩
        case measure => simp [intOf]; omega
    · go_wp2_with fail
      go_ret
      exact ⟨rfl, m, HW.out⟩

end Go.Proofs.Ytoaggenighfhpaa
