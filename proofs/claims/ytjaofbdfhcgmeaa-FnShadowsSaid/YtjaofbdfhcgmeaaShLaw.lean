/-
  What the law of shadows needs, together.
-/
import Derived.Test.YtjaofbdfhcgmeaaShA
import Derived.Test.YtjaofbdfhcgmeaaShC
import Derived.Test.YtjaofbdfhcgmeaaShDraw
import Derived.Test.YtjaofbdfhcgmeaaLawB
namespace Go.Proofs.Ytjaofbdfhcgmeaa
open Go.RowKit

set_option maxHeartbeats 1000000 in
theorem sameCx_c (n : Int) (va vb : Value) (fs : List Int) (w : World) (ha : Rd w va (ints fs)) (hb : Rd w vb (ints fs)) : Calls Try.prog 21 #[cx n va, cx n vb] w fun e w' => e = .returned (.bool true) ∧ Below w.heap.size w w' := by
  obtain ⟨p1, l1, k1, rfl⟩ := ha.form
  obtain ⟨p2, l2, k2, rfl⟩ := hb.form
  have hS := ((St.start w).box n (.slice p1 l1 k1) 30).boxAt n (.slice p2 l2 k2) 30 (H := w.heap.size + 1) (by simp)
  have ha' := hS.old ha
  have hb' := hS.old hb
  have HS := hid hS
  have q0 : (n == n) = true := beq_self_eq_true _
  clear hS
  unfold cx
  go_enter Try.func21, Try.ntmps21
  go_wp2_with fail
  refine (same_c _ _ fs _ ha' hb').mono ?_
  rintro e w1 ⟨rfl, q, rfl⟩
  go_wp2_with fail
  go_ret
  exact ⟨rfl, (HS.out.drewN q).bel⟩

theorem cmpB_iff {xs : List Int} : cmpB xs = true ↔ CmpOk xs := by simp [cmpB]
theorem cmp_fv {xs : List Int} (h : cmpB xs = true) : fvB (resN (cmpB xs) 6) (resL (cmpB xs) (cmpL xs)) = xs := by
  rw [h]
  exact cmp_counts (cmpB_iff.1 h)

end Go.Proofs.Ytjaofbdfhcgmeaa
