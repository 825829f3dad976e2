/-
  What the laws draw: a complex, h numbers, two numbers for a binomial coefficient.
-/
import Derived.Test.YtjaofbdfhcgmeaaBent
import Derived.Test.YtjaofbdfhcgmeaaH
namespace Go.Proofs.Ytjaofbdfhcgmeaa
open Go.RowKit

set_option maxHeartbeats 1000000 in
set_option maxRecDepth 100000 in
theorem DrawDualOf_c (vb : Value) (bs : List Int) (w : World) (hb : Rd w vb (byts bs)) : Calls Try.prog 27 #[vb] w fun e w' => ∃ n v fs, e = .returned (cx n v) ∧ fs.length ≤ 1002 ∧ St w w' [⟨v, 3, ints fs⟩] := by
  have HS := hid ((St.start w).box 0 (.slice none 0 0) 30)
  have HB := hid hb
  clear hb
  go_enter Try.func27, Try.ntmps27
  go_wp2_with fail
  refine (l1New_c vb bs w _ _ HS.out HB.out).mono ?_
  rintro e w1 ⟨g, rfl, hC⟩
  have HC := hid hC
  clear hC
  go_wp2_with fail
  refine (l3Bent_c g vb bs w _ _ HC.out).mono ?_
  rintro e w2 ⟨n, v, fs, rfl, hl, hC1⟩
  obtain ⟨p, l, c, rfl⟩ := hC1.hd.form
  have d0 := hC1.tail.hd.c0
  have d1 := hC1.tail.hd.c1
  have s0 : w2.frozen? ⟨w.heap.size, 0, none⟩ = false := hC1.free (v := bx w.heap.size) (.tail _ (.head _)) 0 (by simp)
  have s1 : w2.frozen? ⟨w.heap.size, 1, none⟩ = false := hC1.free (v := bx w.heap.size) (.tail _ (.head _)) 1 (by simp)
  have HC1 := hid hC1
  clear hC1
  unfold cx
  go_wp2_with fail
  have hC6 := (HC1.out.swap.set 0 (by simp) (.int .i64 n)).set 1 (by simp) (.slice p l c)
  exact bodyPost_ret (ret_cx rfl rfl hC6.hd) rfl ⟨_, _, fs, rfl, hl, hC6.tail.st⟩


theorem l1Bit_c (b : Bool) (w : World) : Calls Try.prog 142 #[.bool b] w fun e w' => e = .returned (.int .i64 (if b = true then 1 else 0)) ∧ w = w' := by
  cases b
  · go_enter Try.func142, Try.ntmps142
    go_wp2_with fail
    go_ret
    exact ⟨rfl, rfl⟩
  · go_enter Try.func142, Try.ntmps142
    go_wp2_with fail
    go_ret
    exact ⟨rfl, rfl⟩



end Go.Proofs.Ytjaofbdfhcgmeaa
