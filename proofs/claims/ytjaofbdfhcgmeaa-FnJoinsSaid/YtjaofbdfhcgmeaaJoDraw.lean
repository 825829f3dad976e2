/-
  What the law of joins draws.
-/
import Derived.Test.YtjaofbdfhcgmeaaZJo
import Derived.Test.YtjaofbdfhcgmeaaLawB
import Derived.Deep.RegionHeld3
namespace Go.Proofs.Ytjaofbdfhcgmeaa
open Go.RowKit

set_option maxHeartbeats 1000000 in
set_option maxRecDepth 100000 in
theorem DrawConeOf_c (vb : Value) (bs : List Int) (w : World) (hb : Rd w vb (byts bs)) : Calls Try.prog 50 #[vb] w fun e w' => ∃ n v fs, e = .returned (cx n v) ∧ fs.length ≤ 1002 ∧ St w w' [⟨v, 3, ints fs⟩] := by
  have HS := hid ((St.start w).box 0 (.slice none 0 0) 30)
  have HB := hid hb
  clear hb
  go_enter Try.func50, Try.ntmps50
  go_wp2_with fail
  refine (l1New_c vb bs w _ _ HS.out HB.out).mono ?_
  rintro e w1 ⟨g, rfl, hC⟩
  have HC := hid hC
  clear hC
  go_wp2_with fail
  refine (l3Bent_c g vb bs w _ _ HC.out).mono ?_
  rintro e w2 ⟨n, v, fs, rfl, hl, hC1⟩
  obtain ⟨p, l, c, rfl⟩ := hC1.hd.form
  have d0 := hC1.tail.hd.c0
  have d1 := hC1.tail.hd.c1
  have s0 : w2.frozen? ⟨w.heap.size, 0, none⟩ = false := hC1.free (v := bx w.heap.size) (.tail _ (.head _)) 0 (by simp)
  have s1 : w2.frozen? ⟨w.heap.size, 1, none⟩ = false := hC1.free (v := bx w.heap.size) (.tail _ (.head _)) 1 (by simp)
  have HC1 := hid hC1
  clear hC1
  unfold cx
  go_wp2_with fail
  have hC6 := (HC1.out.swap.set 0 (by simp) (.int .i64 n)).set 1 (by simp) (.slice p l c)
  exact bodyPost_ret (ret_cx rfl rfl hC6.hd) rfl ⟨_, _, fs, rfl, hl, hC6.tail.st⟩
set_option maxHeartbeats 1000000 in
set_option maxRecDepth 100000 in
theorem DrawCrossComplex_c (vb : Value) (bs : List Int) (w : World) (hb : Rd w vb (byts bs)) : Calls Try.prog 56 #[vb] w fun e w' => ∃ k, e = .returned (.int .i64 k) ∧ (-1 ≤ k ∧ k ≤ 4) ∧ Below w.heap.size w w' := by
  have HS := hid (St.start w)
  have HB := hid hb
  clear hb
  have HK := hid (fun n g w1 env h => l1Below_c n g vb bs w w1 env h)
  go_enter Try.func56, Try.ntmps56
  go_wp2_with fail
  refine (l1New_c vb bs w _ _ HS.out HB.out).mono ?_
  rintro e w1 ⟨g, rfl, hC⟩
  have HC := hid hC
  clear hC
  go_wp2_with fail
  refine (HK.out 6 g _ _ HC.out).mono ?_
  rintro e w2 ⟨x, rfl, hx, hC⟩
  obtain ⟨x0, x1⟩ := hx.rng (by omega)
  have HC2 := hid hC
  clear hC hx
  go_wp2_with fail
  go_ret
  exact ⟨x - 1, rfl, ⟨by omega, by omega⟩, HC2.out.st.bel⟩
set_option maxHeartbeats 2000000 in
set_option maxRecDepth 100000 in
theorem DrawConePoints_c (vb : Value) (bs : List Int) (w : World) (hb : Rd w vb (byts bs)) : Calls Try.prog 55 #[vb] w fun e w' => ∃ n v fs, e = .returned (cx n v) ∧ fs.length ≤ 1002 ∧ St w w' [⟨v, 3, ints fs⟩] := by
  have HS := hid ((St.start w).box 0 (.slice none 0 0) 30)
  have HB := hid hb
  clear hb
  go_enter Try.func55, Try.ntmps55
  go_wp2_with fail
  refine (l1New_c vb bs w _ _ HS.out HB.out).mono ?_
  rintro e w1 ⟨g, rfl, hC⟩
  have HC := hid hC
  clear hC
  go_wp2_with fail
  refine (l3Bent_c g vb bs w _ _ HC.out).mono ?_
  rintro e w2 ⟨n, v, fs, rfl, hl, hC1⟩
  obtain ⟨p, l, c, rfl⟩ := hC1.hd.form
  have hC2 := hC1.boxAt n (.slice p l c) 30 (H := w2.heap.size) rfl
  have b0 := hC2.hd.c0
  have b1 := hC2.hd.c1
  have HC2 := hid hC2
  have HL := hid hl
  have HCO : Hid (∀ w1, Rd w1 (.slice p l c) (ints fs) → _) := fun w1 h => sConeOf_c n (.slice p l c) fs w1 h
  obtain ⟨cb, hcb⟩ : ∃ cb, coneB n fs = cb := ⟨_, rfl⟩
  rw [hcb] at HCO
  clear hC1 hC2 hl hcb
  unfold cx at HCO ⊢
  go_wp2_with fail
  refine (HCO.out _ HC2.out.tail.hd).mono ?_
  obtain ⟨N2, hN2⟩ : ∃ N2, resN cb (n + 1) = N2 := ⟨_, rfl⟩
  obtain ⟨L2, hL2⟩ : ∃ L2, resL cb (coneL n fs) = L2 := ⟨_, rfl⟩
  have HLL : Hid (L2.length ≤ 1002) := by
    rw [← hL2]
    have := joinL_len n fs s1C
    cases cb
    · simp [resL, Hid]
    · show (joinL n fs s1C).length ≤ 1002; omega
  rw [hN2, hL2]
  clear hN2 hL2
  rintro e w4 ⟨v2, rfl, hN⟩
  obtain ⟨p2, l2, c2, rfl⟩ := hN.hd.form
  have hC4 := (HC2.out.call1 hN).boxAt N2 (.slice p2 l2 c2) 30 (H := w4.heap.size) rfl
  clear b0 b1 hN
  have e0 := hC4.hd.c0
  have e1 := hC4.hd.c1
  have b0 := hC4.tail.tail.hd.c0
  have b1 := hC4.tail.tail.hd.c1
  have d0 := hC4.tail.tail.tail.tail.hd.c0
  have d1 := hC4.tail.tail.tail.tail.hd.c1
  have s0 : World.frozen? (World.alloc _ _) ⟨w.heap.size, 0, none⟩ = false := hC4.free (v := bx w.heap.size) (.tail _ (.tail _ (.tail _ (.tail _ (.head _))))) 0 (by simp)
  have s1 : World.frozen? (World.alloc _ _) ⟨w.heap.size, 1, none⟩ = false := hC4.free (v := bx w.heap.size) (.tail _ (.tail _ (.tail _ (.tail _ (.head _))))) 1 (by simp)
  have HC4 := hid hC4
  clear hC4
  try unfold cx
  cases cb with
  | false =>
    go_wp2_with fail
    have hC6 := ((HC4.out.bring (l1 := [_, _, _, _])).set 0 (by simp) (.int .i64 n)).set 1 (by simp) (.slice p l c)
    exact bodyPost_ret (ret_cx rfl rfl hC6.hd) rfl ⟨_, _, fs, rfl, HL.out, hC6.st.sub (.cons _ (.cons _ (.cons _ (.cons _ (.cons_cons _ (List.nil_sublist _))))))⟩
  | true =>
    clear e0 e1 b0 b1 d0 d1 s0 s1
    go_wp2_with fail
    refine (l1Once_c _ g vb bs w _ _ HC4.out).mono ?_
    rintro e w5 ⟨b, rfl, hC4⟩
    have e0 := hC4.hd.c0
    have e1 := hC4.hd.c1
    have b0 := hC4.tail.tail.hd.c0
    have b1 := hC4.tail.tail.hd.c1
    have d0 := hC4.tail.tail.tail.tail.hd.c0
    have d1 := hC4.tail.tail.tail.tail.hd.c1
    have s0 : w5.frozen? ⟨w.heap.size, 0, none⟩ = false := hC4.free (v := bx w.heap.size) (.tail _ (.tail _ (.tail _ (.tail _ (.head _))))) 0 (by simp)
    have s1 : w5.frozen? ⟨w.heap.size, 1, none⟩ = false := hC4.free (v := bx w.heap.size) (.tail _ (.tail _ (.tail _ (.tail _ (.head _))))) 1 (by simp)
    have HC5 := hid hC4
    clear hC4
    cases b with
    | false =>
      go_wp2_with fail
      have hC6 := ((HC5.out.bring (l1 := [_, _, _, _])).set 0 (by simp) (.int .i64 n)).set 1 (by simp) (.slice p l c)
      exact bodyPost_ret (ret_cx rfl rfl hC6.hd) rfl ⟨_, _, fs, rfl, HL.out, hC6.st.sub (.cons _ (.cons _ (.cons _ (.cons _ (.cons_cons _ (List.nil_sublist _))))))⟩
    | true =>
      go_wp2_with fail
      have hC6 := ((HC5.out.bring (l1 := [_, _, _, _])).set 0 (by simp) (.int .i64 N2)).set 1 (by simp) (.slice p2 l2 c2)
      exact bodyPost_ret (ret_cx rfl rfl hC6.hd) rfl ⟨_, _, L2, rfl, HLL.out, hC6.st.sub (.cons _ (.cons _ (.cons_cons _ (List.nil_sublist _))))⟩

end Go.Proofs.Ytjaofbdfhcgmeaa
