/-
  What the law of holes draws, and its sums.
-/
import Derived.Test.YtjaofbdfhcgmeaaCone
import Derived.Test.YtjaofbdfhcgmeaaLawB
import Derived.Deep.RegionHeld3
namespace Go.Proofs.Ytjaofbdfhcgmeaa
open Go.RowKit

set_option maxHeartbeats 1000000 in
set_option maxRecDepth 100000 in
theorem DrawCountParts_c (vb : Value) (bs : List Int) (w : World) (hb : Rd w vb (byts bs)) : Calls Try.prog 87 #[vb] w fun e w' => ∃ n v fs, e = .returned (cx n v) ∧ fs.length ≤ 1002 ∧ St w w' [⟨v, 3, ints fs⟩] := by
  have HS := hid ((St.start w).box 0 (.slice none 0 0) 30)
  have HB := hid hb
  clear hb
  go_enter Try.func87, Try.ntmps87
  go_wp2_with fail
  refine (l1New_c vb bs w _ _ HS.out HB.out).mono ?_
  rintro e w1 ⟨g, rfl, hC⟩
  have HC := hid hC
  clear hC
  go_wp2_with fail
  refine (l3Bent_c g vb bs w _ _ HC.out).mono ?_
  rintro e w2 ⟨n, v, fs, rfl, hl, hC1⟩
  obtain ⟨p, l, c, rfl⟩ := hC1.hd.form
  have d0 := hC1.tail.hd.c0
  have d1 := hC1.tail.hd.c1
  have s0 : w2.frozen? ⟨w.heap.size, 0, none⟩ = false := hC1.free (v := bx w.heap.size) (.tail _ (.head _)) 0 (by simp)
  have s1 : w2.frozen? ⟨w.heap.size, 1, none⟩ = false := hC1.free (v := bx w.heap.size) (.tail _ (.head _)) 1 (by simp)
  have HC1 := hid hC1
  clear hC1
  unfold cx
  go_wp2_with fail
  have hC6 := (HC1.out.swap.set 0 (by simp) (.int .i64 n)).set 1 (by simp) (.slice p l c)
  exact bodyPost_ret (ret_cx rfl rfl hC6.hd) rfl ⟨_, _, fs, rfl, hl, hC6.tail.st⟩

def drawnP (w : World) (e : Ending) (w' : World) : Prop := ∃ n v fs p, e = .returned (.tuple #[cx n v, .int .i64 p]) ∧ fs.length ≤ 1002 ∧ St w w' [⟨v, 3, ints fs⟩]
set_option maxHeartbeats 2000000 in
set_option maxRecDepth 100000 in
theorem l14Case_c (vb : Value) (bs : List Int) (w : World) (hb : Rd w vb (byts bs)) : Calls Try.prog 152 #[vb] w (drawnP w) := by
  have HS := hid ((St.start w).box 0 (.slice none 0 0) 30)
  have HB := hid hb
  clear hb
  have HP := hid (fun vl xs g w1 env hv hx h => l1PickInt_c vl xs g vb bs w w1 env hv hx h)
  go_enter Try.func152, Try.ntmps152
  go_wp2_with fail
  refine (l1New_c vb bs w _ _ HS.out HB.out).mono ?_
  rintro e w1 ⟨g, rfl, hC⟩
  have HC := hid hC
  clear hC
  go_wp2_with fail
  refine (l3Bent_c g vb bs w _ _ HC.out).mono ?_
  rintro e w2 ⟨n, v, fs, rfl, hl, hC1⟩
  obtain ⟨p, l, c, rfl⟩ := hC1.hd.form
  have hC2 := hC1.boxAt n (.slice p l c) 30 (H := w2.heap.size) rfl
  have HL := hid hl
  clear hC1 hl
  unfold cx
  go_wp2_with fail
  generalize w2.alloc _ = w3 at *
  have b0 := hC2.hd.c0
  have b1 := hC2.hd.c1
  have HA := hid ((hC2.newAt #[.int .i64 2, .int .i64 3, .int .i64 5, .int .i64 2, .int .i64 3, .int .i64 2, .int .i64 3, .int .i64 4] 3 (by simp [maxLen]) (H := w3.heap.size) rfl).drewN 1)
  clear hC2
  go_region_held3 (fun w' => w'.cell? ⟨w2.heap.size, 0, none⟩ = some (.int .i64 n) ∧ w'.cell? ⟨w2.heap.size, 1, none⟩ = some (.slice p l c)) (first | go_keep | exact ⟨m0, m1⟩ | exact ⟨a0', a1'⟩ | exact ⟨b0, b1⟩)
    (first
      | (refine (HP.out _ [2, 3, 5, 2, 3, 2, 3, 4] g _ _ (.head _) (by simp) HA.out).mono ?_; rintro e w5 ⟨q, rfl, _, hC5'⟩; have hC5 := hC5'.tail; have a0' := hC5.hd.c0; have a1' := hC5.hd.c1; have s0 : w5.frozen? ⟨w.heap.size, 0, none⟩ = false := hC5.free (v := bx w.heap.size) (.tail _ (.tail _ (.head _))) 0 (by simp); have s1 : w5.frozen? ⟨w.heap.size, 1, none⟩ = false := hC5.free (v := bx w.heap.size) (.tail _ (.tail _ (.head _))) 1 (by simp); have d0 := hC5.tail.tail.hd.c0; have d1 := hC5.tail.tail.hd.c1; have hC6 := ((hC5.bring (l1 := [_, _])).set 0 (by simp) (.int .i64 n)).set 1 (by simp) (.slice p l c); have m0 := hC6.tail.hd.c0; have m1 := hC6.tail.hd.c1; have HC6 := hid hC6; clear hC6 hC5 hC5'))
  all_goals
    go_wp2_with fail
    exact bodyPost_ret (ret_cx2 rfl rfl rfl HC6.out.hd) rfl ⟨_, _, fs, _, rfl, HL.out, HC6.out.st.sub (.cons _ (.cons _ (.cons_cons _ (List.nil_sublist _))))⟩
set_option maxHeartbeats 1000000 in
set_option maxRecDepth 100000 in
theorem DrawHolesMod_c (vb : Value) (bs : List Int) (w : World) (hb : Rd w vb (byts bs)) : Calls Try.prog 83 #[vb] w (drawnP w) := by
  have hS0 := (St.start w).box 0 (.slice none 0 0) 30
  have HB := hid (hS0.old hb)
  have HS := hid hS0
  clear hb hS0
  go_enter Try.func83, Try.ntmps83
  go_wp2_with fail
  refine (l14Case_c vb bs _ HB.out).mono ?_
  rintro e w2 ⟨n, v, fs, q, rfl, hl, hN⟩
  obtain ⟨p, l, c, rfl⟩ := hN.hd.form
  have hC := (HS.out.call1 hN).boxAt n (.slice p l c) 30 (H := w2.heap.size) rfl
  have b0 := hC.hd.c0
  have b1 := hC.hd.c1
  have d0 := hC.tail.tail.hd.c0
  have d1 := hC.tail.tail.hd.c1
  have s0 := hC.own.free (v := bx w.heap.size) (.tail _ (.tail _ (.head _))) 0 (by simp)
  have s1 := hC.own.free (v := bx w.heap.size) (.tail _ (.tail _ (.head _))) 1 (by simp)
  simp only [adr, bx, Nat.zero_add] at s0 s1
  have HC := hid hC
  have HL := hid hl
  clear hC hN hl
  unfold cx
  go_wp2_with fail
  have hC6 := ((HC.out.bring (l1 := [_, _])).set 0 (by simp) (.int .i64 n)).set 1 (by simp) (.slice p l c)
  exact bodyPost_ret (ret_cx2 rfl rfl rfl hC6.hd) rfl ⟨_, _, fs, _, rfl, HL.out, hC6.sub (.cons _ (.cons _ (.cons_cons _ (List.nil_sublist _))))⟩

set_option maxHeartbeats 1000000 in
set_option maxRecDepth 100000 in
theorem DrawIsSphereLike_c (vb : Value) (bs : List Int) (w : World) (hb : Rd w vb (byts bs)) : Calls Try.prog 86 #[vb] w (drawnP w) := by
  have hS0 := (St.start w).box 0 (.slice none 0 0) 30
  have HB := hid (hS0.old hb)
  have HS := hid hS0
  clear hb hS0
  go_enter Try.func86, Try.ntmps86
  go_wp2_with fail
  refine (l14Case_c vb bs _ HB.out).mono ?_
  rintro e w2 ⟨n, v, fs, q, rfl, hl, hN⟩
  obtain ⟨p, l, c, rfl⟩ := hN.hd.form
  have hC := (HS.out.call1 hN).boxAt n (.slice p l c) 30 (H := w2.heap.size) rfl
  have b0 := hC.hd.c0
  have b1 := hC.hd.c1
  have d0 := hC.tail.tail.hd.c0
  have d1 := hC.tail.tail.hd.c1
  have s0 := hC.own.free (v := bx w.heap.size) (.tail _ (.tail _ (.head _))) 0 (by simp)
  have s1 := hC.own.free (v := bx w.heap.size) (.tail _ (.tail _ (.head _))) 1 (by simp)
  simp only [adr, bx, Nat.zero_add] at s0 s1
  have HC := hid hC
  have HL := hid hl
  clear hC hN hl
  unfold cx
  go_wp2_with fail
  have hC6 := ((HC.out.bring (l1 := [_, _])).set 0 (by simp) (.int .i64 n)).set 1 (by simp) (.slice p l c)
  exact bodyPost_ret (ret_cx2 rfl rfl rfl hC6.hd) rfl ⟨_, _, fs, _, rfl, HL.out, hC6.sub (.cons _ (.cons _ (.cons_cons _ (List.nil_sublist _))))⟩


set_option maxHeartbeats 2000000 in
set_option maxRecDepth 100000 in
theorem DrawHasNoHoles_c (vb : Value) (bs : List Int) (w : World) (hb : Rd w vb (byts bs)) : Calls Try.prog 85 #[vb] w (drawnP w) := by
  have hS0 := (St.start w).box 0 (.slice none 0 0) 30
  have HB0 := hid hb
  have HB := hid (hS0.old hb)
  have HS := hid hS0
  clear hb hS0
  go_enter Try.func85, Try.ntmps85
  go_wp2_with fail
  refine (l14Case_c vb bs _ HB.out).mono ?_
  rintro e w2 ⟨n, v, fs, q, rfl, hl, hN⟩
  obtain ⟨p, l, c, rfl⟩ := hN.hd.form
  have HC := hid ((HS.out.call1 hN).boxAt n (.slice p l c) 30 (H := w2.heap.size) rfl)
  have HL := hid hl
  clear hN hl
  have HCO : Hid (∀ w1, Rd w1 (.slice p l c) (ints fs) → _) := fun w1 h => sConeOf_c n (.slice p l c) fs w1 h
  obtain ⟨cb, hcb⟩ : ∃ cb, coneB n fs = cb := ⟨_, rfl⟩
  rw [hcb] at HCO
  clear hcb
  unfold cx at HCO ⊢
  go_wp2_with fail
  refine (l1New_c vb bs w _ _ HC.out HB0.out).mono ?_
  rintro e w3 ⟨g, rfl, hC⟩
  have b0 := hC.hd.c0
  have b1 := hC.hd.c1
  have HC3 := hid hC
  clear hC
  go_wp2_with fail
  refine (HCO.out _ HC3.out.tail.hd).mono ?_
  obtain ⟨N2, hN2⟩ : ∃ N2, resN cb (n + 1) = N2 := ⟨_, rfl⟩
  obtain ⟨L2, hL2⟩ : ∃ L2, resL cb (coneL n fs) = L2 := ⟨_, rfl⟩
  have HLL : Hid (L2.length ≤ 1002) := by
    rw [← hL2]
    have := joinL_len n fs s1C
    cases cb
    · simp [resL, Hid]
    · show (joinL n fs s1C).length ≤ 1002; omega
  rw [hN2, hL2]
  clear hN2 hL2
  rintro e w4 ⟨v2, rfl, hN⟩
  obtain ⟨p2, l2, c2, rfl⟩ := hN.hd.form
  have hC4 := (HC3.out.call1 hN).boxAt N2 (.slice p2 l2 c2) 30 (H := w4.heap.size) rfl
  clear b0 b1 hN
  have e0 := hC4.hd.c0
  have e1 := hC4.hd.c1
  have b0 := hC4.tail.tail.hd.c0
  have b1 := hC4.tail.tail.hd.c1
  have d0 := hC4.tail.tail.tail.tail.hd.c0
  have d1 := hC4.tail.tail.tail.tail.hd.c1
  have s0 : World.frozen? (World.alloc _ _) ⟨w.heap.size, 0, none⟩ = false := hC4.free (v := bx w.heap.size) (.tail _ (.tail _ (.tail _ (.tail _ (.head _))))) 0 (by simp)
  have s1 : World.frozen? (World.alloc _ _) ⟨w.heap.size, 1, none⟩ = false := hC4.free (v := bx w.heap.size) (.tail _ (.tail _ (.tail _ (.tail _ (.head _))))) 1 (by simp)
  have HC4 := hid hC4
  clear hC4
  try unfold cx
  cases cb with
  | false =>
    go_wp2_with fail
    have hC6 := ((HC4.out.bring (l1 := [_, _, _, _])).set 0 (by simp) (.int .i64 n)).set 1 (by simp) (.slice p l c)
    exact bodyPost_ret (ret_cx2 rfl rfl rfl hC6.hd) rfl ⟨_, _, fs, _, rfl, HL.out, hC6.st.sub (.cons _ (.cons _ (.cons _ (.cons _ (.cons_cons _ (List.nil_sublist _))))))⟩
  | true =>
    clear e0 e1 b0 b1 d0 d1 s0 s1
    go_wp2_with fail
    refine (l1Once_c _ g vb bs w _ _ HC4.out).mono ?_
    rintro e w5 ⟨b, rfl, hC4⟩
    have e0 := hC4.hd.c0
    have e1 := hC4.hd.c1
    have b0 := hC4.tail.tail.hd.c0
    have b1 := hC4.tail.tail.hd.c1
    have d0 := hC4.tail.tail.tail.tail.hd.c0
    have d1 := hC4.tail.tail.tail.tail.hd.c1
    have s0 : w5.frozen? ⟨w.heap.size, 0, none⟩ = false := hC4.free (v := bx w.heap.size) (.tail _ (.tail _ (.tail _ (.tail _ (.head _))))) 0 (by simp)
    have s1 : w5.frozen? ⟨w.heap.size, 1, none⟩ = false := hC4.free (v := bx w.heap.size) (.tail _ (.tail _ (.tail _ (.tail _ (.head _))))) 1 (by simp)
    have HC5 := hid hC4
    clear hC4
    cases b with
    | false =>
      go_wp2_with fail
      have hC6 := ((HC5.out.bring (l1 := [_, _, _, _])).set 0 (by simp) (.int .i64 n)).set 1 (by simp) (.slice p l c)
      exact bodyPost_ret (ret_cx2 rfl rfl rfl hC6.hd) rfl ⟨_, _, fs, _, rfl, HL.out, hC6.st.sub (.cons _ (.cons _ (.cons _ (.cons _ (.cons_cons _ (List.nil_sublist _))))))⟩
    | true =>
      go_wp2_with fail
      have hC6 := ((HC5.out.bring (l1 := [_, _, _, _])).set 0 (by simp) (.int .i64 N2)).set 1 (by simp) (.slice p2 l2 c2)
      exact bodyPost_ret (ret_cx2 rfl rfl rfl hC6.hd) rfl ⟨_, _, L2, _, rfl, HLL.out, hC6.st.sub (.cons _ (.cons _ (.cons_cons _ (List.nil_sublist _))))⟩

set_option maxHeartbeats 1000000 in
theorem total_c (va : Value) (xs : List Int) (w : World) (ha : Rd w va (ints xs)) (hr : ∀ j, -128 ≤ gi xs j ∧ gi xs j ≤ 64) (hl : xs.length ≤ 7) : Calls Try.prog 89 #[va] w fun e w' => e = .returned (.int .i64 (sumTo xs xs.length)) ∧ w = w' := by
  have la := ha.iln tI
  have HR := hid hr
  clear hr
  go_enter Try.func89, Try.ntmps89
  go_wp2_with fail
  go_loop [3, 4] (fun f i => ∃ (j : Nat), j ≤ xs.length ∧ i = .int .i64 j ∧ f = .int .i64 (sumTo xs j)) (fun _ i => xs.length - (intOf i).toNat)
  case atStart => exact ⟨0, by omega, rfl, rfl⟩
  case round =>
    obtain ⟨j, hj, rfl, rfl⟩ := hrel
    by_cases hlt : j < xs.length
    · have f1 := ha.iix tI j hlt
      have f2 := ha.intCell j hlt
      obtain ⟨g0, g1⟩ := HR.out j
      obtain ⟨h0, h1⟩ := sumTo_rng HR.out j
      go_wp2_with fail
      go_round
      case rel => exact ⟨j + 1, by omega, by go_num, rfl⟩
      case measure => simp [intOf]; omega
    · have ej : j = xs.length := by omega
      subst ej
      go_wp2_with fail
      go_ret
      exact ⟨rfl, rfl⟩
theorem sgTo_rng {L : List Int} (h : ∀ j, -128 ≤ gi L j ∧ gi L j ≤ 64) (j : Nat) : -128 * (j : Int) ≤ sgTo L j ∧ sgTo L j ≤ 128 * (j : Int) := by
  induction j with
  | zero => simp [sgTo]
  | succ j ih =>
    have := h j
    rw [sgTo]
    rcases (show (j : Int) % 2 = 0 ∨ (j : Int) % 2 = 1 by omega) with e | e <;> rw [e] <;> omega
set_option maxHeartbeats 1000000 in
theorem signed_c (va : Value) (xs : List Int) (w : World) (ha : Rd w va (ints xs)) (hr : ∀ j, -128 ≤ gi xs j ∧ gi xs j ≤ 64) (hl : xs.length ≤ 7) : Calls Try.prog 94 #[va] w fun e w' => e = .returned (.int .i64 (sgTo xs xs.length)) ∧ w = w' := by
  have la := ha.iln tI
  have HR := hid hr
  clear hr
  go_enter Try.func94, Try.ntmps94
  go_wp2_with fail
  go_loop [3, 4] (fun f i => ∃ (j : Nat), j ≤ xs.length ∧ i = .int .i64 j ∧ f = .int .i64 (sgTo xs j)) (fun _ i => xs.length - (intOf i).toNat)
  case atStart => exact ⟨0, by omega, rfl, rfl⟩
  case round =>
    obtain ⟨j, hj, rfl, rfl⟩ := hrel
    by_cases hlt : j < xs.length
    · have f1 := ha.iix tI j hlt
      have f2 := ha.intCell j hlt
      obtain ⟨g0, g1⟩ := HR.out j
      obtain ⟨h0, h1⟩ := sgTo_rng HR.out j
      have e1 : sgTo xs (j + 1) = sgTo xs j + (2 * ((j : Int) % 2) - 1) * gi xs j := rfl
      obtain ⟨G, hG⟩ : ∃ G, gi xs j = G := ⟨_, rfl⟩
      rw [hG] at g0 g1 f2 e1
      clear hG
      rcases (show (j : Int) % 2 = 0 ∨ (j : Int) % 2 = 1 by omega) with e | e
      · have q2 : Int.tmod (j : Int) 2 = 0 := by rw [Int.tmod_eq_emod_of_nonneg (by omega)]; exact e
        rw [e] at e1
        go_wp2_with fail
        go_round
        case rel => exact ⟨j + 1, by omega, by go_num, by rw [e1]; first | rfl | (congr 1; omega)⟩
        case measure => simp [intOf]; omega
      · have q2 : Int.tmod (j : Int) 2 = 1 := by rw [Int.tmod_eq_emod_of_nonneg (by omega)]; exact e
        rw [e] at e1
        go_wp2_with fail
        go_round
        case rel => exact ⟨j + 1, by omega, by go_num, by rw [e1]; first | rfl | (congr 1; omega)⟩
        case measure => simp [intOf]; omega
    · have ej : j = xs.length := by omega
      subst ej
      go_wp2_with fail
      go_ret
      exact ⟨rfl, rfl⟩

end Go.Proofs.Ytjaofbdfhcgmeaa
