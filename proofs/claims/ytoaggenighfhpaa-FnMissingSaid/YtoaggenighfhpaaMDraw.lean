/-
  What the law of missing sets draws, and the small functions that it asks.
-/
import Derived.Test.YtoaggenighfhpaaPureC
import Derived.Test.YtoaggenighfhpaaMLaw
import Derived.Deep.RegionHeld3
namespace Go.Proofs.Ytoaggenighfhpaa
open Go.RowKit

theorem sSizeOf_c (s : Int) (w : World) (h0 : 0 ≤ s) (h1 : s < 64) : Calls Try.prog 43 #[.int .i64 s] w fun e w' => e = .returned (.int .i64 (pc s)) ∧ w = w' := by
  have HI := hid (inB_t h0 (show s ≤ 63 by omega))
  go_enter Try.func43, Try.ntmps43
  go_wp2_with (go_at_call 64; refine (l1In_c _ _ _ _).mono ?_; rw [HI.out]; rintro e w' ⟨rfl, rfl⟩)
  refine (l2Size_c _ _ h0 h1).mono ?_
  rintro e w' ⟨rfl, rfl⟩
  go_wp2_with fail
  go_ret
  exact ⟨rfl, rfl⟩
set_option maxHeartbeats 1000000 in
theorem MinimalSets_c (va : Value) (xs : List Int) (w : World) (ha : Rd w va (ints xs)) (hf : fineP xs) : Calls Try.prog 41 #[va] w fun e w' => ∃ v, e = .returned v ∧ St w w' [⟨v, 3, ints (minL (mem xs))⟩] := by
  have HF : Hid (fineB xs = true) := decide_eq_true hf
  have H := hid hf
  clear hf
  go_enter Try.func41, Try.ntmps41
  go_wp2_with (go_at_call 89; refine (l2Fine_c _ xs _ ha).mono ?_; rw [HF.out]; rintro e w' ⟨rfl, rfl⟩)
  refine (l2Min_c _ xs _ ha H.out).mono ?_
  rintro e w1 ⟨v, rfl, hS⟩
  have HS := hid hS
  clear hS
  go_wp2_with fail
  go_ret
  exact ⟨_, rfl, HS.out⟩
set_option maxHeartbeats 1000000 in
theorem sameCx2_c (n : Int) (va vb : Value) (xs ys : List Int) (w : World) (ha : Rd w va (ints xs)) (hb : Rd w vb (ints ys)) : Calls Try.prog 34 #[cx n va, cx n vb] w fun e w' => e = .returned (.bool (decide (xs = ys))) ∧ Below w.heap.size w w' := by
  obtain ⟨p1, l1, k1, rfl⟩ := ha.form
  obtain ⟨p2, l2, k2, rfl⟩ := hb.form
  have hS := ((St.start w).box n (.slice p1 l1 k1) 26).boxAt n (.slice p2 l2 k2) 26 (H := w.heap.size + 1) (by simp)
  have ha' := hS.old ha
  have hb' := hS.old hb
  have HS := hid hS
  have q0 : (n == n) = true := beq_self_eq_true _
  clear hS
  obtain ⟨b, hb⟩ : ∃ b, decide (xs = ys) = b := ⟨_, rfl⟩
  have HB := hid hb
  rw [hb]
  clear hb
  unfold cx
  go_enter Try.func34, Try.ntmps34
  go_wp2_with fail
  refine (sameInts_c _ _ xs ys _ ha' hb').mono ?_
  rw [HB.out]
  rintro e w1 ⟨rfl, q, rfl⟩
  go_wp2_with fail
  go_ret
  exact ⟨rfl, (HS.out.drewN q).bel⟩

set_option maxHeartbeats 2000000 in
set_option maxRecDepth 100000 in
theorem DrawIsFlag_c (vb : Value) (bs : List Int) (w : World) (hb : Rd w vb (byts bs)) : Calls Try.prog 30 #[vb] w fun e w' => ∃ n v fs, e = .returned (cx n v) ∧ fs.length ≤ 1002 ∧ St w w' [⟨v, 3, ints fs⟩] := by
  have HS := hid ((St.start w).box 0 (.slice none 0 0) 26)
  have HB := hid hb
  clear hb
  go_enter Try.func30, Try.ntmps30
  go_wp2_with fail
  refine (l1New_c vb bs w _ _ HS.out HB.out).mono ?_
  rintro e w1 ⟨g, rfl, hC⟩
  have HC := hid hC
  clear hC
  go_wp2_with fail
  refine (l3Bent_c g vb bs w _ _ HC.out).mono ?_
  rintro e w2 ⟨n, v, fs, rfl, hl, hC1⟩
  obtain ⟨p, l, c, rfl⟩ := hC1.hd.form
  have hC2 := hC1.boxAt n (.slice p l c) 26 (H := w2.heap.size) rfl
  have b0 := hC2.hd.c0
  have b1 := hC2.hd.c1
  have HC2 := hid hC2
  have HF : Hid (∀ w1, Rd w1 (.slice p l c) (ints fs) → _) := fun w1 h => sFlagOf_c n (.slice p l c) fs w1 h
  clear hC1 hC2
  unfold cx at HF ⊢
  go_wp2_with fail
  refine (HF.out _ HC2.out.tail.hd).mono ?_
  cases hc : isC n fs with
  | false =>
    rintro e w3 ⟨v3, rfl, hN⟩
    obtain ⟨p3, l3, c3, rfl⟩ := hN.hd.form
    have hC3 := (HC2.out.call1 hN).boxAt (resN false n) (.slice p3 l3 c3) 26 (H := w3.heap.size) rfl
    clear b0 b1
    have b0 := (hC3.tail.tail).hd.c0
    have b1 := (hC3.tail.tail).hd.c1
    have d0 := (hC3.tail.tail.tail.tail).hd.c0
    have d1 := (hC3.tail.tail.tail.tail).hd.c1
    have s0 := hC3.free (v := bx w.heap.size) (.tail _ (.tail _ (.tail _ (.tail _ (.head _))))) 0 (by simp)
    have s1 := hC3.free (v := bx w.heap.size) (.tail _ (.tail _ (.tail _ (.tail _ (.head _))))) 1 (by simp)
    have s0' : World.frozen? (World.alloc _ _) ⟨w.heap.size, 0, none⟩ = false := s0
    have s1' : World.frozen? (World.alloc _ _) ⟨w.heap.size, 1, none⟩ = false := s1
    have HC3 := hid hC3
    clear hC3 hN s0 s1
    try unfold cx
    go_wp2_with fail
    have hC6 := ((HC3.out.bring (l1 := [_, _, _, _])).set 0 (by simp) (.int .i64 n)).set 1 (by simp) (.slice p l c)
    exact bodyPost_ret (ret_cx rfl rfl hC6.hd) rfl ⟨_, _, fs, rfl, hl, hC6.st.sub (.cons _ (.cons _ (.cons _ (.cons _ (List.Sublist.refl _)))))⟩
  | true =>
    rintro e w3 ⟨v3, rfl, hN⟩
    obtain ⟨p3, l3, c3, rfl⟩ := hN.hd.form
    have HC3 := hid ((HC2.out.call1 hN).boxAt (resN true n) (.slice p3 l3 c3) 26 (H := w3.heap.size) rfl)
    have hfl : (resL true (flagL n fs)).length ≤ 1002 := by have := flagL_len n fs; simp [resL]; omega
    clear hN b0 b1
    try unfold cx
    go_wp2_with fail
    refine (l1Once_c _ g vb bs w _ _ HC3.out).mono ?_
    rintro e w4 ⟨b, rfl, hC3⟩
    have a0 := hC3.hd.c0
    have a1 := hC3.hd.c1
    have b0 := (hC3.tail.tail).hd.c0
    have b1 := (hC3.tail.tail).hd.c1
    have d0 := (hC3.tail.tail.tail.tail).hd.c0
    have d1 := (hC3.tail.tail.tail.tail).hd.c1
    have s0 : w4.frozen? ⟨w.heap.size, 0, none⟩ = false := hC3.free (v := bx w.heap.size) (.tail _ (.tail _ (.tail _ (.tail _ (.head _))))) 0 (by simp)
    have s1 : w4.frozen? ⟨w.heap.size, 1, none⟩ = false := hC3.free (v := bx w.heap.size) (.tail _ (.tail _ (.tail _ (.tail _ (.head _))))) 1 (by simp)
    have HC4 := hid hC3
    clear hC3
    cases b with
    | true =>
      go_wp2_with fail
      have hC6 := ((HC4.out.bring (l1 := [_, _, _, _])).set 0 (by simp) (.int .i64 (resN true n))).set 1 (by simp) (.slice p3 l3 c3)
      exact bodyPost_ret (ret_cx rfl rfl hC6.hd) rfl ⟨_, _, _, rfl, hfl, hC6.st.sub (.cons _ (.cons _ (.cons_cons _ (List.nil_sublist _))))⟩
    | false =>
      go_wp2_with fail
      have hC6 := ((HC4.out.bring (l1 := [_, _, _, _])).set 0 (by simp) (.int .i64 n)).set 1 (by simp) (.slice p l c)
      exact bodyPost_ret (ret_cx rfl rfl hC6.hd) rfl ⟨_, _, fs, rfl, hl, hC6.st.sub (.cons _ (.cons _ (.cons _ (.cons _ (List.Sublist.refl _)))))⟩

set_option maxHeartbeats 2000000 in
set_option maxRecDepth 100000 in
theorem DrawFromMissing_c (vb : Value) (bs : List Int) (w : World) (hb : Rd w vb (byts bs)) : Calls Try.prog 27 #[vb] w fun e w' => ∃ n v xs, e = .returned (.tuple #[.int .i64 n, v]) ∧ xs.length ≤ 6 ∧ St w w' [⟨v, 3, ints xs⟩] := by
  have HS := hid (St.start w)
  have HB := hid hb
  clear hb
  have HO := hid (fun n g w1 env h => l1Once_c n g vb bs w w1 env h)
  go_enter Try.func27, Try.ntmps27
  go_wp2_with fail
  refine (l1New_c vb bs w _ _ HS.out HB.out).mono ?_
  rintro e w1 ⟨g, rfl, hC⟩
  have HC := hid (hC.newAt #[.int .i64 1, .int .i64 2, .int .i64 3, .int .i64 4, .int .i64 5, .int .i64 6, .int .i64 6, .int .i64 6, .int .i64 0, .int .i64 7] 3 (by simp [maxLen]) (H := w1.heap.size) rfl)
  clear hC
  go_wp2_with fail
  refine (l1PickInt_c _ [1, 2, 3, 4, 5, 6, 6, 6, 0, 7] g vb bs w _ _ (.head _) (by simp) HC.out).mono ?_
  rintro e w2 ⟨n, rfl, _, hC⟩
  have HC2 := hid hC.tail
  clear hC
  go_wp2_with fail
  refine (l2Sets_c g vb bs w _ _ HC2.out).mono ?_
  rintro e w3 ⟨v, xs, rfl, ⟨hl, _⟩, hC⟩
  have HC3 := hid hC
  clear hC
  go_wp2_with fail
  go_loopw [7] (fun c wr => ∃ (k : Nat) (ys : List Int), k ≤ xs.length ∧ c = .int .i64 k ∧ ys.length = xs.length ∧ Cr w wr g vb bs [⟨v, 3, ints ys⟩]) (fun c _ => xs.length - (intOf c).toNat)
  case atStart => exact ⟨0, xs, Nat.zero_le _, rfl, rfl, HC3.out⟩
  case round =>
    obtain ⟨k, ys, hk, rfl, hyl, hC⟩ := hrel
    have lv := hC.hd.iln tI
    rw [hyl] at lv
    have HC4 := hid hC
    clear hC
    by_cases hlt : k < xs.length
    · go_wp2_with fail
      refine (HO.out _ g _ _ HC4.out).mono ?_
      rintro e w4 ⟨b, rfl, hC⟩
      have f1 := hC.hd.iix tI k (by omega)
      have f2 := hC.hd.intCell k (by omega)
      have f3 := hC.free (.head _) k (by simp; omega)
      have HC5 := hid hC
      clear hC
      cases b with
      | true =>
        go_wp2_with fail
        go_ret2
        exact ⟨_, _, ys, rfl, by omega, HC5.out.st⟩
      | false =>
        by_cases h1 : 1 ≤ n
        · by_cases h6 : n ≤ 6
          · by_cases hp : 0 < gi ys k
            · go_wp2_with fail
              go_roundw
              case rel =>
                have hC6 := HC5.out.set k (by simp; omega) (.int .i64 (bits .and .i64 (gi ys k) (wrap64 (wrap64 (2 ^ n.toNat) - 1))))
                rw [ints_set] at hC6
                exact ⟨k + 1, _, by omega, by go_num, by simp [hyl], hC6⟩
              case measure => simp [intOf]; omega
            · have q1 : decide (0 < gi ys k) = false := decide_eq_false hp
              go_wp2_with fail
              go_roundw
              case rel => exact ⟨k + 1, ys, by omega, by go_num, hyl, HC5.out⟩
              case measure => simp [intOf]; omega
          · go_wp2_with fail
            go_roundw
            case rel => exact ⟨k + 1, ys, by omega, by go_num, hyl, HC5.out⟩
            case measure => simp [intOf]; omega
        · go_wp2_with fail
          go_roundw
          case rel => exact ⟨k + 1, ys, by omega, by go_num, hyl, HC5.out⟩
          case measure => simp [intOf]; omega
    · go_wp2_with fail
      go_ret2
      exact ⟨_, _, ys, rfl, by omega, HC4.out.st⟩

theorem missB_no {n : Int} {fs : List Int} (h : isC n fs = false) : missB n fs = [] := if_neg fun h' => by rw [isC_iff.2 h'] at h; cases h

end Go.Proofs.Ytoaggenighfhpaa
