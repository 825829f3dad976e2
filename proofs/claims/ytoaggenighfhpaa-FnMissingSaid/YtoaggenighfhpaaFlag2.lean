/-
  Flag complexes: the two functions.
-/
import Derived.Test.YtoaggenighfhpaaFlag
namespace Go.Proofs.Ytoaggenighfhpaa
open Go.RowKit

set_option maxHeartbeats 2000000 in
set_option maxRecDepth 100000 in
theorem FlagOf_c (n : Int) (v : Value) (xs : List Int) (w : World) (hv : Rd w v (ints xs)) : Calls Try.prog 31 #[cx n v] w fun e w' =>
    ∃ u, e = .returned (.tuple #[cx (resN (isC n xs) n) u, .bool (isC n xs)]) ∧ St w w' [⟨u, 3, ints (resL (isC n xs) (flagL n xs))⟩] := by
  obtain ⟨pv, lv, cv, rfl⟩ := hv.form
  have hS := ((St.start w).box n (.slice pv lv cv) 26).boxAt 0 (.slice none 0 0) 26 (H := w.heap.size + 1) (by simp)
  have c0 := hS.hd2.c0
  have c1 := hS.hd2.c1
  have hv' := hS.old hv
  have HS := hid hS
  clear hS
  by_cases hc : IsC n xs
  · have hb : isC n xs = true := isC_iff.2 hc
    have HR := hid hc.rng
    have n0 : 0 ≤ n := by have := hc.1; omega
    have n6 := hc.2.1
    have hp := pw_rng n0 n6
    clear hc
    rw [hb]
    unfold cx
    go_enter Try.func31, Try.ntmps31
    go_wp2_with fail
    refine (IsComplex_c n _ xs _ hv').mono ?_
    rw [hb]
    rintro e w1 ⟨rfl, hB1⟩
    have HS1 := hid (HS.out.quiet hB1)
    have d0 := HS1.out.hd2.c0
    have d1 := HS1.out.hd2.c1
    have hv1 := HS1.out.old hv
    clear hB1
    go_wp2_with fail
    refine (facesIn_c n _ xs _ hv1 HR.out).mono ?_
    rintro e w2 ⟨rfl, hB2⟩
    have hS2 := (HS1.out.quiet hB2).new #[.int .u64 (fam (dn (mem xs)))] 58 (by simp [maxLen])
    have hc2 : (w2.alloc (.cells #[.int .u64 (fam (dn (mem xs)))] 58)).cell? ⟨w2.heap.size, 0, none⟩ = some (.int .u64 (fam (dn (mem xs)))) := hS2.hd.cell 0 (by simp)
    have g0 := hS2.hd3.c0
    have HS2 := hid hS2
    have hwant : Wants 82 (.pointer (some ⟨w2.heap.size, 0, none⟩)) n (flagP (dn (mem xs))) (w2.alloc (.cells #[.int .u64 (fam (dn (mem xs)))] 58)) := fun s w' s0 s1 hB =>
      flag1_c w2.heap.size _ s w' ((hB.cell (World.block_lt_of_cell? _ _ hc2)).trans hc2) s0 (by omega)
    have HW := hid hwant
    clear hB2 hS2 hc2 hwant
    go_wp2_with fail
    refine (flag_pick _ n (flagP (dn (mem xs))) _ n0 n6 HW.out).mono ?_
    rintro e w3 ⟨rfl, hB3⟩
    have HS3 := hid (HS2.out.quiet hB3)
    have i0 := HS3.out.hd3.c0
    clear hB3
    go_wp2_with fail
    refine (complexOf_c n _ _).mono ?_
    rintro e w4 ⟨v2, rfl, hS4⟩
    have hS5 := HS3.out.call1 hS4
    obtain ⟨p, l, c, rfl⟩ := hS5.hd.form
    have k0 := hS5.hd3.c0
    have k1 := hS5.hd3.c1
    have s0 : w4.frozen? ⟨w.heap.size + 1, 0, none⟩ = false := hS5.own.free (v := bx (w.heap.size + 1)) (.tail _ (.tail _ (.head _))) 0 (by simp)
    have s1 : w4.frozen? ⟨w.heap.size + 1, 1, none⟩ = false := hS5.own.free (v := bx (w.heap.size + 1)) (.tail _ (.tail _ (.head _))) 1 (by simp)
    have HS5 := hid hS5
    clear hS5 hS4
    unfold cx
    go_wp2_with fail
    have hS6 := ((HS5.out.bring (l1 := [_, _])).set 0 (by simp) (.int .i64 n)).set 1 (by simp) (.slice p l c)
    exact bodyPost_ret (ret_cx2 rfl rfl rfl hS6.hd) rfl ⟨.slice p l c, rfl, hS6.sub (.cons _ (.cons_cons _ (.cons _ (.cons _ .slnil))))⟩
  · have hb : isC n xs = false := isC_not hc
    clear hc
    rw [hb]
    unfold cx
    go_enter Try.func31, Try.ntmps31
    go_wp2_with fail
    refine (IsComplex_c n _ xs _ hv').mono ?_
    rw [hb]
    rintro e w1 ⟨rfl, hB1⟩
    have HS1 := hid (HS.out.quiet hB1)
    have d0 := HS1.out.hd.c0
    have d1 := HS1.out.hd.c1
    have s0 : w1.frozen? ⟨w.heap.size + 1, 0, none⟩ = false := HS1.out.own.free (v := bx (w.heap.size + 1)) (.head _) 0 (by simp)
    have s1 : w1.frozen? ⟨w.heap.size + 1, 1, none⟩ = false := HS1.out.own.free (v := bx (w.heap.size + 1)) (.head _) 1 (by simp)
    clear hB1
    go_wp2_with fail
    have hS6 := (HS1.out.set 0 (by simp) (.int .i64 0)).set 1 (by simp) (.slice none 0 0)
    exact bodyPost_ret (ret_cx2 rfl rfl rfl hS6.hd) rfl ⟨.slice none 0 0, rfl, (hS6.sub (.cons _ (.cons _ .slnil))).nilRow _⟩
set_option maxHeartbeats 4000000 in
set_option maxRecDepth 100000 in
theorem sFlagOf_c (n : Int) (v : Value) (xs : List Int) (w : World) (hv : Rd w v (ints xs)) : Calls Try.prog 32 #[cx n v] w fun e w' =>
    ∃ u, e = .returned (.tuple #[cx (resN (isC n xs) n) u, .bool (isC n xs)]) ∧ St w w' [⟨u, 3, ints (resL (isC n xs) (flagL n xs))⟩] := by
  obtain ⟨pv, lv, cv, rfl⟩ := hv.form
  have hS := ((St.start w).box n (.slice pv lv cv) 26).boxAt 0 (.slice none 0 0) 26 (H := w.heap.size + 1) (by simp)
  have c0 := hS.hd2.c0
  have c1 := hS.hd2.c1
  have hv' := hS.old hv
  have HS := hid hS
  clear hS
  by_cases hc : IsC n xs
  · have hb : isC n xs = true := isC_iff.2 hc
    have n0 : 0 ≤ n := by have := hc.1; omega
    have n6 := hc.2.1
    have EL := hid (flag_law hc)
    have HR : Hid (∀ x ∈ missB n xs, 0 ≤ x ∧ x < 64) := missB_rng
    have hl := missB_len n xs
    clear hc
    rw [hb]
    unfold cx
    go_enter Try.func32, Try.ntmps32
    go_wp2_with fail
    refine (sIsComplex_c n _ xs _ hv').mono ?_
    rw [hb]
    rintro e w1 ⟨rfl, hB1⟩
    have HS1 := hid (HS.out.quiet hB1)
    have d0 := HS1.out.hd2.c0
    have d1 := HS1.out.hd2.c1
    have hv1 := HS1.out.old hv
    clear hB1
    go_wp2_with fail
    refine (sMissingSets_c n _ xs _ hv1).mono ?_
    rintro e w2 ⟨um, rfl, hS2⟩
    generalize missB n xs = M at *
    have HS2 := hid (HS1.out.call1 hS2)
    have lm := hS2.hd.iln tI
    clear hS2
    go_wp2_with fail
    go_loopw [5, 6] (fun o i wr => ∃ (j : Nat) (u : Value), j ≤ M.length ∧ i = .int .i64 j ∧ o = u ∧ St w wr [⟨u, 3, ints (small (M.take j))⟩, ⟨um, 3, ints M⟩, ⟨bx (w.heap.size + 1), 26, [.int .i64 0, .slice none 0 0]⟩, ⟨bx w.heap.size, 26, [.int .i64 n, .slice pv lv cv]⟩]) (fun _ i _ => M.length - (intOf i).toNat)
    case atStart => exact ⟨0, _, by omega, rfl, rfl, HS2.out.newAt #[] _ (by simp) (by simp)⟩
    case round =>
      obtain ⟨j, u, hj, rfl, rfl, hS⟩ := hrel
      have HS3 := hid hS
      have g0 := hS.hd4.c0
      by_cases hlt : j < M.length
      · have f1 := hS.hd2.iix tI j hlt
        have f2 := hS.hd2.intCell j hlt
        obtain ⟨r0, r1⟩ := gi_rng HR.out hlt
        have hsl : (small (M.take j)).length ≤ 448 := by
          have := List.length_filter_le (fun t => decide (pc t ≤ 2)) (M.take j)
          rw [List.length_take] at this
          unfold small
          omega
        clear hS
        by_cases hq : pc (gi M j) ≤ 2
        · have E2 : Hid (small (M.take (j + 1)) = small (M.take j) ++ [gi M j]) := filter_succ_t hlt (by simp [hq])
          go_wp2_with (first | (go_at_call 70; refine (l2Size_c _ _ r0 r1).mono ?_; rintro e w' ⟨rfl, rfl⟩) | (at_builtin; refine wpList_push rfl _ _ rfl tI HS3.out.own (.int .i64 (gi M j)) rfl (by simp; omega) rfl rfl ?_))
          intro v2 w3 hO2 hb2
          go_wp2_with fail
          go_roundw
          case rel => exact ⟨j + 1, v2, by omega, by go_num, rfl, by rw [E2.out, ints_append]; exact HS3.out.mut hO2 hb2⟩
          case measure => simp [intOf]; omega
        · have E2 : Hid (small (M.take (j + 1)) = small (M.take j)) := filter_succ_f hlt (by simp [hq])
          go_wp2_with (go_at_call 70; refine (l2Size_c _ _ r0 r1).mono ?_; rintro e w' ⟨rfl, rfl⟩)
          go_roundw
          case rel => exact ⟨j + 1, _, by omega, by go_num, rfl, by rw [E2.out]; exact HS3.out⟩
          case measure => simp [intOf]; omega
      · have et : Hid (small (M.take j) = small M) := by show _ = _; rw [List.take_of_length_le (by omega)]
        have HX : Hid (∀ x ∈ small (M.take j), 0 ≤ x ∧ x < 64) := by
          rw [et.out]
          exact fun x hx => HR.out x (List.mem_filter.1 hx).1
        clear hS
        go_wp2_with fail
        refine (l7From_c n _ _ _ HS3.out.hd HX.out n0 n6).mono ?_
        rw [et.out]
        rintro e w4 ⟨v2, rfl, hS4⟩
        have hS5 := HS3.out.call1 hS4
        obtain ⟨p, l, c, rfl⟩ := hS5.hd.form
        have k0 := hS5.hd4.c0
        have k1 := hS5.hd4.c1
        have s0 : w4.frozen? ⟨w.heap.size + 1, 0, none⟩ = false := hS5.own.free (v := bx (w.heap.size + 1)) (.tail _ (.tail _ (.tail _ (.head _)))) 0 (by simp)
        have s1 : w4.frozen? ⟨w.heap.size + 1, 1, none⟩ = false := hS5.own.free (v := bx (w.heap.size + 1)) (.tail _ (.tail _ (.tail _ (.head _)))) 1 (by simp)
        have HS5 := hid hS5
        clear hS5 hS4
        unfold cx
        go_wp2_with fail
        have hS6 := ((HS5.out.bring (l1 := [_, _, _])).set 0 (by simp) (.int .i64 n)).set 1 (by simp) (.slice p l c)
        refine bodyPost_ret (ret_cx2 rfl rfl rfl hS6.hd) rfl ⟨.slice p l c, rfl, ?_⟩
        show St _ _ [⟨_, _, ints (flagL n xs)⟩]
        rw [← EL.out]
        exact hS6.sub (.cons _ (.cons_cons _ (.cons _ (.cons _ (.cons _ .slnil)))))
  · have hb : isC n xs = false := isC_not hc
    clear hc
    rw [hb]
    unfold cx
    go_enter Try.func32, Try.ntmps32
    go_wp2_with fail
    refine (sIsComplex_c n _ xs _ hv').mono ?_
    rw [hb]
    rintro e w1 ⟨rfl, hB1⟩
    have HS1 := hid (HS.out.quiet hB1)
    have d0 := HS1.out.hd.c0
    have d1 := HS1.out.hd.c1
    have s0 : w1.frozen? ⟨w.heap.size + 1, 0, none⟩ = false := HS1.out.own.free (v := bx (w.heap.size + 1)) (.head _) 0 (by simp)
    have s1 : w1.frozen? ⟨w.heap.size + 1, 1, none⟩ = false := HS1.out.own.free (v := bx (w.heap.size + 1)) (.head _) 1 (by simp)
    clear hB1
    go_wp2_with fail
    have hS6 := (HS1.out.set 0 (by simp) (.int .i64 0)).set 1 (by simp) (.slice none 0 0)
    exact bodyPost_ret (ret_cx2 rfl rfl rfl hS6.hd) rfl ⟨.slice none 0 0, rfl, (hS6.sub (.cons _ (.cons _ .slnil))).nilRow _⟩

end Go.Proofs.Ytoaggenighfhpaa
