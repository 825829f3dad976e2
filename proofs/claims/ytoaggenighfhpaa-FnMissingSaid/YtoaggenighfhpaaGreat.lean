/-
  The greatest and the least of the least sets that are no faces.
-/
import Derived.Test.YtoaggenighfhpaaMiss
namespace Go.Proofs.Ytoaggenighfhpaa
open Go.RowKit

theorem missB_sorted (n : Int) (xs : List Int) : (missB n xs).Pairwise bef := by
  unfold missB; split
  · exact setsL_sorted _
  · exact List.Pairwise.nil
/-- The size of the last one. -/
def lastB (M : List Int) : Int := if M.length = 0 then -1 else pc (gi M (M.length - 1))
def mostTo (M : List Int) : Nat → Int
  | 0 => -1
  | j + 1 => if mostTo M j < pc (gi M j) then pc (gi M j) else mostTo M j
theorem sorted_pc {M : List Int} (h : M.Pairwise bef) {i j : Nat} (hij : i ≤ j) (hj : j < M.length) : pc (gi M i) ≤ pc (gi M j) := by
  by_cases e : i = j
  · subst e; omega
  · have := pair_gi.1 h i j (by omega) hj
    unfold bef at this
    omega
theorem mostTo_eq {M : List Int} (h : M.Pairwise bef) : ∀ j, j ≤ M.length → mostTo M j = if j = 0 then -1 else pc (gi M (j - 1)) := by
  intro j
  induction j with
  | zero => intro _; rfl
  | succ j ih =>
    intro hj
    rw [mostTo, ih (by omega), if_neg (show ¬ j + 1 = 0 by omega), Nat.add_sub_cancel]
    have h0 := (pc_rng (gi M j)).1
    by_cases e : j = 0
    · subst e
      rw [if_pos rfl, if_pos (by omega)]
    · rw [if_neg e]
      have := sorted_pc h (i := j - 1) (j := j) (by omega) (by omega)
      split <;> omega
theorem mostTo_rng (M : List Int) (j : Nat) : -1 ≤ mostTo M j ∧ mostTo M j ≤ 6 := by
  induction j with
  | zero => simp [mostTo]
  | succ j ih => rw [mostTo]; have := pc_rng (gi M j); split <;> omega
theorem most_all {M : List Int} (h : M.Pairwise bef) : mostTo M M.length = lastB M := by rw [mostTo_eq h _ (Nat.le_refl _), lastB]
theorem lastB_rng (M : List Int) : -1 ≤ lastB M ∧ lastB M ≤ 6 := by unfold lastB; have := pc_rng (gi M (M.length - 1)); split <;> omega

set_option maxHeartbeats 1000000 in
theorem GreatestMissing_c (n : Int) (v : Value) (xs : List Int) (w : World) (hv : Rd w v (ints xs)) : Calls Try.prog 37 #[cx n v] w fun e w' => e = .returned (.int .i64 (lastB (missB n xs))) ∧ Below w.heap.size w w' := by
  have hS := (St.start w).box n v 26
  obtain ⟨pv, lv, cv, rfl⟩ := hv.form
  have c0 := hS.hd.c0
  have c1 := hS.hd.c1
  have hv' := hS.old hv
  have HS := hid hS
  have EL := hid (most_all (missB_sorted n xs))
  have HR : Hid (∀ x ∈ missB n xs, 0 ≤ x ∧ x < 64) := missB_rng
  have hl := missB_len n xs
  clear hS
  unfold cx
  go_enter Try.func37, Try.ntmps37
  go_wp2_with fail
  refine (MissingSets_c n _ xs _ hv').mono ?_
  rintro e w1 ⟨u, rfl, hS1⟩
  generalize hM : missB n xs = M at *
  have EM := hid hM; clear hM
  have HS1 := hid (HS.out.call1 hS1)
  have la := hS1.hd.iln tI
  clear hS1
  go_wp2_with fail
  go_loop [3, 9] (fun m i => ∃ (j : Nat), j ≤ M.length ∧ i = .int .i64 j ∧ m = .int .i64 (mostTo M j)) (fun _ i => M.length - (intOf i).toNat)
  case atStart => exact ⟨0, by omega, rfl, rfl⟩
  case round =>
    obtain ⟨j, hj, rfl, rfl⟩ := hrel
    have hm := mostTo_rng M j
    by_cases hlt : j < M.length
    · have f1 := HS1.out.hd.iix tI j hlt
      have f2 := HS1.out.hd.intCell j hlt
      obtain ⟨r0, r1⟩ := gi_rng HR.out hlt
      by_cases hq : mostTo M j < pc (gi M j)
      · have E2 : Hid (mostTo M (j + 1) = pc (gi M j)) := by show _ = _; rw [mostTo, if_pos hq]
        go_wp2_with (go_at_call 84; refine (SizeOf_s _ _ r0 r1).mono ?_; rintro e w' ⟨rfl, rfl⟩)
        go_round
        case rel => exact ⟨j + 1, by omega, by go_num, by rw [E2.out]⟩
        case measure => simp [intOf]; omega
      · have E2 : Hid (mostTo M (j + 1) = mostTo M j) := by show _ = _; rw [mostTo, if_neg hq]
        go_wp2_with (go_at_call 84; refine (SizeOf_s _ _ r0 r1).mono ?_; rintro e w' ⟨rfl, rfl⟩)
        go_round
        case rel => exact ⟨j + 1, by omega, by go_num, by rw [E2.out]⟩
        case measure => simp [intOf]; omega
    · have e : j = M.length := by omega
      subst e
      go_wp2_with fail
      go_ret
      exact ⟨ret_int (by rw [EM.out]; exact EL.out), HS1.out.bel⟩
set_option maxHeartbeats 1000000 in
theorem sGreatestMissing_c (n : Int) (v : Value) (xs : List Int) (w : World) (hv : Rd w v (ints xs)) : Calls Try.prog 38 #[cx n v] w fun e w' => e = .returned (.int .i64 (lastB (missB n xs))) ∧ Below w.heap.size w w' := by
  have hS := (St.start w).box n v 26
  obtain ⟨pv, lv, cv, rfl⟩ := hv.form
  have c0 := hS.hd.c0
  have c1 := hS.hd.c1
  have hv' := hS.old hv
  have HS := hid hS
  have HR : Hid (∀ x ∈ missB n xs, 0 ≤ x ∧ x < 64) := missB_rng
  have hl := missB_len n xs
  clear hS
  unfold cx
  go_enter Try.func38, Try.ntmps38
  go_wp2_with fail
  refine (sMissingSets_c n _ xs _ hv').mono ?_
  rintro e w1 ⟨u, rfl, hS1⟩
  generalize hM : missB n xs = M at *
  have EM := hid hM; clear hM
  have HS1 := hid (HS.out.call1 hS1)
  have la := hS1.hd.iln tI
  clear hS1
  by_cases hz : M.length = 0
  · have E : Hid (lastB M = -1) := by show _ = _; rw [lastB, if_pos hz]
    have dz : ((M.length : Int) == 0) = true := by simp [hz]
    clear hz
    go_wp2_with fail
    go_ret
    exact ⟨ret_int (by rw [EM.out]; exact E.out.symm), HS1.out.bel⟩
  · have E : Hid (lastB M = pc (gi M (M.length - 1))) := by show _ = _; rw [lastB, if_neg hz]
    have dz : ((M.length : Int) == 0) = false := by simp; intro h; exact hz (by simp [h])
    have f1 := HS1.out.hd.iix tI (M.length - 1) (by omega)
    have f2 := HS1.out.hd.intCell (M.length - 1) (by omega)
    rw [show ((M.length - 1 : Nat) : Int) = (M.length : Int) - 1 by omega] at f1
    obtain ⟨r0, r1⟩ := gi_rng HR.out (k := M.length - 1) (by omega)
    go_wp2_with (go_at_call 70; refine (l2Size_c _ _ r0 r1).mono ?_; rintro e w' ⟨rfl, rfl⟩)
    go_ret
    exact ⟨ret_int (by rw [EM.out]; exact E.out.symm), HS1.out.bel⟩

def flagB (n : Int) (xs : List Int) : Bool := isC n xs && decide (lastB (missB n xs) ≤ 2)
set_option maxHeartbeats 1000000 in
theorem IsFlag_c (n : Int) (v : Value) (xs : List Int) (w : World) (hv : Rd w v (ints xs)) : Calls Try.prog 35 #[cx n v] w fun e w' => e = .returned (.bool (flagB n xs)) ∧ Below w.heap.size w w' := by
  have hS := (St.start w).box n v 26
  obtain ⟨pv, lv, cv, rfl⟩ := hv.form
  have c0 := hS.hd.c0
  have c1 := hS.hd.c1
  have hv' := hS.old hv
  have HS := hid hS
  clear hS
  cases hb : isC n xs with
  | false =>
    have E : Hid (flagB n xs = false) := by show _ = _; rw [flagB, hb]; rfl
    unfold cx
    go_enter Try.func35, Try.ntmps35
    go_wp2_with fail
    refine (IsComplex_c n _ xs _ hv').mono ?_
    rintro e w1 ⟨rfl, hB1⟩
    go_wp2_with fail
    go_ret
    exact ⟨ret_bool E.out.symm, (HS.out.quiet hB1).bel⟩
  | true =>
    have E : Hid (flagB n xs = decide (lastB (missB n xs) ≤ 2)) := by show _ = _; rw [flagB, hb]; rfl
    unfold cx
    go_enter Try.func35, Try.ntmps35
    go_wp2_with fail
    refine (IsComplex_c n _ xs _ hv').mono ?_
    rintro e w1 ⟨rfl, hB1⟩
    have HS1 := hid (HS.out.quiet hB1)
    have d0 := HS1.out.hd.c0
    have d1 := HS1.out.hd.c1
    have hv1 := HS1.out.old hv
    clear hB1
    go_wp2_with fail
    refine (GreatestMissing_c n _ xs _ hv1).mono ?_
    rintro e w2 ⟨rfl, hB2⟩
    have hr := lastB_rng (missB n xs)
    have HS2 := hid (HS1.out.quiet hB2)
    clear hB2
    go_wp2_with fail
    go_ret
    exact ⟨ret_bool E.out.symm, HS2.out.bel⟩

set_option maxHeartbeats 1000000 in
theorem sIsFlag_c (n : Int) (v : Value) (xs : List Int) (w : World) (hv : Rd w v (ints xs)) : Calls Try.prog 36 #[cx n v] w fun e w' => e = .returned (.bool (flagB n xs)) ∧ Below w.heap.size w w' := by
  have hS := (St.start w).box n v 26
  obtain ⟨pv, lv, cv, rfl⟩ := hv.form
  have c0 := hS.hd.c0
  have c1 := hS.hd.c1
  have hv' := hS.old hv
  have HS := hid hS
  clear hS
  cases hb : isC n xs with
  | false =>
    have E : Hid (flagB n xs = false) := by show _ = _; rw [flagB, hb]; rfl
    unfold cx
    go_enter Try.func36, Try.ntmps36
    go_wp2_with fail
    refine (sIsComplex_c n _ xs _ hv').mono ?_
    rintro e w1 ⟨rfl, hB1⟩
    go_wp2_with fail
    go_ret
    exact ⟨ret_bool E.out.symm, (HS.out.quiet hB1).bel⟩
  | true =>
    have E : Hid (flagB n xs = decide (lastB (missB n xs) ≤ 2)) := by show _ = _; rw [flagB, hb]; rfl
    unfold cx
    go_enter Try.func36, Try.ntmps36
    go_wp2_with fail
    refine (sIsComplex_c n _ xs _ hv').mono ?_
    rintro e w1 ⟨rfl, hB1⟩
    have HS1 := hid (HS.out.quiet hB1)
    have d0 := HS1.out.hd.c0
    have d1 := HS1.out.hd.c1
    have hv1 := HS1.out.old hv
    clear hB1
    go_wp2_with fail
    refine (sGreatestMissing_c n _ xs _ hv1).mono ?_
    rintro e w2 ⟨rfl, hB2⟩
    have hr := lastB_rng (missB n xs)
    have HS2 := hid (HS1.out.quiet hB2)
    clear hB2
    go_wp2_with fail
    go_ret
    exact ⟨ret_bool E.out.symm, HS2.out.bel⟩


/-! ### Complete up to a size -/

def cuB (n : Int) (xs : List Int) : Int := if IsC n xs then (if (missB n xs).length = 0 then n else pc (gi (missB n xs) 0) - 1) else -1
def leastTo (M : List Int) (n : Int) : Nat → Int
  | 0 => n + 1
  | j + 1 => if pc (gi M j) < leastTo M n j then pc (gi M j) else leastTo M n j
theorem leastTo_eq {M : List Int} {n : Int} (h : M.Pairwise bef) (hn : ∀ x ∈ M, pc x ≤ n) : ∀ j, j ≤ M.length → leastTo M n j = if j = 0 then n + 1 else pc (gi M 0) := by
  intro j
  induction j with
  | zero => intro _; rfl
  | succ j ih =>
    intro hj
    rw [leastTo, ih (by omega), if_neg (show ¬ j + 1 = 0 by omega)]
    by_cases e : j = 0
    · subst e
      have := hn _ (gi_mem (show 0 < M.length by omega))
      rw [if_pos rfl, if_pos (by omega)]
    · rw [if_neg e]
      have := sorted_pc h (i := 0) (j := j) (by omega) (by omega)
      rw [if_neg (by omega)]
theorem pc_pw_fin : ∀ n : Fin 7, ∀ s : Fin 64, s.val < 2 ^ n.val → pcN s.val ≤ n.val := by decide +kernel
theorem pc_pw {n s : Int} (n0 : 0 ≤ n) (n6 : n ≤ 6) (s0 : 0 ≤ s) (s1 : s < pw n) : pc s ≤ n := by
  have h64 := (pw_rng n0 n6).2
  have h := pc_pw_fin ⟨n.toNat, by omega⟩ ⟨s.toNat, by omega⟩ (by
    show s.toNat < 2 ^ n.toNat
    have : pw n = ((2 ^ n.toNat : Nat) : Int) := by simp [pw]
    omega)
  unfold pc
  simp only at h
  omega
theorem miss_pc {n : Int} {xs : List Int} (hc : IsC n xs) : ∀ x ∈ missB n xs, pc x ≤ n := by
  intro x hx
  rw [missB, if_pos hc] at hx
  have h := mem_setsL.1 hx
  have h2 := (minP_iff.1 h.2.2).1
  simp only [upToP, Bool.and_eq_true, decide_eq_true_eq] at h2
  exact pc_pw (by have := hc.1; omega) hc.2.1 h.1 h2.1
theorem leastTo_rng {M : List Int} {n : Int} (h0 : 0 ≤ n) (h6 : n ≤ 6) (j : Nat) : 0 ≤ leastTo M n j ∧ leastTo M n j ≤ 7 := by
  induction j with
  | zero => simp [leastTo]; omega
  | succ j ih => rw [leastTo]; have := pc_rng (gi M j); split <;> omega

set_option maxHeartbeats 1000000 in
theorem CompleteUpTo_c (n : Int) (v : Value) (xs : List Int) (w : World) (hv : Rd w v (ints xs)) : Calls Try.prog 39 #[cx n v] w fun e w' => e = .returned (.int .i64 (cuB n xs)) ∧ Below w.heap.size w w' := by
  have hS := (St.start w).box n v 26
  obtain ⟨pv, lv, cv, rfl⟩ := hv.form
  have c0 := hS.hd.c0
  have c1 := hS.hd.c1
  have hv' := hS.old hv
  have HS := hid hS
  clear hS
  by_cases hc : IsC n xs
  · have hb : isC n xs = true := isC_iff.2 hc
    have EL : Hid (cuB n xs = leastTo (missB n xs) n (missB n xs).length - 1) := by
      show _ = _
      rw [cuB, if_pos hc, leastTo_eq (missB_sorted n xs) (miss_pc hc) _ (Nat.le_refl _)]
      split <;> omega
    have HR : Hid (∀ x ∈ missB n xs, 0 ≤ x ∧ x < 64) := missB_rng
    have hl := missB_len n xs
    have n0 : 1 ≤ n := hc.1
    have n6 := hc.2.1
    clear hc
    unfold cx
    go_enter Try.func39, Try.ntmps39
    go_wp2_with fail
    refine (IsComplex_c n _ xs _ hv').mono ?_
    rintro e w1 ⟨rfl, hB1⟩
    have HS1 := hid (HS.out.quiet hB1)
    have d0 := HS1.out.hd.c0
    have d1 := HS1.out.hd.c1
    have hv1 := HS1.out.old hv
    clear hB1
    go_wp2_with fail
    refine (MissingSets_c n _ xs _ hv1).mono ?_
    rintro e w2 ⟨u, rfl, hS2⟩
    generalize missB n xs = M at *
    have HS2 := hid (HS1.out.call1 hS2)
    have la := hS2.hd.iln tI
    clear hS2
    go_wp2_with fail
    go_loop [3, 15] (fun m i => ∃ (j : Nat), j ≤ M.length ∧ i = .int .i64 j ∧ m = .int .i64 (leastTo M n j)) (fun _ i => M.length - (intOf i).toNat)
    case atStart => exact ⟨0, by omega, rfl, rfl⟩
    case round =>
      obtain ⟨j, hj, rfl, rfl⟩ := hrel
      have hm := leastTo_rng (M := M) (show 0 ≤ n by omega) n6 j
      by_cases hlt : j < M.length
      · have f1 := HS2.out.hd.iix tI j hlt
        have f2 := HS2.out.hd.intCell j hlt
        obtain ⟨r0, r1⟩ := gi_rng HR.out hlt
        by_cases hq : pc (gi M j) < leastTo M n j
        · have E2 : Hid (leastTo M n (j + 1) = pc (gi M j)) := by show _ = _; rw [leastTo, if_pos hq]
          go_wp2_with (go_at_call 84; refine (SizeOf_s _ _ r0 r1).mono ?_; rintro e w' ⟨rfl, rfl⟩)
          go_round
          case rel => exact ⟨j + 1, by omega, by go_num, by rw [E2.out]⟩
          case measure => simp [intOf]; omega
        · have E2 : Hid (leastTo M n (j + 1) = leastTo M n j) := by show _ = _; rw [leastTo, if_neg hq]
          go_wp2_with (go_at_call 84; refine (SizeOf_s _ _ r0 r1).mono ?_; rintro e w' ⟨rfl, rfl⟩)
          go_round
          case rel => exact ⟨j + 1, by omega, by go_num, by rw [E2.out]⟩
          case measure => simp [intOf]; omega
      · have e : j = M.length := by omega
        subst e
        go_wp2_with fail
        go_ret
        exact ⟨ret_int EL.out.symm, HS2.out.bel⟩
  · have hb : isC n xs = false := isC_not hc
    have E : Hid (cuB n xs = -1) := by show _ = _; rw [cuB, if_neg hc]
    clear hc
    unfold cx
    go_enter Try.func39, Try.ntmps39
    go_wp2_with fail
    refine (IsComplex_c n _ xs _ hv').mono ?_
    rintro e w1 ⟨rfl, hB1⟩
    have HS1 := hid (HS.out.quiet hB1)
    clear hB1
    go_wp2_with fail
    go_ret
    exact ⟨ret_int E.out.symm, HS1.out.bel⟩
set_option maxHeartbeats 1000000 in
theorem sCompleteUpTo_c (n : Int) (v : Value) (xs : List Int) (w : World) (hv : Rd w v (ints xs)) : Calls Try.prog 40 #[cx n v] w fun e w' => e = .returned (.int .i64 (cuB n xs)) ∧ Below w.heap.size w w' := by
  have hS := (St.start w).box n v 26
  obtain ⟨pv, lv, cv, rfl⟩ := hv.form
  have c0 := hS.hd.c0
  have c1 := hS.hd.c1
  have hv' := hS.old hv
  have HS := hid hS
  clear hS
  by_cases hc : IsC n xs
  · have hb : isC n xs = true := isC_iff.2 hc
    have EL : Hid (cuB n xs = if (missB n xs).length = 0 then n else pc (gi (missB n xs) 0) - 1) := by show _ = _; rw [cuB, if_pos hc]
    have HR : Hid (∀ x ∈ missB n xs, 0 ≤ x ∧ x < 64) := missB_rng
    have hl := missB_len n xs
    clear hc
    unfold cx
    go_enter Try.func40, Try.ntmps40
    go_wp2_with fail
    refine (sIsComplex_c n _ xs _ hv').mono ?_
    rintro e w1 ⟨rfl, hB1⟩
    have HS1 := hid (HS.out.quiet hB1)
    have d0 := HS1.out.hd.c0
    have d1 := HS1.out.hd.c1
    have hv1 := HS1.out.old hv
    clear hB1
    go_wp2_with fail
    refine (sMissingSets_c n _ xs _ hv1).mono ?_
    rintro e w2 ⟨u, rfl, hS2⟩
    generalize missB n xs = M at *
    have HS2 := hid (HS1.out.call1 hS2)
    have la := hS2.hd.iln tI
    have k0 := HS2.out.hd2.c0
    have k1 := HS2.out.hd2.c1
    clear hS2
    by_cases hz : M.length = 0
    · have E : Hid (cuB n xs = n) := by show _ = _; rw [EL.out, if_pos hz]
      have dz : ((M.length : Int) == 0) = true := by simp [hz]
      clear hz
      go_wp2_with fail
      go_ret
      exact ⟨ret_int E.out.symm, HS2.out.bel⟩
    · have E : Hid (cuB n xs = pc (gi M 0) - 1) := by show _ = _; rw [EL.out, if_neg hz]
      have dz : ((M.length : Int) == 0) = false := by simp; intro h; exact hz (by simp [h])
      have f1 := HS2.out.hd.iix tI 0 (by omega)
      have f2 := HS2.out.hd.intCell 0 (by omega)
      obtain ⟨r0, r1⟩ := gi_rng HR.out (k := 0) (by omega)
      rw [show ((0 : Nat) : Int) = 0 from rfl] at f1
      have hr := pc_rng (gi M 0)
      go_wp2_with (go_at_call 70; refine (l2Size_c _ _ r0 r1).mono ?_; rintro e w' ⟨rfl, rfl⟩)
      go_ret
      exact ⟨ret_int E.out.symm, HS2.out.bel⟩
  · have hb : isC n xs = false := isC_not hc
    have E : Hid (cuB n xs = -1) := by show _ = _; rw [cuB, if_neg hc]
    clear hc
    unfold cx
    go_enter Try.func40, Try.ntmps40
    go_wp2_with fail
    refine (sIsComplex_c n _ xs _ hv').mono ?_
    rintro e w1 ⟨rfl, hB1⟩
    have HS1 := hid (HS.out.quiet hB1)
    clear hB1
    go_wp2_with fail
    go_ret
    exact ⟨ret_int E.out.symm, HS1.out.bel⟩

end Go.Proofs.Ytoaggenighfhpaa
