/-
  Duals.
-/
import Derived.Test.YtjaofbdfhcgmeaaOf
import Derived.Test.YtjaofbdfhcgmeaaNum2
namespace Go.Proofs.Ytjaofbdfhcgmeaa
open Go.RowKit

def compN (n s : Int) : Int := pw n - 1 - s
def dualP (n : Int) (P : Int → Bool) (s : Int) : Bool := !P (compN n s)
def dualL (n : Int) (xs : List Int) : List Int := maxL (upToP (pw n) (dualP n (dn (mem xs))))
theorem dualL_len (n : Int) (xs : List Int) : (dualL n xs).length ≤ 448 := maxL_len _
theorem compN_rng {n s : Int} (s0 : 0 ≤ s) (s1 : s < pw n) : 0 ≤ compN n s ∧ compN n s < pw n := by unfold compN; omega
theorem complB_set {n s : Int} (n0 : 0 ≤ n) (n6 : n ≤ 6) (s0 : 0 ≤ s) (s1 : s < pw n) : complB n s = compN n s := by
  rw [complB, if_pos (isSet_pw.2 ⟨n0, n6, s0, s1⟩)]; rfl
theorem sub_comp_fin : ∀ n : Fin 7, ∀ a b : Fin 64, a.val < 2 ^ n.val → b.val < 2 ^ n.val → sub a.val b.val = true → sub ((2 ^ n.val - 1 - b.val : Nat) : Int) ((2 ^ n.val - 1 - a.val : Nat) : Int) = true := by decide +kernel
theorem sub_comp {n a b : Int} (n0 : 0 ≤ n) (n6 : n ≤ 6) (a0 : 0 ≤ a) (a1 : a < pw n) (b0 : 0 ≤ b) (b1 : b < pw n) (h : sub a b = true) : sub (compN n b) (compN n a) = true := by
  have h64 := (pw_rng n0 n6).2
  have hp : pw n = ((2 ^ n.toNat : Nat) : Int) := by simp [pw]
  have := sub_comp_fin ⟨n.toNat, by omega⟩ ⟨a.toNat, by omega⟩ ⟨b.toNat, by omega⟩ (by show a.toNat < 2 ^ n.toNat; omega) (by show b.toNat < 2 ^ n.toNat; omega) (by
    simp only [Int.toNat_of_nonneg a0, Int.toNat_of_nonneg b0]; exact h)
  simp only at this
  have e1 : ((2 ^ n.toNat - 1 - b.toNat : Nat) : Int) = compN n b := by unfold compN; omega
  have e2 : ((2 ^ n.toNat - 1 - a.toNat : Nat) : Int) = compN n a := by unfold compN; omega
  rwa [e1, e2] at this
theorem dual_law {n : Int} {xs : List Int} (hc : IsC n xs) : maxL (mem ((missB n xs).map (compN n))) = dualL n xs := by
  have n0 : 0 ≤ n := by have := hc.1; omega
  have n6 := hc.2.1
  have h64 := pw_rng n0 n6
  have hM : ∀ m, m ∈ missB n xs ↔ 0 ≤ m ∧ m < 64 ∧ minP (upToP (pw n) (notP (dn (mem xs)))) m = true := fun m => by rw [missB, if_pos hc]; exact mem_setsL
  have up : ∀ m, upToP (pw n) (notP (dn (mem xs))) m = true ↔ m < pw n ∧ dn (mem xs) m = false := fun m => by simp [upToP, notP]
  refine maxL_of_dn fun s s0 s1 => bool_ext ?_
  rw [dn_iff, dn_iff]
  constructor
  · rintro ⟨t, t0, t1, tm, ts⟩
    obtain ⟨m, hm, rfl⟩ := List.mem_map.1 (mem_iff.1 tm)
    obtain ⟨m0, m1, mm⟩ := (hM m).1 hm
    obtain ⟨m2, m3⟩ := (up m).1 (minP_iff.1 mm).1
    refine ⟨compN n m, t0, t1, ?_, ts⟩
    have : compN n (compN n m) = m := by unfold compN; omega
    simp only [upToP, dualP, this, m3, Bool.and_eq_true, decide_eq_true_eq]
    exact ⟨(compN_rng m0 m2).2, rfl⟩
  · rintro ⟨t, t0, t1, tm, ts⟩
    simp only [upToP, dualP, Bool.and_eq_true, decide_eq_true_eq, Bool.not_eq_true'] at tm
    obtain ⟨t2, t3⟩ := tm
    obtain ⟨u0, u1⟩ := compN_rng t0 t2
    obtain ⟨m, m0, m1, mm, ms⟩ := exists_min (P := upToP (pw n) (notP (dn (mem xs)))) u0 (by omega) ((up _).2 ⟨u1, t3⟩)
    obtain ⟨m2, m3⟩ := (up m).1 (minP_iff.1 mm).1
    have hs := sub_comp n0 n6 m0 m2 u0 u1 ms
    have e : compN n (compN n t) = t := by unfold compN; omega
    rw [e] at hs
    have hr := compN_rng m0 m2
    exact ⟨compN n m, hr.1, by omega, mem_iff.2 (List.mem_map.2 ⟨m, (hM m).2 ⟨m0, m1, mm⟩, rfl⟩), sub_trans ts hs⟩

set_option maxHeartbeats 1000000 in
theorem dual1_c (b1 b2 : Nat) (n : Int) (P : Int → Bool) (s : Int) (w : World) (h1 : w.cell? ⟨b1, 0, none⟩ = some (.int .u64 (fam P))) (h2 : w.cell? ⟨b2, 0, none⟩ = some (.int .i64 n)) (n0 : 0 ≤ n) (n6 : n ≤ 6) (s0 : 0 ≤ s) (s1 : s < pw n) :
    Calls Try.prog 162 #[.int .i64 s, .pointer (some ⟨b1, 0, none⟩), .pointer (some ⟨b2, 0, none⟩)] w fun e w' => e = .returned (.bool (dualP n P s)) ∧ ∃ m, w' = w.drewN m := by
  obtain ⟨c0, c1⟩ := compN_rng s0 s1
  have h64 := (pw_rng n0 n6).2
  have HC : Hid (∀ w : World, Calls Try.prog 34 #[.int .i64 n, .int .i64 s] w fun e w' => e = .returned (.int .i64 (compN n s)) ∧ w = w') := fun w => by
    have := ComplementOf_c n s w
    rwa [complB_set n0 n6 s0 s1] at this
  go_enter Try.func162, Try.ntmps162
  go_wp2_with fail
  go_quiet (first | (go_at_call 34; exact quiet_same (HC.out _)) | (go_at_call 163; exact quiet_same (hasSet_c P _ _ c0 (by omega))))
  go_wp2_with fail
  go_ret
  exact ⟨rfl, nq, rfl⟩
set_option maxHeartbeats 1000000 in
theorem dualIn_c (n : Int) (P : Int → Bool) (w : World) (n0 : 0 ≤ n) (n6 : n ≤ 6) : Calls Try.prog 114 #[.int .i64 n, .int .u64 (fam P)] w fun e w' => e = .returned (.int .u64 (fam (upToP (pw n) (dualP n P)))) ∧ Below w.heap.size w w' := by
  have hS := ((St.start w).new #[.int .i64 n] 3 (by simp [maxLen])).newAt #[.int .u64 (fam P)] 78 (by simp [maxLen]) (H := w.heap.size + 1) (by simp)
  have hc1 : ((w.alloc (.cells #[.int .i64 n] 3)).alloc (.cells #[.int .u64 (fam P)] 78)).cell? ⟨w.heap.size + 1, 0, none⟩ = some (.int .u64 (fam P)) := hS.hd.cell 0 (by simp)
  have hc2 : ((w.alloc (.cells #[.int .i64 n] 3)).alloc (.cells #[.int .u64 (fam P)] 78)).cell? ⟨w.heap.size, 0, none⟩ = some (.int .i64 n) := hS.hd2.cell 0 (by simp)
  have hwant : Wants2 162 (.pointer (some ⟨w.heap.size + 1, 0, none⟩)) (.pointer (some ⟨w.heap.size, 0, none⟩)) n (dualP n P) ((w.alloc (.cells #[.int .i64 n] 3)).alloc (.cells #[.int .u64 (fam P)] 78)) := fun s w' s0 s1 hB =>
    (dual1_c _ _ n P s w' ((hB.cell (World.block_lt_of_cell? _ _ hc1)).trans hc1) ((hB.cell (World.block_lt_of_cell? _ _ hc2)).trans hc2) n0 n6 s0 s1).mono fun e w'' ⟨he, m, hw⟩ => ⟨he, by rw [hw]; exact below_drewN (Below.refl _ _) m⟩
  have HW := hid hwant
  have HB := hid hS.bel
  clear hwant hS
  go_enter Try.func114, Try.ntmps114
  go_wp2_with fail
  refine (dual_pick _ _ n (dualP n P) _ n0 n6 HW.out).mono ?_
  rintro e w1 ⟨rfl, hB1⟩
  have HB1 := hid (HB.out.trans (hB1.mono HB.out.size))
  clear hB1
  go_wp2_with fail
  go_ret
  exact ⟨rfl, HB1.out⟩
set_option maxHeartbeats 2000000 in
theorem DualOf_c (n : Int) (v : Value) (xs : List Int) (w : World) (hv : Rd w v (ints xs)) : Calls Try.prog 28 #[cx n v] w fun e w' =>
    ∃ u, e = .returned (.tuple #[cx (resN (isC n xs) n) u, .bool (isC n xs)]) ∧ St w w' [⟨u, 3, ints (resL (isC n xs) (dualL n xs))⟩] := by
  obtain ⟨pv, lv, cv, rfl⟩ := hv.form
  have hS := ((St.start w).box n (.slice pv lv cv) 30).boxAt 0 (.slice none 0 0) 30 (H := w.heap.size + 1) (by simp)
  have c0 := hS.hd2.c0
  have c1 := hS.hd2.c1
  have hv' := hS.old hv
  have HS := hid hS
  clear hS
  by_cases hc : IsC n xs
  · have hb : isC n xs = true := isC_iff.2 hc
    have HR := hid hc.rng
    have n0 : 0 ≤ n := by have := hc.1; omega
    have n6 := hc.2.1
    clear hc
    rw [hb]
    unfold cx
    go_enter Try.func28, Try.ntmps28
    go_wp2_with fail
    refine (IsComplex_c n _ xs _ hv').mono ?_
    rw [hb]
    rintro e w1 ⟨rfl, hB1⟩
    have HS1 := hid (HS.out.quiet hB1)
    have d0 := HS1.out.hd2.c0
    have d1 := HS1.out.hd2.c1
    have hv1 := HS1.out.old hv
    clear hB1
    go_wp2_with fail
    go_region_with (first | (go_at_call 115; refine (facesIn_c n _ xs _ (hv1.drew 1) HR.out).mono ?_; rintro e w2 ⟨rfl, hB2⟩; have HS2 := hid ((HS1.out.drewN 1).quiet hB2); have g0 := HS2.out.hd2.c0; clear hB2) | (go_at_call 114; refine (dualIn_c n _ _ n0 n6).mono ?_; rintro e w3 ⟨rfl, hB3⟩; have HS3 := hid (HS2.out.quiet hB3); have i0 := HS3.out.hd2.c0; clear hB3) | (go_at_call 104; refine (complexOf_c n _ _).mono ?_; rintro e w4 ⟨v2, rfl, hS4⟩; have hS5 := HS3.out.call1 hS4; obtain ⟨p, l, c, rfl⟩ := hS5.hd.form; have k0 := hS5.hd2.c0; have k1 := hS5.hd2.c1; have s0 : w4.frozen? ⟨w.heap.size + 1, 0, none⟩ = false := hS5.own.free (v := bx (w.heap.size + 1)) (.tail _ (.head _)) 0 (by simp); have s1 : w4.frozen? ⟨w.heap.size + 1, 1, none⟩ = false := hS5.own.free (v := bx (w.heap.size + 1)) (.tail _ (.head _)) 1 (by simp); have HS5 := hid hS5; clear hS5 hS4; unfold cx))
    all_goals
      go_wp2_with fail
      have hS6 := (HS5.out.swap.set 0 (by simp) (.int .i64 n)).set 1 (by simp) (.slice p l c)
      exact bodyPost_ret (ret_cx2 rfl rfl rfl hS6.hd) rfl ⟨.slice p l c, rfl, hS6.tail.sub (.cons_cons _ (.cons _ .slnil))⟩
  · have hb : isC n xs = false := isC_not hc
    clear hc
    rw [hb]
    unfold cx
    go_enter Try.func28, Try.ntmps28
    go_wp2_with fail
    refine (IsComplex_c n _ xs _ hv').mono ?_
    rw [hb]
    rintro e w1 ⟨rfl, hB1⟩
    have HS1 := hid (HS.out.quiet hB1)
    have d0 := HS1.out.hd.c0
    have d1 := HS1.out.hd.c1
    have s0 : w1.frozen? ⟨w.heap.size + 1, 0, none⟩ = false := HS1.out.own.free (v := bx (w.heap.size + 1)) (.head _) 0 (by simp)
    have s1 : w1.frozen? ⟨w.heap.size + 1, 1, none⟩ = false := HS1.out.own.free (v := bx (w.heap.size + 1)) (.head _) 1 (by simp)
    clear hB1
    go_wp2_with fail
    have hS6 := (HS1.out.set 0 (by simp) (.int .i64 0)).set 1 (by simp) (.slice none 0 0)
    exact bodyPost_ret (ret_cx2 rfl rfl rfl hS6.hd) rfl ⟨.slice none 0 0, rfl, (hS6.sub (.cons _ (.cons _ .slnil))).nilRow _⟩

end Go.Proofs.Ytjaofbdfhcgmeaa
