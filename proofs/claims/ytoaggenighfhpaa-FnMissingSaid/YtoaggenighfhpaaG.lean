/-
  What is told from the h numbers: the last one, the g numbers, symmetry.
-/
import Derived.Test.YtoaggenighfhpaaH
namespace Go.Proofs.Ytoaggenighfhpaa
open Go.RowKit

def topB (n : Int) (xs : List Int) : Int := gi (hB n xs) ((hB n xs).length - 1)
theorem gi_nil (k : Nat) : gi [] k = 0 := by simp [gi]
set_option maxHeartbeats 1000000 in
theorem TopH_c (n : Int) (va : Value) (xs : List Int) (w : World) (ha : Rd w va (ints xs)) : Calls Try.prog 21 #[cx n va] w fun e w' => e = .returned (.int .i64 (topB n xs)) ∧ Below w.heap.size w w' := by
  obtain ⟨p1, l1, k1, rfl⟩ := ha.form
  have hS := (St.start w).box n (.slice p1 l1 k1) 26
  have ha' := hS.old ha
  have HS := hid hS
  clear hS
  have E : Hid (topB n xs = gi (hB n xs) ((hB n xs).length - 1)) := rfl
  have h7 := hB_len n xs
  unfold cx
  go_enter Try.func21, Try.ntmps21
  go_wp2_with fail
  refine (HNumbers_c n _ xs _ ha').mono ?_
  generalize hB n xs = h at *
  rintro e w1 ⟨uh, rfl, hS1⟩
  have HS1 := hid (HS.out.call1 hS1)
  have la := hS1.hd.iln tI
  by_cases h0 : h.length = 0
  · have q0 : ((h.length : Int) == 0) = true := by simp [h0]
    have hn : h = [] := List.eq_nil_of_length_eq_zero h0
    have E2 : Hid (gi h (h.length - 1) = 0) := by show _ = _; rw [hn, gi_nil]
    clear hS1 hn
    go_wp2_with fail
    go_ret
    exact ⟨by rw [E.out, E2.out]; rfl, HS1.out.bel⟩
  · have q0 : ((h.length : Int) == 0) = false := by rw [beq_eq_false_iff_ne]; omega
    have f1 := hS1.hd.iix tI (h.length - 1) (by omega)
    have f2 := hS1.hd.intCell (h.length - 1) (by omega)
    rw [show ((h.length - 1 : Nat) : Int) = (h.length : Int) - 1 by omega] at f1
    clear hS1 h0
    go_wp2_with fail
    go_ret
    exact ⟨by rw [E.out]; rfl, HS1.out.bel⟩

set_option maxHeartbeats 1000000 in
theorem sTopH_c (n : Int) (va : Value) (xs : List Int) (w : World) (ha : Rd w va (ints xs)) : Calls Try.prog 22 #[cx n va] w fun e w' => e = .returned (.int .i64 (topB n xs)) ∧ Below w.heap.size w w' := by
  obtain ⟨p1, l1, k1, rfl⟩ := ha.form
  have hS := (St.start w).box n (.slice p1 l1 k1) 26
  have ha' := hS.old ha
  have HS := hid hS
  clear hS
  have E : Hid (topB n xs = gi (hB n xs) ((hB n xs).length - 1)) := rfl
  have h7 := hB_len n xs
  unfold cx
  go_enter Try.func22, Try.ntmps22
  go_wp2_with fail
  refine (sHNumbers_c n _ xs _ ha').mono ?_
  generalize hB n xs = h at *
  rintro e w1 ⟨uh, rfl, hS1⟩
  have HS1 := hid (HS.out.call1 hS1)
  have la := hS1.hd.iln tI
  by_cases h0 : h.length = 0
  · have q0 : ((h.length : Int) == 0) = true := by simp [h0]
    have hn : h = [] := List.eq_nil_of_length_eq_zero h0
    have E2 : Hid (gi h (h.length - 1) = 0) := by show _ = _; rw [hn, gi_nil]
    clear hS1 hn
    go_wp2_with fail
    go_ret
    exact ⟨by rw [E.out, E2.out]; rfl, HS1.out.bel⟩
  · have q0 : ((h.length : Int) == 0) = false := by rw [beq_eq_false_iff_ne]; omega
    have f1 := hS1.hd.iix tI (h.length - 1) (by omega)
    have f2 := hS1.hd.intCell (h.length - 1) (by omega)
    rw [show ((h.length - 1 : Nat) : Int) = (h.length : Int) - 1 by omega] at f1
    clear hS1 h0
    go_wp2_with fail
    go_ret
    exact ⟨by rw [E.out]; rfl, HS1.out.bel⟩


/-- The first entry, and the steps up to place k. -/
def gTo (h : List Int) : Nat → List Int
  | 0 => [1]
  | k + 1 => gTo h k ++ [gi h (k + 1) - gi h k]
theorem gTo_len (h : List Int) (k : Nat) : (gTo h k).length = k + 1 := by
  induction k with
  | zero => rfl
  | succ k ih => rw [gTo, List.length_append, ih]; rfl
def gB (n : Int) (xs : List Int) : List Int := if (hB n xs).length = 0 then [] else gTo (hB n xs) (((hB n xs).length - 1) / 2)
theorem gB_len (n : Int) (xs : List Int) : (gB n xs).length ≤ 7 := by
  have := hB_len n xs
  unfold gB
  split
  · simp
  · rw [gTo_len]; omega
set_option maxHeartbeats 4000000 in
set_option maxRecDepth 100000 in
theorem GNumbers_c (n : Int) (va : Value) (xs : List Int) (w : World) (ha : Rd w va (ints xs)) : Calls Try.prog 11 #[cx n va] w fun e w' => ∃ v, e = .returned v ∧ St w w' [⟨v, 3, ints (gB n xs)⟩] := by
  obtain ⟨p1, l1, k1, rfl⟩ := ha.form
  have hS := (St.start w).box n (.slice p1 l1 k1) 26
  have ha' := hS.old ha
  have HS := hid hS
  clear hS
  have E : Hid (gB n xs = if (hB n xs).length = 0 then [] else gTo (hB n xs) (((hB n xs).length - 1) / 2)) := rfl
  have h7 := hB_len n xs
  have HR := hid (hB_rng n xs)
  unfold cx
  go_enter Try.func11, Try.ntmps11
  go_wp2_with fail
  refine (HNumbers_c n _ xs _ ha').mono ?_
  generalize hB n xs = h at *
  rintro e w1 ⟨uh, rfl, hS1⟩
  have HS1 := hid (HS.out.call1 hS1)
  have la := hS1.hd.iln tI
  by_cases h0 : h.length = 0
  · have q0 : ((h.length : Int) == 0) = true := by simp [h0]
    have E2 : Hid (gB n xs = []) := by show _ = _; rw [E.out, if_pos h0]
    clear hS1 h0
    go_wp2_with fail
    go_ret
    exact ⟨_, rfl, by rw [E2.out]; exact (HS1.out.nilRow _).sub (.cons_cons _ (List.nil_sublist _))⟩
  · have q0 : ((h.length : Int) == 0) = false := by rw [beq_eq_false_iff_ne]; omega
    have E2 : Hid (gB n xs = gTo h ((h.length - 1) / 2)) := by show _ = _; rw [E.out, if_neg h0]
    have qd : Int.tdiv ((h.length : Int) - 1) 2 = (((h.length - 1) / 2 : Nat) : Int) := by
      rw [Int.tdiv_eq_ediv_of_nonneg (by omega)]; omega
    have hG : (h.length - 1) / 2 ≤ 3 := by omega
    have hGl : (h.length - 1) / 2 < h.length := by omega
    generalize (h.length - 1) / 2 = G at *
    clear hS1 h0
    go_wp2_with fail
    go_loopw [4, 5] (fun o i wr => ∃ (k : Nat) (v : Value), k ≤ G ∧ i = .int .i64 ((k : Int) + 1) ∧ o = v ∧ St w wr [⟨v, 3, ints (gTo h k)⟩, ⟨uh, 3, ints h⟩]) (fun _ i _ => G + 1 - (intOf i).toNat)
    case atStart => exact ⟨0, _, by omega, rfl, rfl, (HS1.out.newAt #[.int .i64 1] _ (by simp [maxLen]) rfl).sub (.cons_cons _ (.cons_cons _ (List.nil_sublist _)))⟩
    case round =>
      obtain ⟨k, u, hk, rfl, rfl, hS⟩ := hrel
      obtain ⟨wo, rfl⟩ : ∃ wo : World, wo = wr := ⟨_, rfl⟩
      have HS2 := hid hS
      by_cases hlt : k < G
      · have f1 := hS.hd2.iix tI (k + 1) (by omega)
        have f2 := hS.hd2.intCell (k + 1) (by omega)
        rw [show ((k + 1 : Nat) : Int) = (k : Int) + 1 by omega] at f1
        have g1 := hS.hd2.iix tI k (by omega)
        have g2 := hS.hd2.intCell k (by omega)
        have u1 : IntKind.i64.wrap (k : Int) = (k : Int) := IntWalk.i64_in _ (by omega)
        have hr1 := HR.out (k + 1)
        have hr2 := HR.out k
        have q1 : decide ((k : Int) + 1 ≤ (G : Int)) = true := decide_eq_true (by omega)
        obtain ⟨J, hJ⟩ : ∃ J, J = gi h (k + 1) - gi h k := ⟨_, rfl⟩
        have E3 : Hid (gTo h (k + 1) = gTo h k ++ [J]) := by show _ = _; rw [gTo, hJ]
        have hJ2 : gi h (k + 1) - gi h k = J := hJ.symm
        have u2 : IntKind.i64.wrap J = J := IntWalk.i64_in J (by omega)
        have hll := gTo_len h k
        have HA : Hid (St w (wo.alloc (.cells #[.int .i64 J] 3)).drew _) := (hS.alloc (.cells #[.int .i64 J] 3)).drewN 1
        have HN : Hid (Rd (wo.alloc (.cells #[.int .i64 J] 3)).drew (.slice (some ⟨wo.heap.size, 0, none⟩) 1 1) [.int .i64 J]) := (hS.new #[.int .i64 J] 3 (by simp [maxLen])).hd.drew 1
        clear hS hJ hr1 hr2
        go_wp2_with fail
        go_region_law (first | (refine step_app rfl (.tmp 20) (.tmp 31) rfl tI HA.out.own [.int .i64 J] HN.out (by simp [Value.oneCell']) (by simp; omega) rfl rfl ?_; intro v2 w2 hO2 hb2) | go_simp)
        all_goals
          go_wp2_with fail
          go_roundw
          case rel => exact ⟨k + 1, v2, by omega, by go_num, rfl, by rw [E3.out, ints_append]; exact HA.out.mut hO2 hb2⟩
          case measure => simp [intOf]; omega
      · have ek : k = G := by omega
        subst ek
        have q1 : decide ((k : Int) + 1 ≤ (k : Int)) = false := decide_eq_false (by omega)
        clear hS
        go_wp2_with fail
        go_ret
        exact ⟨_, rfl, by rw [E2.out]; exact HS2.out.sub (.cons_cons _ (List.nil_sublist _))⟩

set_option maxHeartbeats 4000000 in
set_option maxRecDepth 100000 in
theorem sGNumbers_c (n : Int) (va : Value) (xs : List Int) (w : World) (ha : Rd w va (ints xs)) : Calls Try.prog 18 #[cx n va] w fun e w' => ∃ v, e = .returned v ∧ St w w' [⟨v, 3, ints (gB n xs)⟩] := by
  obtain ⟨p1, l1, k1, rfl⟩ := ha.form
  have hS := (St.start w).box n (.slice p1 l1 k1) 26
  have ha' := hS.old ha
  have HS := hid hS
  clear hS
  have E : Hid (gB n xs = if (hB n xs).length = 0 then [] else gTo (hB n xs) (((hB n xs).length - 1) / 2)) := rfl
  have h7 := hB_len n xs
  have HR := hid (hB_rng n xs)
  unfold cx
  go_enter Try.func18, Try.ntmps18
  go_wp2_with fail
  refine (sHNumbers_c n _ xs _ ha').mono ?_
  generalize hB n xs = h at *
  rintro e w1 ⟨uh, rfl, hS1⟩
  have HS1 := hid (HS.out.call1 hS1)
  have la := hS1.hd.iln tI
  by_cases h0 : h.length = 0
  · have q0 : ((h.length : Int) == 0) = true := by simp [h0]
    have E2 : Hid (gB n xs = []) := by show _ = _; rw [E.out, if_pos h0]
    clear hS1 h0
    go_wp2_with fail
    go_ret
    exact ⟨_, rfl, by rw [E2.out]; exact (HS1.out.newAt #[] _ (by simp) rfl).sub (.cons_cons _ (List.nil_sublist _))⟩
  · have q0 : ((h.length : Int) == 0) = false := by rw [beq_eq_false_iff_ne]; omega
    have E2 : Hid (gB n xs = gTo h ((h.length - 1) / 2)) := by show _ = _; rw [E.out, if_neg h0]
    have qd : Int.tdiv ((h.length : Int) - 1) 2 = (((h.length - 1) / 2 : Nat) : Int) := by
      rw [Int.tdiv_eq_ediv_of_nonneg (by omega)]; omega
    have hG : (h.length - 1) / 2 ≤ 3 := by omega
    have hGl : (h.length - 1) / 2 < h.length := by omega
    generalize (h.length - 1) / 2 = G at *
    clear hS1 h0
    go_wp2_with fail
    go_loopw [4, 5] (fun o i wr => ∃ (k : Nat) (v : Value), k ≤ G ∧ i = .int .i64 ((k : Int) + 1) ∧ o = v ∧ St w wr [⟨v, 3, ints (gTo h k)⟩, ⟨uh, 3, ints h⟩]) (fun _ i _ => G + 1 - (intOf i).toNat)
    case atStart => exact ⟨0, _, by omega, rfl, rfl, (HS1.out.newAt #[.int .i64 1] _ (by simp [maxLen]) rfl).sub (.cons_cons _ (.cons_cons _ (List.nil_sublist _)))⟩
    case round =>
      obtain ⟨k, u, hk, rfl, rfl, hS⟩ := hrel
      obtain ⟨wo, rfl⟩ : ∃ wo : World, wo = wr := ⟨_, rfl⟩
      have HS2 := hid hS
      by_cases hlt : k < G
      · have f1 := hS.hd2.iix tI (k + 1) (by omega)
        have f2 := hS.hd2.intCell (k + 1) (by omega)
        rw [show ((k + 1 : Nat) : Int) = (k : Int) + 1 by omega] at f1
        have g1 := hS.hd2.iix tI k (by omega)
        have g2 := hS.hd2.intCell k (by omega)
        have u1 : IntKind.i64.wrap (k : Int) = (k : Int) := IntWalk.i64_in _ (by omega)
        have hr1 := HR.out (k + 1)
        have hr2 := HR.out k
        have q1 : decide ((k : Int) + 1 ≤ (G : Int)) = true := decide_eq_true (by omega)
        obtain ⟨J, hJ⟩ : ∃ J, J = gi h (k + 1) - gi h k := ⟨_, rfl⟩
        have E3 : Hid (gTo h (k + 1) = gTo h k ++ [J]) := by show _ = _; rw [gTo, hJ]
        have hJ2 : gi h (k + 1) - gi h k = J := hJ.symm
        have u2 : IntKind.i64.wrap J = J := IntWalk.i64_in J (by omega)
        have hll := gTo_len h k
        have HA : Hid (St w (wo.alloc (.cells #[.int .i64 J] 3)).drew _) := (hS.alloc (.cells #[.int .i64 J] 3)).drewN 1
        have HN : Hid (Rd (wo.alloc (.cells #[.int .i64 J] 3)).drew (.slice (some ⟨wo.heap.size, 0, none⟩) 1 1) [.int .i64 J]) := (hS.new #[.int .i64 J] 3 (by simp [maxLen])).hd.drew 1
        clear hS hJ hr1 hr2
        go_wp2_with fail
        go_region_law (first | (refine step_app rfl (.tmp 21) (.tmp 32) rfl tI HA.out.own [.int .i64 J] HN.out (by simp [Value.oneCell']) (by simp; omega) rfl rfl ?_; intro v2 w2 hO2 hb2) | go_simp)
        all_goals
          go_wp2_with fail
          go_roundw
          case rel => exact ⟨k + 1, v2, by omega, by go_num, rfl, by rw [E3.out, ints_append]; exact HA.out.mut hO2 hb2⟩
          case measure => simp [intOf]; omega
      · have ek : k = G := by omega
        subst ek
        have q1 : decide ((k : Int) + 1 ≤ (k : Int)) = false := decide_eq_false (by omega)
        clear hS
        go_wp2_with fail
        go_ret
        exact ⟨_, rfl, by rw [E2.out]; exact HS2.out.sub (.cons_cons _ (List.nil_sublist _))⟩


end Go.Proofs.Ytoaggenighfhpaa
