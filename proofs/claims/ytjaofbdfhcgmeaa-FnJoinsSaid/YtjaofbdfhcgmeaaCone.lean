/-
  Cones and their points, walked.
-/
import Derived.Test.YtjaofbdfhcgmeaaJoin3
import Derived.Test.YtjaofbdfhcgmeaaHl2
namespace Go.Proofs.Ytjaofbdfhcgmeaa
open Go.RowKit

def s1C : List Int := [1]
theorem s1_isC : isC 1 s1C = true := by decide +kernel
def coneB (n : Int) (xs : List Int) : Bool := fitB n xs 1 s1C
def coneL (n : Int) (xs : List Int) : List Int := joinL n xs s1C
set_option maxHeartbeats 2000000 in
theorem ConeOf_c (n : Int) (va : Value) (xs : List Int) (w : World) (ha : Rd w va (ints xs)) : Calls Try.prog 51 #[cx n va] w fun e w' =>
    ∃ u, e = .returned (.tuple #[cx (resN (coneB n xs) (n + 1)) u, .bool (coneB n xs)]) ∧ St w w' [⟨u, 3, ints (resL (coneB n xs) (coneL n xs))⟩] := by
  obtain ⟨p1, l1, k1, rfl⟩ := ha.form
  have hS := (((St.start w).box n (.slice p1 l1 k1) 30).boxAt 0 (.slice none 0 0) 30 (H := w.heap.size + 1) (by simp)).newAt #[.int .i64 1] 3 (by simp [maxLen]) (H := w.heap.size + 2) (by simp)
  have ha' := hS.old ha
  have hb' := hS.hd
  have HS := hid hS
  clear hS
  obtain ⟨N, hN⟩ : ∃ N, N = resN (coneB n xs) (n + 1) := ⟨_, rfl⟩
  rw [← hN]
  unfold cx
  go_enter Try.func51, Try.ntmps51
  go_wp2_with fail
  refine (JoinOf_c n 1 _ _ xs s1C _ ha' hb').mono ?_
  rw [show fitB n xs 1 s1C = coneB n xs from rfl, show joinL n xs s1C = coneL n xs from rfl, ← hN]
  rintro e w4 ⟨v2, rfl, hS4⟩
  have hS5 := HS.out.call1 hS4
  obtain ⟨p, l, c, rfl⟩ := hS5.hd.form
  have hS5 := hS5
  have i0 := hS5.hd3.c0
  have i1 := hS5.hd3.c1
  have s0 := hS5.own.free (v := bx (w.heap.size + 1)) (.tail _ (.tail _ (.head _))) 0 (by simp)
  have s1 := hS5.own.free (v := bx (w.heap.size + 1)) (.tail _ (.tail _ (.head _))) 1 (by simp)
  simp only [adr, bx, Nat.zero_add] at s0 s1
  have HS5 := hid hS5
  clear hS5 hS4 hN
  unfold cx
  go_wp2_with fail
  have hS6 := ((HS5.out.bring (l1 := [_, _])).set 0 (by simp) (.int .i64 N)).set 1 (by simp) (.slice p l c)
  exact bodyPost_ret (ret_cx2 rfl rfl rfl hS6.hd) rfl ⟨.slice p l c, rfl, hS6.sub (.cons _ (.cons_cons _ (.cons _ (.cons _ .slnil))))⟩

set_option maxHeartbeats 2000000 in
theorem sConeOf_c (n : Int) (va : Value) (xs : List Int) (w : World) (ha : Rd w va (ints xs)) : Calls Try.prog 52 #[cx n va] w fun e w' =>
    ∃ u, e = .returned (.tuple #[cx (resN (coneB n xs) (n + 1)) u, .bool (coneB n xs)]) ∧ St w w' [⟨u, 3, ints (resL (coneB n xs) (coneL n xs))⟩] := by
  obtain ⟨p1, l1, k1, rfl⟩ := ha.form
  have hS := (((St.start w).box n (.slice p1 l1 k1) 30).boxAt 0 (.slice none 0 0) 30 (H := w.heap.size + 1) (by simp)).newAt #[.int .i64 1] 3 (by simp [maxLen]) (H := w.heap.size + 2) (by simp)
  have ha' := hS.old ha
  have hb' := hS.hd
  have HS := hid hS
  clear hS
  obtain ⟨N, hN⟩ : ∃ N, N = resN (coneB n xs) (n + 1) := ⟨_, rfl⟩
  rw [← hN]
  unfold cx
  go_enter Try.func52, Try.ntmps52
  go_wp2_with fail
  refine (sJoinOf_c n 1 _ _ xs s1C _ ha' hb').mono ?_
  rw [show fitB n xs 1 s1C = coneB n xs from rfl, show joinL n xs s1C = coneL n xs from rfl, ← hN]
  rintro e w4 ⟨v2, rfl, hS4⟩
  have hS5 := HS.out.call1 hS4
  obtain ⟨p, l, c, rfl⟩ := hS5.hd.form
  have hS5 := (hS5.box N (.slice p l c) 30)
  have i0 := hS5.hd4.c0
  have i1 := hS5.hd4.c1
  have s0 := hS5.own.free (v := bx (w.heap.size + 1)) (.tail _ (.tail _ (.tail _ (.head _)))) 0 (by simp)
  have s1 := hS5.own.free (v := bx (w.heap.size + 1)) (.tail _ (.tail _ (.tail _ (.head _)))) 1 (by simp)
  simp only [adr, bx, Nat.zero_add] at s0 s1
  have HS5 := hid hS5
  clear hS5 hS4 hN
  unfold cx
  go_wp2_with fail
  have hS6 := ((HS5.out.bring (l1 := [_, _, _])).set 0 (by simp) (.int .i64 N)).set 1 (by simp) (.slice p l c)
  exact bodyPost_ret (ret_cx2 rfl rfl rfl hS6.hd) rfl ⟨.slice p l c, rfl, hS6.sub (.cons _ (.cons _ (.cons_cons _ (.cons _ (.cons _ .slnil)))))⟩


theorem andS_self {s : Int} (h : 0 ≤ s) : andS s s = s := by
  unfold andS
  rw [Nat.and_self]; omega
theorem conB_f {n : Int} {xs : List Int} (h : ¬ (isC n xs = true ∧ 0 < xs.length)) : conB n xs = 0 := if_neg h
theorem conB_t {n : Int} {xs : List Int} (h : isC n xs = true) (h0 : 0 < xs.length) : conB n xs = andTo xs (xs.length - 1) := if_pos ⟨h, h0⟩
set_option maxHeartbeats 2000000 in
theorem ConePoints_c (n : Int) (va : Value) (xs : List Int) (w : World) (ha : Rd w va (ints xs)) : Calls Try.prog 59 #[cx n va] w fun e w' => e = .returned (.int .i64 (conB n xs)) ∧ Below w.heap.size w w' := by
  obtain ⟨p1, l1, k1, rfl⟩ := ha.form
  have hS := (St.start w).box n (.slice p1 l1 k1) 30
  have c0 := hS.hd.c0
  have c1 := hS.hd.c1
  have ha' := hS.old ha
  have HS := hid hS
  clear hS
  cases h1 : isC n xs with
  | false =>
    have E : Hid (conB n xs = 0) := conB_f (by simp [h1])
    unfold cx
    go_enter Try.func59, Try.ntmps59
    go_wp2_with fail
    refine (IsComplex_c n _ xs _ ha').mono ?_
    rw [h1]
    rintro e w1 ⟨rfl, hB⟩
    have HS1 := hid (HS.out.quiet hB)
    clear hB
    go_wp2_with fail
    go_ret
    exact ⟨by rw [E.out]; rfl, HS1.out.bel⟩
  | true =>
    have HR := hid (isC_iff.1 h1).rng
    have E0 : Hid (¬ 0 < xs.length → conB n xs = 0) := fun h => conB_f (by simp [h])
    have E1 : Hid (0 < xs.length → conB n xs = andTo xs (xs.length - 1)) := fun h => conB_t h1 h
    unfold cx
    go_enter Try.func59, Try.ntmps59
    go_wp2_with fail
    refine (IsComplex_c n _ xs _ ha').mono ?_
    rw [h1]
    rintro e w1 ⟨rfl, hB⟩
    have HS1 := hid (HS.out.quiet hB)
    have d0 := HS1.out.hd.c0
    have d1 := HS1.out.hd.c1
    have ha2 := HS1.out.old ha
    have la := ha2.iln tI
    have ll := ha2.ile
    clear hB h1
    by_cases h0 : 0 < xs.length
    · have q0 : ((xs.length : Int) == 0) = false := by rw [beq_eq_false_iff_ne]; omega
      have z1 : ∀ w' : World, (Instr.indexAt 26 _ (.int .i64 0)).run Try.prog w' = .ok (.pointer (some (adr _ 0))) w' := ha2.iix tI 0 h0
      have z2 := ha2.intCell 0 h0
      go_wp2_with fail
      go_loop [3, 22] (fun f i => ∃ (j : Nat), 0 ≤ j ∧ j ≤ xs.length ∧ i = .int .i64 j ∧ f = .int .i64 (andTo xs (j - 1))) (fun _ i => xs.length - (intOf i).toNat)
      case atStart => exact ⟨0, by omega, by omega, rfl, rfl⟩
      case round =>
        obtain ⟨j, hj0, hj, rfl, rfl⟩ := hrel
        by_cases hlt : j < xs.length
        · have f1 := ha2.iix tI j hlt
          have f2 := ha2.intCell j hlt
          obtain ⟨u0, u1⟩ := andTo_rng HR.out (j - 1) (by omega)
          obtain ⟨g0, g1⟩ := gi_rng HR.out hlt
          have e1 : bits .and .i64 (andTo xs (j - 1)) (gi xs j) = andTo xs j := by
            rw [(and_bits u0 u1 g0 g1).1]
            rcases Nat.eq_zero_or_pos j with e | e
            · subst e; exact andS_self g0
            · obtain ⟨i, rfl⟩ : ∃ i, j = i + 1 := ⟨j - 1, by omega⟩
              rfl
          go_wp2_with fail
          go_round
          case rel => exact ⟨j + 1, by omega, by omega, by go_num, rfl⟩
          case measure => simp [intOf]; omega
        · have ej : j = xs.length := by omega
          subst ej
          go_wp2_with fail
          go_ret
          exact ⟨by rw [E1.out h0]; rfl, HS1.out.bel⟩
    · have q0 : ((xs.length : Int) == 0) = true := by rw [beq_iff_eq]; omega
      go_wp2_with fail
      go_ret
      exact ⟨by rw [E0.out h0]; rfl, HS1.out.bel⟩

set_option maxHeartbeats 2000000 in
theorem sConePoints_c (n : Int) (va : Value) (xs : List Int) (w : World) (ha : Rd w va (ints xs)) : Calls Try.prog 60 #[cx n va] w fun e w' => e = .returned (.int .i64 (conB n xs)) ∧ Below w.heap.size w w' := by
  obtain ⟨p1, l1, k1, rfl⟩ := ha.form
  have hS := (St.start w).box n (.slice p1 l1 k1) 30
  have c0 := hS.hd.c0
  have c1 := hS.hd.c1
  have ha' := hS.old ha
  have HS := hid hS
  clear hS
  cases h1 : isC n xs with
  | false =>
    have E : Hid (conB n xs = 0) := conB_f (by simp [h1])
    unfold cx
    go_enter Try.func60, Try.ntmps60
    go_wp2_with fail
    refine (sIsComplex_c n _ xs _ ha').mono ?_
    rw [h1]
    rintro e w1 ⟨rfl, hB⟩
    have HS1 := hid (HS.out.quiet hB)
    clear hB
    go_wp2_with fail
    go_ret
    exact ⟨by rw [E.out]; rfl, HS1.out.bel⟩
  | true =>
    have HR := hid (isC_iff.1 h1).rng
    have E0 : Hid (¬ 0 < xs.length → conB n xs = 0) := fun h => conB_f (by simp [h])
    have E1 : Hid (0 < xs.length → conB n xs = andTo xs (xs.length - 1)) := fun h => conB_t h1 h
    unfold cx
    go_enter Try.func60, Try.ntmps60
    go_wp2_with fail
    refine (sIsComplex_c n _ xs _ ha').mono ?_
    rw [h1]
    rintro e w1 ⟨rfl, hB⟩
    have HS1 := hid (HS.out.quiet hB)
    have d0 := HS1.out.hd.c0
    have d1 := HS1.out.hd.c1
    have ha2 := HS1.out.old ha
    have la := ha2.iln tI
    have ll := ha2.ile
    clear hB h1
    by_cases h0 : 0 < xs.length
    · have q0 : ((xs.length : Int) == 0) = false := by rw [beq_eq_false_iff_ne]; omega
      have z1 : ∀ w' : World, (Instr.indexAt 26 _ (.int .i64 0)).run Try.prog w' = .ok (.pointer (some (adr _ 0))) w' := ha2.iix tI 0 h0
      have z2 := ha2.intCell 0 h0
      go_wp2_with fail
      go_loop [3, 4] (fun f i => ∃ (j : Nat), 1 ≤ j ∧ j ≤ xs.length ∧ i = .int .i64 j ∧ f = .int .i64 (andTo xs (j - 1))) (fun _ i => xs.length - (intOf i).toNat)
      case atStart => exact ⟨1, by omega, by omega, rfl, rfl⟩
      case round =>
        obtain ⟨j, hj0, hj, rfl, rfl⟩ := hrel
        by_cases hlt : j < xs.length
        · have f1 := ha2.iix tI j hlt
          have f2 := ha2.intCell j hlt
          obtain ⟨u0, u1⟩ := andTo_rng HR.out (j - 1) (by omega)
          obtain ⟨g0, g1⟩ := gi_rng HR.out hlt
          have e1 : bits .and .i64 (andTo xs (j - 1)) (gi xs j) = andTo xs j := by
            rw [(and_bits u0 u1 g0 g1).1]
            rcases Nat.eq_zero_or_pos j with e | e
            · subst e; exact andS_self g0
            · obtain ⟨i, rfl⟩ : ∃ i, j = i + 1 := ⟨j - 1, by omega⟩
              rfl
          go_wp2_with fail
          go_round
          case rel => exact ⟨j + 1, by omega, by omega, by go_num, rfl⟩
          case measure => simp [intOf]; omega
        · have ej : j = xs.length := by omega
          subst ej
          go_wp2_with fail
          go_ret
          exact ⟨by rw [E1.out h0]; rfl, HS1.out.bel⟩
    · have q0 : ((xs.length : Int) == 0) = true := by rw [beq_iff_eq]; omega
      go_wp2_with fail
      go_ret
      exact ⟨by rw [E0.out h0]; rfl, HS1.out.bel⟩


end Go.Proofs.Ytjaofbdfhcgmeaa
