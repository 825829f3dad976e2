/-
  Cross complexes, walked.
-/
import Derived.Test.YtjaofbdfhcgmeaaZJo
namespace Go.Proofs.Ytjaofbdfhcgmeaa
open Go.RowKit

theorem crossP_succ (j : Nat) (s : Int) : crossP (j + 1) s = (crossP j s && (s.toNat / 4 ^ j % 4 != 3)) := by simp [crossP, List.range_succ]
theorem cross_fin : ∀ s : Fin 64, ∀ i : Fin 3, bits .and .i64 ((s.val : Int) / 2 ^ (2 * i.val)) 3 = ((s.val / 4 ^ i.val % 4 : Nat) : Int) := by decide +kernel
theorem cross_bit {s : Int} (s0 : 0 ≤ s) (s1 : s < 64) {i : Nat} (hi : i < 3) : bits .and .i64 (s / 2 ^ (2 * i)) 3 = ((s.toNat / 4 ^ i % 4 : Nat) : Int) := by
  have h := cross_fin ⟨s.toNat, by omega⟩ ⟨i, hi⟩
  simpa only [Int.toNat_of_nonneg s0] using h
theorem cross_stop {k j : Nat} {s : Int} (hj : j < k) (h : s.toNat / 4 ^ j % 4 = 3) : crossP k s = false := by
  rw [crossP, ← Bool.not_eq_true, List.all_eq_true]
  intro h2
  have := h2 j (List.mem_range.2 hj)
  rw [h] at this; cases this
theorem crossP_next {j : Nat} {s : Int} (h : crossP j s = true) (h2 : s.toNat / 4 ^ j % 4 ≠ 3) : crossP (j + 1) s = true := by
  rw [crossP_succ, h, Bool.true_and, bne_iff_ne]; exact h2
theorem crossL_len (k : Nat) : (crossL k).length ≤ 448 := maxL_len _
def crossB (k : Int) : Bool := decide (1 ≤ k ∧ k ≤ 3)

set_option maxHeartbeats 1000000 in
theorem cross1_c (b : Nat) (k : Nat) (s : Int) (w : World) (hc : w.cell? ⟨b, 0, none⟩ = some (.int .i64 k)) (hk : k ≤ 3) (h0 : 0 ≤ s) (h1 : s < 64) : Calls Try.prog 139 #[.int .i64 s, .pointer (some ⟨b, 0, none⟩)] w fun e w' => e = .returned (.bool (crossP k s)) ∧ w = w' := by
  go_enter Try.func139, Try.ntmps139
  go_wp2_with fail
  go_loop [4] (fun i => ∃ (j : Nat), j ≤ k ∧ i = .int .i64 j ∧ Hid (crossP j s = true)) (fun i => k - (intOf i).toNat)
  case atStart => exact ⟨0, by omega, rfl, rfl⟩
  case round =>
    obtain ⟨j, hj, rfl, hN⟩ := hrel
    by_cases hlt : j < k
    · have e0 : IntKind.i64.wrap (2 * (j : Int)) = 2 * (j : Int) := IntWalk.i64_in _ (by omega)
      have e1 : IntKind.u64.wrap (2 * (j : Int)) = 2 * (j : Int) := IntWalk.u64_in _ (by omega)
      have e2 := cross_bit h0 h1 (i := j) (by omega)
      obtain ⟨d, hd⟩ : ∃ d : Nat, s.toNat / 4 ^ j % 4 = d := ⟨_, rfl⟩
      rw [hd] at e2
      by_cases h3 : d = 3
      · subst h3
        have E : Hid (crossP k s = false) := cross_stop hlt hd
        clear hd
        go_wp2_with fail
        go_ret
        exact ⟨ret_bool E.out.symm, rfl⟩
      · have E : Hid (crossP (j + 1) s = true) := crossP_next hN.out (by rw [hd]; exact h3)
        have q : ((d : Int) == 3) = false := by rw [beq_eq_false_iff_ne]; omega
        clear hd
        go_wp2_with fail
        go_round
        case rel => exact ⟨j + 1, by omega, by go_num, E⟩
        case measure => simp [intOf]; omega
    · have ej : j = k := by omega
      subst ej
      go_wp2_with fail
      go_ret
      exact ⟨ret_bool hN.out.symm, rfl⟩
set_option maxHeartbeats 2000000 in
set_option maxRecDepth 100000 in
theorem CrossComplex_c (k : Int) (w : World) : Calls Try.prog 57 #[.int .i64 k] w fun e w' =>
    ∃ v, e = .returned (.tuple #[cx (resN (crossB k) (2 * k)) v, .bool (crossB k)]) ∧ St w w' [⟨v, 3, ints (resL (crossB k) (crossL k.toNat))⟩] := by
  have hS := ((St.start w).new #[.int .i64 k] 3 (by simp [maxLen])).boxAt 0 (.slice none 0 0) 30 (H := w.heap.size + 1) (by simp)
  have hc : ((w.alloc (.cells #[.int .i64 k] 3)).alloc (.cells #[.int .i64 0, .slice none 0 0] 30)).cell? ⟨w.heap.size, 0, none⟩ = some (.int .i64 k) := hS.hd2.cell 0 (by simp)
  have c0 := hS.hd.c0
  have c1 := hS.hd.c1
  have HS := hid hS
  clear hS
  by_cases hA : 1 ≤ k ∧ k ≤ 3
  · have hb : crossB k = true := decide_eq_true hA
    obtain ⟨k1, k3⟩ := hA
    obtain ⟨K, rfl⟩ : ∃ K : Nat, k = K := ⟨k.toNat, by omega⟩
    have hp := pw_rng (show 0 ≤ 2 * (K : Int) by omega) (by omega)
    have e0 : IntKind.i64.wrap (2 * (K : Int)) = 2 * (K : Int) := IntWalk.i64_in _ (by omega)
    have hwant : Wants 139 (.pointer (some ⟨w.heap.size, 0, none⟩)) (2 * (K : Int)) (crossP K) ((w.alloc (.cells #[.int .i64 K] 3)).alloc (.cells #[.int .i64 0, .slice none 0 0] 30)) := fun s w' s0 s1 hB =>
      (cross1_c w.heap.size K s w' ((hB.cell (World.block_lt_of_cell? _ _ hc)).trans hc) (by omega) s0 (by omega)).mono fun e w'' ⟨he, hw⟩ => ⟨he, by rw [← hw]; exact Below.refl _ _⟩
    have HW := hid hwant
    clear hwant
    rw [hb]
    go_enter Try.func57, Try.ntmps57
    go_wp2_with fail
    refine (cross_pick _ (2 * (K : Int)) (crossP K) _ (by omega) (by omega) HW.out).mono ?_
    rintro e w1 ⟨rfl, hB1⟩
    have HB1 := hid (HS.out.quiet hB1)
    clear hB1 c0 c1 hc
    have hc := HB1.out.hd2.cell 0 (by simp)
    have hc' : w1.cell? ⟨w.heap.size, 0, none⟩ = some (.int .i64 K) := hc
    clear hc
    go_wp2_with fail
    refine (complexOf_c (2 * (K : Int)) _ _).mono ?_
    rintro e w2 ⟨v, rfl, hS2⟩
    have hS := HB1.out.call1 hS2
    obtain ⟨p, l, c, rfl⟩ := hS.hd.form
    have d0 := hS.hd2.c0
    have d1 := hS.hd2.c1
    have s0 : w2.frozen? ⟨w.heap.size + 1, 0, none⟩ = false := hS.own.free (v := bx (w.heap.size + 1)) (.tail _ (.head _)) 0 (by simp)
    have s1 : w2.frozen? ⟨w.heap.size + 1, 1, none⟩ = false := hS.own.free (v := bx (w.heap.size + 1)) (.tail _ (.head _)) 1 (by simp)
    have HS3 := hid hS
    clear hS hS2
    unfold cx
    go_wp2_with fail
    have hS4 := (HS3.out.swap.set 0 (by simp) (.int .i64 (2 * (K : Int)))).set 1 (by simp) (.slice p l c)
    refine bodyPost_ret (ret_cx2 rfl rfl rfl hS4.hd) rfl ⟨.slice p l c, rfl, ?_⟩
    exact hS4.tail.sub (.cons_cons _ (.cons _ .slnil))
  · have hb : crossB k = false := decide_eq_false hA
    have r0 : ((w.alloc (.cells #[.int .i64 k] 3)).alloc (.cells #[.int .i64 0, .slice none 0 0] 30)).frozen? ⟨w.heap.size + 1, 0, none⟩ = false := HS.out.own.free (v := bx (w.heap.size + 1)) (.head _) 0 (by simp)
    have r1 : ((w.alloc (.cells #[.int .i64 k] 3)).alloc (.cells #[.int .i64 0, .slice none 0 0] 30)).frozen? ⟨w.heap.size + 1, 1, none⟩ = false := HS.out.own.free (v := bx (w.heap.size + 1)) (.head _) 1 (by simp)
    rw [hb]
    by_cases h1 : k < 1
    · go_enter Try.func57, Try.ntmps57
      go_wp2_with fail
      have hS2 := HS.out
      exact bodyPost_ret (ret_cx2 rfl rfl rfl hS2.hd) rfl ⟨.slice none 0 0, rfl, (hS2.sub (.cons _ (.cons _ .slnil))).nilRow _⟩
    · have h3 : 3 < k := by omega
      go_enter Try.func57, Try.ntmps57
      go_wp2_with fail
      have hS2 := HS.out
      exact bodyPost_ret (ret_cx2 rfl rfl rfl hS2.hd) rfl ⟨.slice none 0 0, rfl, (hS2.sub (.cons _ (.cons _ .slnil))).nilRow _⟩
set_option maxHeartbeats 2000000 in
set_option maxRecDepth 100000 in
theorem sCrossComplex_c (k : Int) (w : World) : Calls Try.prog 58 #[.int .i64 k] w fun e w' =>
    ∃ v, e = .returned (.tuple #[cx (resN (crossB k) (2 * k)) v, .bool (crossB k)]) ∧ St w w' [⟨v, 3, ints (resL (crossB k) (crossL k.toNat))⟩] := by
  have hB := (St.start w).box 0 (.slice none 0 0) 30
  have c0 := hB.hd.c0
  have c1 := hB.hd.c1
  have r0 := hB.own.free (v := bx w.heap.size) (.head _) 0 (by simp)
  have r1 := hB.own.free (v := bx w.heap.size) (.head _) 1 (by simp)
  simp only [adr, bx, Nat.zero_add] at r0 r1
  have HB := hid hB
  clear hB
  by_cases hA : 1 ≤ k ∧ k ≤ 3
  · have hb : crossB k = true := decide_eq_true hA
    obtain ⟨k1, k3⟩ := hA
    have hin : inB k 1 3 = true := inB_t k1 k3
    obtain ⟨K, rfl⟩ : ∃ K : Nat, k = K := ⟨k.toNat, by omega⟩
    have n0 : 0 ≤ 2 * (K : Int) := by omega
    have n6 : 2 * (K : Int) ≤ 6 := by omega
    obtain ⟨p0, p1⟩ := pw_rng n0 n6
    have ew : wrap64 (2 ^ (2 * K)) = pw (2 * (K : Int)) := by have := pw_wrap n0 n6; rwa [show (2 * (K : Int)).toNat = 2 * K by omega] at this
    have e0 : IntKind.i64.wrap (2 * (K : Int)) = 2 * (K : Int) := IntWalk.i64_in _ (by omega)
    have e1 : IntKind.u64.wrap (2 * (K : Int)) = 2 * (K : Int) := IntWalk.u64_in _ (by omega)
    rw [hb]
    clear c0 c1 r0 r1
    go_enter Try.func58, Try.ntmps58
    go_wp2_with (go_at_call 112; refine (l1In_c _ _ _ _).mono ?_; rw [hin]; rintro e w' ⟨rfl, rfl⟩)
    go_loopw [4, 5] (fun o i wr => ∃ (s : Nat) (u : Value), (s : Int) ≤ pw (2 * (K : Int)) ∧ i = .int .i64 s ∧ o = u ∧ St w wr [⟨u, 3, ints (numTo (crossP K) s)⟩, ⟨bx w.heap.size, 30, [.int .i64 0, .slice none 0 0]⟩]) (fun _ i _ => 64 - (intOf i).toNat)
    case atStart => exact ⟨0, _, by omega, rfl, rfl, HB.out.newAt #[] _ (by simp) (by simp)⟩
    case round =>
      obtain ⟨s, u, hs, rfl, rfl, hS⟩ := hrel
      have HS := hid hS
      have hl := numTo_len (crossP K) s
      clear hS
      by_cases hlt : (s : Int) < pw (2 * (K : Int))
      · have ds : decide ((s : Int) < pw (2 * (K : Int))) = true := by simp [hlt]
        go_wp2_with fail
        go_loop [6, 7] (fun b i => ∃ (j : Nat), j ≤ K ∧ b = .bool (crossP j (s : Int)) ∧ i = .int .i64 j) (fun _ i => K - (intOf i).toNat)
        case atStart => exact ⟨0, by omega, rfl, rfl⟩
        case round =>
          obtain ⟨j, hj, rfl, rfl⟩ := hrel
          by_cases hjl : j < K
          · have g0 : IntKind.i64.wrap (2 * (j : Int)) = 2 * (j : Int) := IntWalk.i64_in _ (by omega)
            have g1 : IntKind.u64.wrap (2 * (j : Int)) = 2 * (j : Int) := IntWalk.u64_in _ (by omega)
            have N2 : Hid (crossP (j + 1) (s : Int) = (crossP j (s : Int) && ((s : Int).toNat / 4 ^ j % 4 != 3))) := crossP_succ j _
            cases hq : crossP j (s : Int) with
            | false =>
              have HQ := hid hq; clear hq
              go_wp2_with fail
              go_round
              case rel => exact ⟨j + 1, by omega, by rw [N2.out, HQ.out, Bool.false_and], by go_num⟩
              case measure => simp [intOf]; omega
            | true =>
              have HQ := hid hq; clear hq
              have g2 := cross_bit (s := (s : Int)) (by omega) (by omega) (i := j) (by omega)
              obtain ⟨d, hd⟩ : ∃ d : Nat, (s : Int).toNat / 4 ^ j % 4 = d := ⟨_, rfl⟩
              rw [hd] at g2
              have HD := hid hd; clear hd
              by_cases h3 : d = 3
              · subst h3
                go_wp2_with fail
                go_round
                case rel => exact ⟨j + 1, by omega, by rw [N2.out, HQ.out, HD.out]; rfl, by go_num⟩
                case measure => simp [intOf]; omega
              · have q : ((d : Int) != 3) = true := by rw [bne_iff_ne]; omega
                have q2 : (d != 3) = true := by rw [bne_iff_ne]; exact h3
                have HQ2 := hid q2; clear q2
                go_wp2_with fail
                go_round
                case rel => exact ⟨j + 1, by omega, by rw [N2.out, HQ.out, HD.out, HQ2.out]; rfl, by go_num⟩
                case measure => simp [intOf]; omega
          · have ej : j = K := by omega
            subst ej
            cases hb2 : crossP j (s : Int) with
            | true =>
              have E2 : Hid (numTo (crossP j) (s + 1) = numTo (crossP j) s ++ [(s : Int)]) := by show _ = _; rw [numTo, if_pos hb2]
              clear hb2
              go_wp2_with (at_builtin; refine wpList_push rfl _ _ rfl tI HS.out.own (.int .i64 (s : Int)) rfl (by simp; omega) rfl rfl ?_)
              intro v2 w2 hO2 hb2
              go_wp2_with fail
              go_roundw
              case rel => exact ⟨s + 1, v2, by omega, by go_num, rfl, by rw [E2.out, ints_append]; exact HS.out.mut hO2 hb2⟩
              case measure => simp [intOf]; omega
            | false =>
              have E2 : Hid (numTo (crossP j) (s + 1) = numTo (crossP j) s) := by show _ = _; rw [numTo, if_neg (by rw [hb2]; simp)]
              clear hb2
              go_wp2_with fail
              go_roundw
              case rel => exact ⟨s + 1, _, by omega, by go_num, rfl, by rw [E2.out]; exact HS.out⟩
              case measure => simp [intOf]; omega
      · have es : s = (pw (2 * (K : Int))).toNat := by omega
        have EM : Hid (maxL (mem (numTo (crossP K) s)) = crossL K) := by
          show _ = _
          rw [es]
          exact maxL_congr fun t h0 _ => mem_numTo_pw _ h0 n0 n6
        have HN : Hid (∀ x ∈ numTo (crossP K) s, 0 ≤ x ∧ x < 64) := by rw [es]; exact numTo_pw_rng n0 n6
        clear es
        go_wp2_with fail
        refine (l3Make_c (2 * (K : Int)) _ _ _ HS.out.hd HN.out).mono ?_
        rintro e w2 ⟨u2, rfl, hS2⟩
        have hS := HS.out.call1 hS2
        obtain ⟨p, l, c, rfl⟩ := hS.hd.form
        have d0 := hS.hd3.c0
        have d1 := hS.hd3.c1
        have s0 : w2.frozen? ⟨w.heap.size, 0, none⟩ = false := hS.own.free (v := bx w.heap.size) (.tail _ (.tail _ (.head _))) 0 (by simp)
        have s1 : w2.frozen? ⟨w.heap.size, 1, none⟩ = false := hS.own.free (v := bx w.heap.size) (.tail _ (.tail _ (.head _))) 1 (by simp)
        have HS3 := hid hS
        clear hS hS2
        unfold cx
        go_wp2_with fail
        have hS4 := ((HS3.out.bring (l1 := [_, _])).set 0 (by simp) (.int .i64 (2 * (K : Int)))).set 1 (by simp) (.slice p l c)
        refine bodyPost_ret (ret_cx2 rfl rfl rfl hS4.hd) rfl ⟨.slice p l c, rfl, ?_⟩
        show St _ _ [⟨_, _, ints (crossL K)⟩]
        rw [← EM.out]
        exact hS4.sub (.cons _ (.cons_cons _ (.cons _ .slnil)))
  · have hb : crossB k = false := decide_eq_false hA
    have hin : inB k 1 3 = false := inB_f hA
    rw [hb]
    go_enter Try.func58, Try.ntmps58
    go_wp2_with (go_at_call 112; refine (l1In_c _ _ _ _).mono ?_; rw [hin]; rintro e w' ⟨rfl, rfl⟩)
    have hS2 := HB.out
    exact bodyPost_ret (ret_cx2 rfl rfl rfl hS2.hd) rfl ⟨.slice none 0 0, rfl, (hS2.sub (.cons _ .slnil)).nilRow _⟩
end Go.Proofs.Ytjaofbdfhcgmeaa
