/-
  Joins: the walks of JoinOf and SuspensionOf.
-/
import Derived.Test.YtjaofbdfhcgmeaaJoin2
namespace Go.Proofs.Ytjaofbdfhcgmeaa
open Go.RowKit

theorem dn_snoc {L : List Int} {x : Int} (hL : ∀ y ∈ L ++ [x], 0 ≤ y ∧ y < 64) (s : Int) : dn (mem (L ++ [x])) s = (dn (mem L) s || sub s x) := by
  rw [dn_mem hL, dn_mem fun y hy => hL y (List.mem_append_left _ hy), List.any_append]; simp
theorem dn_dn {P : Int → Bool} {s : Int} (s0 : 0 ≤ s) (s1 : s < 64) : dn (dn P) s = dn P s := dn_self (fun a b _ _ _ _ hb hab => by
  obtain ⟨t, t0, t1, tp, ts⟩ := dn_iff.1 hb
  exact dn_iff.2 ⟨t, t0, t1, tp, sub_trans hab ts⟩) s0 s1
theorem maxL_dn (P : Int → Bool) : maxL (dn P) = maxL P := maxL_of_dn fun _ a b => dn_dn a b
theorem shl_fit {n m t : Int} (n0 : 0 ≤ n) (m0 : 0 ≤ m) (h6 : n + m ≤ 6) (t0 : 0 ≤ t) (t1 : t < pw m) : wrap64 (t * 2 ^ n.toNat) = t * pw n ∧ 0 ≤ t * pw n ∧ t * pw n < 64 := by
  have h := join_or (s := 0) n0 m0 h6 (by omega) (by have := pw_rng n0 (by omega); omega) t0 t1
  have e : joinS n 0 t = t * pw n := by unfold joinS; rw [Int.zero_add]
  rw [e] at h
  have e2 : t * 2 ^ n.toNat = t * pw n := rfl
  refine ⟨?_, h.2⟩
  rw [e2]
  have h3 := h.2
  generalize t * pw n = x at h3
  exact IntWalk.wrap64_in x (by omega)
theorem isC_len {n : Int} {xs : List Int} (h : IsC n xs) : xs.length ≤ 448 := by
  have e : setsL (mem xs) = xs := setsL_mem h.rng h.2.2.2.1
  rw [← e]; exact setsL_len _
theorem pairTo_len (n : Int) (xs ys : List Int) {j k : Nat} (hj : j ≤ 448) (hy : ys.length ≤ 448) (hk : k ≤ 448) : (pairTo n xs ys j k).length ≤ 448 * 448 + 448 := by
  have h : ∀ (l : List Int) (a : Nat), l.length ≤ a → (l.flatMap fun s => ys.map (joinS n s)).length ≤ a * 448 := by
    intro l
    induction l with
    | nil => intro a _; simp
    | cons x l ih =>
      intro a ha
      simp only [List.length_cons] at ha
      obtain ⟨b, rfl⟩ : ∃ b, a = b + 1 := ⟨a - 1, by omega⟩
      have := ih b (by omega)
      rw [List.flatMap_cons, List.length_append, List.length_map]
      omega
  have h1 := h (xs.take j) j (by simp; omega)
  rw [pairTo, List.length_append, List.length_map, List.length_take]
  omega
theorem fitB_iff {n : Int} {xs : List Int} {m : Int} {ys : List Int} : fitB n xs m ys = true ↔ IsC n xs ∧ IsC m ys ∧ n + m ≤ 6 := by simp [fitB, isC_iff]

set_option maxHeartbeats 4000000 in
theorem JoinOf_c (n m : Int) (va vb : Value) (xs ys : List Int) (w : World) (ha : Rd w va (ints xs)) (hb : Rd w vb (ints ys)) : Calls Try.prog 45 #[cx n va, cx m vb] w fun e w' =>
    ∃ u, e = .returned (.tuple #[cx (resN (fitB n xs m ys) (n + m)) u, .bool (fitB n xs m ys)]) ∧ St w w' [⟨u, 3, ints (resL (fitB n xs m ys) (joinL n xs ys))⟩] := by
  obtain ⟨p1, l1, k1, rfl⟩ := ha.form
  obtain ⟨p2, l2, k2, rfl⟩ := hb.form
  have hS := (((St.start w).box n (.slice p1 l1 k1) 30).boxAt m (.slice p2 l2 k2) 30 (H := w.heap.size + 1) (by simp)).boxAt 0 (.slice none 0 0) 30 (H := w.heap.size + 2) (by simp)
  have ha' := hS.old ha
  have HS := hid hS
  clear hS
  cases h1 : isC n xs with
  | false =>
    have E : fitB n xs m ys = false := by rw [fitB, h1]; rfl
    rw [E]
    clear E
    unfold cx
    go_enter Try.func45, Try.ntmps45
    go_wp2_with fail
    refine (IsComplex_c n _ xs _ ha').mono ?_
    rw [h1]
    rintro e w1 ⟨rfl, hB⟩
    have HS1 := hid (HS.out.quiet hB)
    have d0 := HS1.out.hd.c0
    have d1 := HS1.out.hd.c1
    have s0 : w1.frozen? ⟨w.heap.size + 2, 0, none⟩ = false := HS1.out.own.free (v := bx (w.heap.size + 2)) (.head _) 0 (by simp)
    have s1 : w1.frozen? ⟨w.heap.size + 2, 1, none⟩ = false := HS1.out.own.free (v := bx (w.heap.size + 2)) (.head _) 1 (by simp)
    clear hB
    go_wp2_with fail
    have hS6 := (HS1.out.set 0 (by simp) (.int .i64 0)).set 1 (by simp) (.slice none 0 0)
    exact bodyPost_ret (ret_cx2 rfl rfl rfl hS6.hd) rfl ⟨.slice none 0 0, rfl, (hS6.sub (.cons _ (.cons _ (.cons _ .slnil)))).nilRow _⟩
  | true =>
    have hc1 := isC_iff.1 h1
    have n1 := hc1.1
    have n6 := hc1.2.1
    have HX := hid hc1.2.2.1
    cases h2 : isC m ys with
    | false =>
      have E : fitB n xs m ys = false := by rw [fitB, h1, h2]; rfl
      rw [E]
      clear E hc1
      unfold cx
      go_enter Try.func45, Try.ntmps45
      go_wp2_with fail
      refine (IsComplex_c n _ xs _ ha').mono ?_
      rw [h1]
      rintro e w1 ⟨rfl, hB⟩
      have HS1 := hid (HS.out.quiet hB)
      have d0 := HS1.out.hd2.c0
      have d1 := HS1.out.hd2.c1
      have hb1 := HS1.out.old hb
      clear hB
      go_wp2_with fail
      refine (IsComplex_c m _ ys _ hb1).mono ?_
      rw [h2]
      rintro e w2 ⟨rfl, hB⟩
      have HS2 := hid (HS1.out.quiet hB)
      have f0 := HS2.out.hd.c0
      have f1 := HS2.out.hd.c1
      have s0 : w2.frozen? ⟨w.heap.size + 2, 0, none⟩ = false := HS2.out.own.free (v := bx (w.heap.size + 2)) (.head _) 0 (by simp)
      have s1 : w2.frozen? ⟨w.heap.size + 2, 1, none⟩ = false := HS2.out.own.free (v := bx (w.heap.size + 2)) (.head _) 1 (by simp)
      clear hB
      go_wp2_with fail
      have hS6 := (HS2.out.set 0 (by simp) (.int .i64 0)).set 1 (by simp) (.slice none 0 0)
      exact bodyPost_ret (ret_cx2 rfl rfl rfl hS6.hd) rfl ⟨.slice none 0 0, rfl, (hS6.sub (.cons _ (.cons _ (.cons _ .slnil)))).nilRow _⟩
    | true =>
      have hc2 := isC_iff.1 h2
      have m1 := hc2.1
      have m6 := hc2.2.1
      have HY := hid hc2.2.2.1
      by_cases h6 : 6 < n + m
      · have E : fitB n xs m ys = false := by rw [fitB, h1, h2]; simp; omega
        rw [E]
        clear E hc1 hc2
        unfold cx
        go_enter Try.func45, Try.ntmps45
        go_wp2_with fail
        refine (IsComplex_c n _ xs _ ha').mono ?_
        rw [h1]
        rintro e w1 ⟨rfl, hB⟩
        have HS1 := hid (HS.out.quiet hB)
        have d0 := HS1.out.hd2.c0
        have d1 := HS1.out.hd2.c1
        have hb1 := HS1.out.old hb
        clear hB
        go_wp2_with fail
        refine (IsComplex_c m _ ys _ hb1).mono ?_
        rw [h2]
        rintro e w2 ⟨rfl, hB⟩
        have HS2 := hid (HS1.out.quiet hB)
        have f0 := HS2.out.hd.c0
        have f1 := HS2.out.hd.c1
        have g0 := HS2.out.hd2.c0
        have g1 := HS2.out.hd3.c0
        have s0 : w2.frozen? ⟨w.heap.size + 2, 0, none⟩ = false := HS2.out.own.free (v := bx (w.heap.size + 2)) (.head _) 0 (by simp)
        have s1 : w2.frozen? ⟨w.heap.size + 2, 1, none⟩ = false := HS2.out.own.free (v := bx (w.heap.size + 2)) (.head _) 1 (by simp)
        clear hB
        go_wp2_with fail
        have hS6 := (HS2.out.set 0 (by simp) (.int .i64 0)).set 1 (by simp) (.slice none 0 0)
        exact bodyPost_ret (ret_cx2 rfl rfl rfl hS6.hd) rfl ⟨.slice none 0 0, rfl, (hS6.sub (.cons _ (.cons _ (.cons _ .slnil)))).nilRow _⟩
      · have E : fitB n xs m ys = true := by rw [fitB, h1, h2]; simp; omega
        rw [E]
        clear E hc1 hc2
        have n0 : 0 ≤ n := by omega
        have m0 : 0 ≤ m := by omega
        have hle : n + m ≤ 6 := by omega
        have EL : Hid (maxL (dn (mem (pairs n xs ys))) = joinL n xs ys) := maxL_dn _
        unfold cx
        go_enter Try.func45, Try.ntmps45
        go_wp2_with fail
        refine (IsComplex_c n _ xs _ ha').mono ?_
        rw [h1]
        rintro e w1 ⟨rfl, hB⟩
        have HS1 := hid (HS.out.quiet hB)
        have d0 := HS1.out.hd2.c0
        have d1 := HS1.out.hd2.c1
        have hb1 := HS1.out.old hb
        clear hB
        go_wp2_with fail
        refine (IsComplex_c m _ ys _ hb1).mono ?_
        rw [h2]
        rintro e w2 ⟨rfl, hB⟩
        have HS2 := hid (HS1.out.quiet hB)
        have f0 := HS2.out.hd2.c0
        have f1 := HS2.out.hd2.c1
        have g0 := HS2.out.hd3.c0
        have g1 := HS2.out.hd3.c1
        have ha2 := HS2.out.old ha
        have hb2 := HS2.out.old hb
        have la := ha2.iln tI
        have lb := hb2.iln tI
        have ll := ha2.ile
        have ll2 := hb2.ile
        have E0 : Hid (fam (dn (mem (pairTo n xs ys 0 0))) = 0) := by show _ = _; rw [pairTo_zero]; exact fam_none' fun s _ _ => dn_none s
        clear hB h1 h2
        go_wp2_with fail
        go_loop [6, 31] (fun f i => ∃ (j : Nat), j ≤ xs.length ∧ i = .int .i64 j ∧ f = .int .u64 (fam (dn (mem (pairTo n xs ys j 0))))) (fun _ i => xs.length - (intOf i).toNat)
        case atStart => exact ⟨0, by omega, rfl, by rw [E0.out]⟩
        case round =>
          obtain ⟨j, hj, rfl, rfl⟩ := hrel
          by_cases hlt : j < xs.length
          · have a1 := ha2.iix tI j hlt
            have a2 := ha2.intCell j hlt
            obtain ⟨r0, r1⟩ := HX.out _ (gi_mem hlt)
            have EN : Hid (pairTo n xs ys j ys.length = pairTo n xs ys (j + 1) 0) := pairTo_next n xs ys hlt
            have dj : decide ((j : Int) < (xs.length : Int)) = true := by simp [hlt]
            go_wp2_with fail
            go_loop [6, 38] (fun f i => ∃ (k : Nat), k ≤ ys.length ∧ i = .int .i64 k ∧ f = .int .u64 (fam (dn (mem (pairTo n xs ys j k))))) (fun _ i => ys.length - (intOf i).toNat)
            case atStart => exact ⟨0, by omega, rfl, rfl⟩
            case round =>
              obtain ⟨k, hk, rfl, rfl⟩ := hrel
              by_cases hlk : k < ys.length
              · have b1 := hb2.iix tI k hlk
                have b2 := hb2.intCell k hlk
                obtain ⟨t0, t1⟩ := HY.out _ (gi_mem hlk)
                obtain ⟨q1, q2, q3⟩ := shl_fit n0 m0 hle t0 t1
                obtain ⟨z1, z2, z3⟩ := join_or n0 m0 hle r0 r1 t0 t1
                have z4 : bits .or .i64 (gi xs j) (gi ys k * pw n) = joinS n (gi xs j) (gi ys k) := z1
                have E2 : Hid (bits .or .u64 (fam (dn (mem (pairTo n xs ys j k)))) (fam (subP (joinS n (gi xs j) (gi ys k)))) = fam (dn (mem (pairTo n xs ys j (k + 1))))) := by
                  show _ = _
                  rw [fam_or, pairTo_succ n xs ys j hlk]
                  refine fam_congr fun s _ _ => (dn_snoc ?_ s).symm
                  intro y hy
                  rcases List.mem_append.1 hy with hy | hy
                  · exact pairTo_rng n0 m0 hle HX.out HY.out hlt y hy
                  · rw [List.mem_singleton.1 hy]; exact ⟨z2, z3⟩
                clear z1
                go_wp2_with (go_at_call 137; refine (subsetFamily_c _ _ z2 z3).mono ?_; rintro e w' ⟨rfl, rfl⟩)
                go_round
                case rel => exact ⟨k + 1, by omega, by go_num, by rw [E2.out]⟩
                case measure => simp [intOf]; omega
              · have ek : k = ys.length := by omega
                subst ek
                go_wp2_with fail
                go_round
                case rel => exact ⟨j + 1, by omega, by go_num, by rw [EN.out]⟩
                case measure => simp [intOf]; omega
          · have ek : Hid (fam (dn (mem (pairTo n xs ys j 0))) = fam (dn (mem (pairs n xs ys)))) := by show _ = _; rw [pairTo_all n xs ys (by omega)]
            go_wp2_with fail
            rw [ek.out]
            refine (complexOf_c _ _ _).mono ?_
            rintro e w4 ⟨v2, rfl, hS4⟩
            have hS5 := HS2.out.call1 hS4
            obtain ⟨p, l, c, rfl⟩ := hS5.hd.form
            have i0 := hS5.hd2.c0
            have i1 := hS5.hd2.c1
            have s0 : w4.frozen? ⟨w.heap.size + 2, 0, none⟩ = false := hS5.own.free (v := bx (w.heap.size + 2)) (.tail _ (.head _)) 0 (by simp)
            have s1 : w4.frozen? ⟨w.heap.size + 2, 1, none⟩ = false := hS5.own.free (v := bx (w.heap.size + 2)) (.tail _ (.head _)) 1 (by simp)
            have HS5 := hid hS5
            clear hS5 hS4
            unfold cx
            go_wp2_with fail
            have hS6 := ((HS5.out.bring (l1 := [_])).set 0 (by simp) (.int .i64 (n + m))).set 1 (by simp) (.slice p l c)
            refine bodyPost_ret (ret_cx2 rfl rfl rfl hS6.hd) rfl ⟨.slice p l c, rfl, ?_⟩
            show St _ _ [⟨_, _, ints (joinL n xs ys)⟩]
            rw [← EL.out]
            exact hS6.sub (.cons _ (.cons_cons _ (.cons _ (.cons _ .slnil))))

set_option maxHeartbeats 4000000 in
set_option maxRecDepth 100000 in
theorem sJoinOf_c (n m : Int) (va vb : Value) (xs ys : List Int) (w : World) (ha : Rd w va (ints xs)) (hb : Rd w vb (ints ys)) : Calls Try.prog 46 #[cx n va, cx m vb] w fun e w' =>
    ∃ u, e = .returned (.tuple #[cx (resN (fitB n xs m ys) (n + m)) u, .bool (fitB n xs m ys)]) ∧ St w w' [⟨u, 3, ints (resL (fitB n xs m ys) (joinL n xs ys))⟩] := by
  obtain ⟨p1, l1, k1, rfl⟩ := ha.form
  obtain ⟨p2, l2, k2, rfl⟩ := hb.form
  have hS := (((St.start w).box n (.slice p1 l1 k1) 30).boxAt m (.slice p2 l2 k2) 30 (H := w.heap.size + 1) (by simp)).boxAt 0 (.slice none 0 0) 30 (H := w.heap.size + 2) (by simp)
  have ha' := hS.old ha
  have hb' := hS.old hb
  have HS := hid hS
  clear hS
  cases hf : fitB n xs m ys with
  | false =>
    unfold cx
    go_enter Try.func46, Try.ntmps46
    go_wp2_with fail
    refine (l6Fit_c n m _ _ xs ys _ ha' hb').mono ?_
    rw [hf]
    rintro e w1 ⟨rfl, hB⟩
    have HS1 := hid (HS.out.quiet hB)
    have d0 := HS1.out.hd.c0
    have d1 := HS1.out.hd.c1
    have s0 : w1.frozen? ⟨w.heap.size + 2, 0, none⟩ = false := HS1.out.own.free (v := bx (w.heap.size + 2)) (.head _) 0 (by simp)
    have s1 : w1.frozen? ⟨w.heap.size + 2, 1, none⟩ = false := HS1.out.own.free (v := bx (w.heap.size + 2)) (.head _) 1 (by simp)
    clear hB
    go_wp2_with fail
    have hS6 := (HS1.out.set 0 (by simp) (.int .i64 0)).set 1 (by simp) (.slice none 0 0)
    exact bodyPost_ret (ret_cx2 rfl rfl rfl hS6.hd) rfl ⟨.slice none 0 0, rfl, (hS6.sub (.cons _ (.cons _ (.cons _ .slnil)))).nilRow _⟩
  | true =>
    obtain ⟨hc1, hc2, hle⟩ := fitB_iff.1 hf
    have n1 := hc1.1
    have n6 := hc1.2.1
    have HX := hid hc1.2.2.1
    have m1 := hc2.1
    have m6 := hc2.2.1
    have HY := hid hc2.2.2.1
    have n0 : 0 ≤ n := by omega
    have m0 : 0 ≤ m := by omega
    have hxl : Hid (xs.length ≤ 448) := isC_len hc1
    have hyl : Hid (ys.length ≤ 448) := isC_len hc2
    have HR : Hid (∀ y ∈ pairs n xs ys, 0 ≤ y ∧ y < 64) := pairs_rng n0 m0 hle HX.out HY.out
    clear hc1 hc2
    unfold cx
    go_enter Try.func46, Try.ntmps46
    go_wp2_with fail
    refine (l6Fit_c n m _ _ xs ys _ ha' hb').mono ?_
    rw [hf]
    rintro e w1 ⟨rfl, hB⟩
    have HS1 := hid (HS.out.quiet hB)
    clear hB hf
    go_wp2_with fail
    go_loopw [6, 7] (fun o i wr => ∃ (j : Nat) (u : Value), j ≤ xs.length ∧ i = .int .i64 j ∧ o = u ∧ St w wr [⟨u, 3, ints (pairTo n xs ys j 0)⟩, ⟨bx (w.heap.size + 2), 30, [.int .i64 0, .slice none 0 0]⟩, ⟨bx (w.heap.size + 1), 30, [.int .i64 m, .slice p2 l2 k2]⟩, ⟨bx w.heap.size, 30, [.int .i64 n, .slice p1 l1 k1]⟩]) (fun _ i _ => xs.length - (intOf i).toNat)
    case atStart => exact ⟨0, _, by omega, rfl, rfl, by rw [pairTo_zero]; exact HS1.out.newAt #[] _ (by simp) rfl⟩
    case round =>
      obtain ⟨j, u, hj, rfl, rfl, hS⟩ := hrel
      obtain ⟨wo, rfl⟩ : ∃ wo : World, wo = wr := ⟨_, rfl⟩
      have f0 := hS.hd4.c0
      have f1 := hS.hd4.c1
      have ha2 := hS.old ha
      have la := ha2.iln tI
      have ll := ha2.ile
      by_cases hlt : j < xs.length
      · have EN : Hid (pairTo n xs ys j ys.length = pairTo n xs ys (j + 1) 0) := pairTo_next n xs ys hlt
        have HS2 := hid hS
        clear hS
        obtain ⟨r0, r1⟩ := HX.out _ (gi_mem hlt)
        have HP : Hid (∀ k, k ≤ ys.length → (pairTo n xs ys j k).length ≤ 1000000) := fun k hk => by
          have := pairTo_len n xs ys (show j ≤ 448 by have := hxl.out; omega) (show ys.length ≤ 448 from hyl.out) (show k ≤ 448 by have := hyl.out; omega)
          omega
        go_wp2_with fail
        clear f0 f1 la
        go_loopw [6, 8] (fun o i wr => ∃ (k : Nat) (u : Value), k ≤ ys.length ∧ i = .int .i64 k ∧ o = u ∧ St w wr [⟨u, 3, ints (pairTo n xs ys j k)⟩, ⟨bx (w.heap.size + 2), 30, [.int .i64 0, .slice none 0 0]⟩, ⟨bx (w.heap.size + 1), 30, [.int .i64 m, .slice p2 l2 k2]⟩, ⟨bx w.heap.size, 30, [.int .i64 n, .slice p1 l1 k1]⟩]) (fun _ i _ => ys.length - (intOf i).toNat)
        case atStart => exact ⟨0, _, by omega, rfl, rfl, HS2.out⟩
        case round =>
          obtain ⟨k, u2, hk, rfl, rfl, hS⟩ := hrel
          obtain ⟨wi, rfl⟩ : ∃ wi : World, wi = wr := ⟨_, rfl⟩
          have f0 := hS.hd4.c0
          have f1 := hS.hd4.c1
          have g0 := hS.hd3.c0
          have g1 := hS.hd3.c1
          have ha3 := hS.old ha
          have hb3 := hS.old hb
          have lb := hb3.iln tI
          have ll2 := hb3.ile
          by_cases hlk : k < ys.length
          · have a1 := ha3.iix tI j hlt
            have a2 := ha3.intCell j hlt
            have b1 := hb3.iix tI k hlk
            have b2 := hb3.intCell k hlk
            obtain ⟨t0, t1⟩ := HY.out _ (gi_mem hlk)
            obtain ⟨q1, q2, q3⟩ := shl_fit n0 m0 hle t0 t1
            obtain ⟨_, z2, z3⟩ := join_or n0 m0 hle r0 r1 t0 t1
            have E2 : Hid (pairTo n xs ys j (k + 1) = pairTo n xs ys j k ++ [joinS n (gi xs j) (gi ys k)]) := pairTo_succ n xs ys j hlk
            obtain ⟨J, hJ⟩ : ∃ J, J = joinS n (gi xs j) (gi ys k) := ⟨_, rfl⟩
            obtain ⟨T, hT⟩ : ∃ T, T = gi ys k * pw n := ⟨_, rfl⟩
            have hJT : gi xs j + T = J := by rw [hJ, hT]; rfl
            rw [← hT] at q1 q2 q3
            rw [← hJ] at z2 z3 E2
            have hll := HP.out k hk
            have u1 : IntKind.u64.wrap n = n := IntWalk.u64_in n (by omega)
            have u2 : min n.toNat 64 = n.toNat := by omega
            have q4 : IntKind.i64.wrap (gi ys k * 2 ^ n.toNat) = T := by rw [show gi ys k * 2 ^ n.toNat = T from hT.symm]; exact IntWalk.i64_in T (by omega)
            have q5 : IntKind.i64.wrap J = J := IntWalk.i64_in J (by omega)
            have HA : Hid (St w (wi.alloc (.cells #[.int .i64 J] 3)).drew _) := (hS.alloc (.cells #[.int .i64 J] 3)).drewN 1
            have HN : Hid (Rd (wi.alloc (.cells #[.int .i64 J] 3)).drew (.slice (some ⟨wi.heap.size, 0, none⟩) 1 1) [.int .i64 J]) := (hS.new #[.int .i64 J] 3 (by simp [maxLen])).hd.drew 1
            clear hS hJ hT
            go_wp2_with fail
            go_region_law (first | (refine step_app rfl (.tmp 29) (.tmp 45) rfl tI HA.out.own [.int .i64 J] HN.out (by simp [Value.oneCell']) (by simp; omega) rfl rfl ?_; intro v2 w2 hO2 hb2) | go_simp)
            all_goals
              go_wp2_with fail
              go_roundw
              case rel => exact ⟨k + 1, v2, by omega, by go_num, rfl, by rw [E2.out, ints_append]; exact HA.out.mut hO2 hb2⟩
              case measure => simp [intOf]; omega
          · have ek : k = ys.length := by omega
            subst ek
            have HS3 := hid hS
            clear hS
            go_wp2_with fail
            go_roundw
            case rel => exact ⟨j + 1, _, by omega, by go_num, rfl, by rw [← EN.out]; exact HS3.out⟩
            case measure => simp [intOf]; omega
      · have ek : Hid (pairTo n xs ys j 0 = pairs n xs ys) := pairTo_all n xs ys (by omega)
        have g0 := hS.hd3.c0
        have HS2 := hid hS
        clear hS
        go_wp2_with fail
        have hr := HS2.out.hd
        rw [ek.out] at hr
        refine (l3Make_c _ _ _ _ hr HR.out).mono ?_
        rintro e w4 ⟨v2, rfl, hS4⟩
        have hS5 := HS2.out.call1 hS4
        obtain ⟨p, l, c, rfl⟩ := hS5.hd.form
        have i0 := hS5.hd3.c0
        have i1 := hS5.hd3.c1
        have s0 : w4.frozen? ⟨w.heap.size + 2, 0, none⟩ = false := hS5.own.free (v := bx (w.heap.size + 2)) (.tail _ (.tail _ (.head _))) 0 (by simp)
        have s1 : w4.frozen? ⟨w.heap.size + 2, 1, none⟩ = false := hS5.own.free (v := bx (w.heap.size + 2)) (.tail _ (.tail _ (.head _))) 1 (by simp)
        have HS5 := hid hS5
        clear hS5 hS4
        unfold cx
        go_wp2_with fail
        have hS6 := ((HS5.out.bring (l1 := [_, _])).set 0 (by simp) (.int .i64 (n + m))).set 1 (by simp) (.slice p l c)
        exact bodyPost_ret (ret_cx2 rfl rfl rfl hS6.hd) rfl ⟨.slice p l c, rfl, hS6.sub (.cons _ (.cons_cons _ (.cons _ (.cons _ (.cons _ .slnil)))))⟩

def s2C : List Int := [1, 2]
theorem s2_isC : isC 2 s2C = true := by decide +kernel
def susB (n : Int) (xs : List Int) : Bool := fitB n xs 2 s2C
def susL (n : Int) (xs : List Int) : List Int := joinL n xs s2C
set_option maxHeartbeats 2000000 in
theorem SuspensionOf_c (n : Int) (va : Value) (xs : List Int) (w : World) (ha : Rd w va (ints xs)) : Calls Try.prog 53 #[cx n va] w fun e w' =>
    ∃ u, e = .returned (.tuple #[cx (resN (susB n xs) (n + 2)) u, .bool (susB n xs)]) ∧ St w w' [⟨u, 3, ints (resL (susB n xs) (susL n xs))⟩] := by
  obtain ⟨p1, l1, k1, rfl⟩ := ha.form
  have hS := (((St.start w).box n (.slice p1 l1 k1) 30).boxAt 0 (.slice none 0 0) 30 (H := w.heap.size + 1) (by simp)).newAt #[.int .i64 1, .int .i64 2] 3 (by simp [maxLen]) (H := w.heap.size + 2) (by simp)
  have ha' := hS.old ha
  have hb' := hS.hd
  have HS := hid hS
  clear hS
  obtain ⟨N, hN⟩ : ∃ N, N = resN (susB n xs) (n + 2) := ⟨_, rfl⟩
  rw [← hN]
  unfold cx
  go_enter Try.func53, Try.ntmps53
  go_wp2_with fail
  refine (JoinOf_c n 2 _ _ xs s2C _ ha' hb').mono ?_
  rw [show fitB n xs 2 s2C = susB n xs from rfl, show joinL n xs s2C = susL n xs from rfl, ← hN]
  rintro e w4 ⟨v2, rfl, hS4⟩
  have hS5 := HS.out.call1 hS4
  obtain ⟨p, l, c, rfl⟩ := hS5.hd.form
  have hS5 := hS5
  have i0 := hS5.hd3.c0
  have i1 := hS5.hd3.c1
  have s0 := hS5.own.free (v := bx (w.heap.size + 1)) (.tail _ (.tail _ (.head _))) 0 (by simp)
  have s1 := hS5.own.free (v := bx (w.heap.size + 1)) (.tail _ (.tail _ (.head _))) 1 (by simp)
  simp only [adr, bx, Nat.zero_add] at s0 s1
  have HS5 := hid hS5
  clear hS5 hS4 hN
  unfold cx
  go_wp2_with fail
  have hS6 := ((HS5.out.bring (l1 := [_, _])).set 0 (by simp) (.int .i64 N)).set 1 (by simp) (.slice p l c)
  exact bodyPost_ret (ret_cx2 rfl rfl rfl hS6.hd) rfl ⟨.slice p l c, rfl, hS6.sub (.cons _ (.cons_cons _ (.cons _ (.cons _ .slnil))))⟩

set_option maxHeartbeats 2000000 in
theorem sSuspensionOf_c (n : Int) (va : Value) (xs : List Int) (w : World) (ha : Rd w va (ints xs)) : Calls Try.prog 54 #[cx n va] w fun e w' =>
    ∃ u, e = .returned (.tuple #[cx (resN (susB n xs) (n + 2)) u, .bool (susB n xs)]) ∧ St w w' [⟨u, 3, ints (resL (susB n xs) (susL n xs))⟩] := by
  obtain ⟨p1, l1, k1, rfl⟩ := ha.form
  have hS := (((St.start w).box n (.slice p1 l1 k1) 30).boxAt 0 (.slice none 0 0) 30 (H := w.heap.size + 1) (by simp)).newAt #[.int .i64 1, .int .i64 2] 3 (by simp [maxLen]) (H := w.heap.size + 2) (by simp)
  have ha' := hS.old ha
  have hb' := hS.hd
  have HS := hid hS
  clear hS
  obtain ⟨N, hN⟩ : ∃ N, N = resN (susB n xs) (n + 2) := ⟨_, rfl⟩
  rw [← hN]
  unfold cx
  go_enter Try.func54, Try.ntmps54
  go_wp2_with fail
  refine (sJoinOf_c n 2 _ _ xs s2C _ ha' hb').mono ?_
  rw [show fitB n xs 2 s2C = susB n xs from rfl, show joinL n xs s2C = susL n xs from rfl, ← hN]
  rintro e w4 ⟨v2, rfl, hS4⟩
  have hS5 := HS.out.call1 hS4
  obtain ⟨p, l, c, rfl⟩ := hS5.hd.form
  have hS5 := (hS5.box N (.slice p l c) 30)
  have i0 := hS5.hd4.c0
  have i1 := hS5.hd4.c1
  have s0 := hS5.own.free (v := bx (w.heap.size + 1)) (.tail _ (.tail _ (.tail _ (.head _)))) 0 (by simp)
  have s1 := hS5.own.free (v := bx (w.heap.size + 1)) (.tail _ (.tail _ (.tail _ (.head _)))) 1 (by simp)
  simp only [adr, bx, Nat.zero_add] at s0 s1
  have HS5 := hid hS5
  clear hS5 hS4 hN
  unfold cx
  go_wp2_with fail
  have hS6 := ((HS5.out.bring (l1 := [_, _, _])).set 0 (by simp) (.int .i64 N)).set 1 (by simp) (.slice p l c)
  exact bodyPost_ret (ret_cx2 rfl rfl rfl hS6.hd) rfl ⟨.slice p l c, rfl, hS6.sub (.cons _ (.cons _ (.cons_cons _ (.cons _ (.cons _ .slnil)))))⟩


end Go.Proofs.Ytjaofbdfhcgmeaa
