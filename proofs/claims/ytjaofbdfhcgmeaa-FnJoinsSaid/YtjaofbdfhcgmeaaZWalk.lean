/-
  Two complexes side by side, walked.
  Two complexes side by side: the program's own walk.
-/
import Derived.Test.YtjaofbdfhcgmeaaJoin3
namespace Go.Proofs.Ytjaofbdfhcgmeaa
open Go.RowKit

/-- The facets of both, the second's first k moved up. -/
def disTo (n : Int) (xs ys : List Int) (k : Nat) : List Int := xs ++ (ys.take k).map (fun t => t * pw n)
def disL (n : Int) (xs ys : List Int) : List Int := maxL (mem (disTo n xs ys ys.length))
theorem disTo_zero (n : Int) (xs ys : List Int) : disTo n xs ys 0 = xs := by simp [disTo]
theorem disTo_succ (n : Int) (xs ys : List Int) {k : Nat} (h : k < ys.length) : disTo n xs ys (k + 1) = disTo n xs ys k ++ [gi ys k * pw n] := by
  unfold disTo
  rw [take_succ_gi h, List.map_append, List.append_assoc]; rfl
theorem disTo_len (n : Int) {xs ys : List Int} {k : Nat} (hx : xs.length ≤ 448) (hy : ys.length ≤ 448) : (disTo n xs ys k).length ≤ 896 := by simp [disTo]; omega
theorem disTo_rng {n m : Int} {xs ys : List Int} (n0 : 0 ≤ n) (m0 : 0 ≤ m) (h6 : n + m ≤ 6) (hx : ∀ x ∈ xs, 0 ≤ x ∧ x < pw n) (hy : ∀ y ∈ ys, 0 ≤ y ∧ y < pw m) : ∀ x ∈ disTo n xs ys ys.length, 0 ≤ x ∧ x < 64 := fun x h => by
  have hp := pw_rng n0 (by omega)
  rcases List.mem_append.1 h with h | h
  · have := hx x h; omega
  · rw [List.take_length] at h
    obtain ⟨y, hy1, rfl⟩ := List.mem_map.1 h
    have h2 := hy y hy1
    exact (shl_fit n0 m0 h6 h2.1 h2.2).2

set_option maxHeartbeats 4000000 in
set_option maxRecDepth 100000 in
theorem sDisjointOf_c (n m : Int) (va vb : Value) (xs ys : List Int) (w : World) (ha : Rd w va (ints xs)) (hb : Rd w vb (ints ys)) : Calls Try.prog 49 #[cx n va, cx m vb] w fun e w' =>
    ∃ u, e = .returned (.tuple #[cx (resN (fitB n xs m ys) (n + m)) u, .bool (fitB n xs m ys)]) ∧ St w w' [⟨u, 3, ints (resL (fitB n xs m ys) (disL n xs ys))⟩] := by
  obtain ⟨p1, l1, k1, rfl⟩ := ha.form
  obtain ⟨p2, l2, k2, rfl⟩ := hb.form
  have hS := (((St.start w).box n (.slice p1 l1 k1) 30).boxAt m (.slice p2 l2 k2) 30 (H := w.heap.size + 1) (by simp)).boxAt 0 (.slice none 0 0) 30 (H := w.heap.size + 2) (by simp)
  have ha' := hS.old ha
  have hb' := hS.old hb
  have HS := hid hS
  clear hS
  cases hf : fitB n xs m ys with
  | false =>
    unfold cx
    go_enter Try.func49, Try.ntmps49
    go_wp2_with fail
    refine (l6Fit_c n m _ _ xs ys _ ha' hb').mono ?_
    rw [hf]
    rintro e w1 ⟨rfl, hB⟩
    have HS1 := hid (HS.out.quiet hB)
    have d0 := HS1.out.hd.c0
    have d1 := HS1.out.hd.c1
    have s0 : w1.frozen? ⟨w.heap.size + 2, 0, none⟩ = false := HS1.out.own.free (v := bx (w.heap.size + 2)) (.head _) 0 (by simp)
    have s1 : w1.frozen? ⟨w.heap.size + 2, 1, none⟩ = false := HS1.out.own.free (v := bx (w.heap.size + 2)) (.head _) 1 (by simp)
    clear hB
    go_wp2_with fail
    have hS6 := (HS1.out.set 0 (by simp) (.int .i64 0)).set 1 (by simp) (.slice none 0 0)
    exact bodyPost_ret (ret_cx2 rfl rfl rfl hS6.hd) rfl ⟨.slice none 0 0, rfl, (hS6.sub (.cons _ (.cons _ (.cons _ .slnil)))).nilRow _⟩
  | true =>
    obtain ⟨hc1, hc2, hle⟩ := fitB_iff.1 hf
    have n1 := hc1.1
    have n6 := hc1.2.1
    have HX := hid hc1.2.2.1
    have m1 := hc2.1
    have m6 := hc2.2.1
    have HY := hid hc2.2.2.1
    have n0 : 0 ≤ n := by omega
    have m0 : 0 ≤ m := by omega
    have hxl : Hid (xs.length ≤ 448) := isC_len hc1
    have hyl : Hid (ys.length ≤ 448) := isC_len hc2
    have HR : Hid (∀ y ∈ disTo n xs ys ys.length, 0 ≤ y ∧ y < 64) := disTo_rng n0 m0 hle HX.out HY.out
    clear hc1 hc2
    unfold cx
    go_enter Try.func49, Try.ntmps49
    go_wp2_with fail
    refine (l6Fit_c n m _ _ xs ys _ ha' hb').mono ?_
    rw [hf]
    rintro e w1 ⟨rfl, hB⟩
    have hS1 := HS.out.quiet hB
    have g0 := hS1.hd3.c0
    have g1 := hS1.hd3.c1
    have HS1 := hid hS1
    have hE := hS1.newAt #[] 3 (by simp) (H := w1.heap.size) rfl
    have i0 := hE.hd4.c0
    have i1 := hE.hd4.c1
    have HE := hid hE
    clear hE
    clear hB hf hS1
    go_wp2_with (at_builtin; refine wpList_app rfl _ _ rfl tI HE.out.own (HE.out.old ha) (fun u h => by obtain ⟨x, _, rfl⟩ := List.mem_map.1 h; rfl) (by have := hxl.out; simp; omega) rfl rfl ?_)
    intro v2 w2 hO2 hb2
    have HS2 := hid (HE.out.mut hO2 hb2)
    clear hO2 hb2 g0 g1 i0 i1
    go_wp2_with fail
    go_loopw [6, 7] (fun o i wr => ∃ (k : Nat) (u : Value), k ≤ ys.length ∧ i = .int .i64 k ∧ o = u ∧ St w wr [⟨u, 3, ints (disTo n xs ys k)⟩, ⟨bx (w.heap.size + 2), 30, [.int .i64 0, .slice none 0 0]⟩, ⟨bx (w.heap.size + 1), 30, [.int .i64 m, .slice p2 l2 k2]⟩, ⟨bx w.heap.size, 30, [.int .i64 n, .slice p1 l1 k1]⟩]) (fun _ i _ => ys.length - (intOf i).toNat)
    case atStart => exact ⟨0, _, by omega, rfl, rfl, by rw [disTo_zero]; exact HS2.out⟩
    case round =>
      obtain ⟨k, u2, hk, rfl, rfl, hS⟩ := hrel
      obtain ⟨wi, rfl⟩ : ∃ wi : World, wi = wr := ⟨_, rfl⟩
      have f0 := hS.hd4.c0
      have f1 := hS.hd4.c1
      have g0 := hS.hd3.c0
      have g1 := hS.hd3.c1
      have hb3 := hS.old hb
      have lb := hb3.iln tI
      have ll2 := hb3.ile
      by_cases hlk : k < ys.length
      · have b1 := hb3.iix tI k hlk
        have b2 := hb3.intCell k hlk
        obtain ⟨t0, t1⟩ := HY.out _ (gi_mem hlk)
        obtain ⟨q1, q2, q3⟩ := shl_fit n0 m0 hle t0 t1
        have E2 : Hid (disTo n xs ys (k + 1) = disTo n xs ys k ++ [gi ys k * pw n]) := disTo_succ n xs ys hlk
        obtain ⟨T, hT⟩ : ∃ T, T = gi ys k * pw n := ⟨_, rfl⟩
        rw [← hT] at q1 q2 q3 E2
        have hll : (disTo n xs ys k).length ≤ 896 := disTo_len n hxl.out hyl.out
        have u1 : IntKind.u64.wrap n = n := IntWalk.u64_in n (by omega)
        have u2 : min n.toNat 64 = n.toNat := by omega
        have q4 : IntKind.i64.wrap (gi ys k * 2 ^ n.toNat) = T := by rw [show gi ys k * 2 ^ n.toNat = T from hT.symm]; exact IntWalk.i64_in T (by omega)
        have HA : Hid (St w (wi.alloc (.cells #[.int .i64 T] 3)).drew _) := (hS.alloc (.cells #[.int .i64 T] 3)).drewN 1
        have HN : Hid (Rd (wi.alloc (.cells #[.int .i64 T] 3)).drew (.slice (some ⟨wi.heap.size, 0, none⟩) 1 1) [.int .i64 T]) := (hS.new #[.int .i64 T] 3 (by simp [maxLen])).hd.drew 1
        clear hS hT
        go_wp2_with fail
        go_region_law (first | (refine step_app rfl (.tmp 24) (.tmp 34) rfl tI HA.out.own [.int .i64 T] HN.out (by simp [Value.oneCell']) (by simp; omega) rfl rfl ?_; intro v2 w2 hO2 hb2) | go_simp)
        all_goals
          go_wp2_with fail
          go_roundw
          case rel => exact ⟨k + 1, v2, by omega, by go_num, rfl, by rw [E2.out, ints_append]; exact HA.out.mut hO2 hb2⟩
          case measure => simp [intOf]; omega
      · have ek : k = ys.length := by omega
        subst ek
        have HS3 := hid hS
        clear hS
        go_wp2_with fail
        refine (l3Make_c _ _ _ _ HS3.out.hd HR.out).mono ?_
        rintro e w4 ⟨v4, rfl, hS4⟩
        have hS5 := HS3.out.call1 hS4
        obtain ⟨p, l, c, rfl⟩ := hS5.hd.form
        have i0 := hS5.hd3.c0
        have i1 := hS5.hd3.c1
        have s0 : w4.frozen? ⟨w.heap.size + 2, 0, none⟩ = false := hS5.own.free (v := bx (w.heap.size + 2)) (.tail _ (.tail _ (.head _))) 0 (by simp)
        have s1 : w4.frozen? ⟨w.heap.size + 2, 1, none⟩ = false := hS5.own.free (v := bx (w.heap.size + 2)) (.tail _ (.tail _ (.head _))) 1 (by simp)
        have HS5 := hid hS5
        clear hS5 hS4
        unfold cx
        go_wp2_with fail
        have hS6 := ((HS5.out.bring (l1 := [_, _])).set 0 (by simp) (.int .i64 (n + m))).set 1 (by simp) (.slice p l c)
        exact bodyPost_ret (ret_cx2 rfl rfl rfl hS6.hd) rfl ⟨.slice p l c, rfl, hS6.sub (.cons _ (.cons_cons _ (.cons _ (.cons _ (.cons _ .slnil)))))⟩

end Go.Proofs.Ytjaofbdfhcgmeaa

namespace Go.Proofs.Ytjaofbdfhcgmeaa
open Go.RowKit

set_option maxHeartbeats 4000000 in
theorem DisjointOf_c (n m : Int) (va vb : Value) (xs ys : List Int) (w : World) (ha : Rd w va (ints xs)) (hb : Rd w vb (ints ys)) : Calls Try.prog 48 #[cx n va, cx m vb] w fun e w' =>
    ∃ u, e = .returned (.tuple #[cx (resN (fitB n xs m ys) (n + m)) u, .bool (fitB n xs m ys)]) ∧ St w w' [⟨u, 3, ints (resL (fitB n xs m ys) (disL n xs ys))⟩] := by
  obtain ⟨p1, l1, k1, rfl⟩ := ha.form
  obtain ⟨p2, l2, k2, rfl⟩ := hb.form
  have hS := (((St.start w).box n (.slice p1 l1 k1) 30).boxAt m (.slice p2 l2 k2) 30 (H := w.heap.size + 1) (by simp)).boxAt 0 (.slice none 0 0) 30 (H := w.heap.size + 2) (by simp)
  have ha' := hS.old ha
  have HS := hid hS
  clear hS
  cases h1 : isC n xs with
  | false =>
    have E : fitB n xs m ys = false := by rw [fitB, h1]; rfl
    rw [E]
    clear E
    unfold cx
    go_enter Try.func48, Try.ntmps48
    go_wp2_with fail
    refine (IsComplex_c n _ xs _ ha').mono ?_
    rw [h1]
    rintro e w1 ⟨rfl, hB⟩
    have HS1 := hid (HS.out.quiet hB)
    have d0 := HS1.out.hd.c0
    have d1 := HS1.out.hd.c1
    have s0 : w1.frozen? ⟨w.heap.size + 2, 0, none⟩ = false := HS1.out.own.free (v := bx (w.heap.size + 2)) (.head _) 0 (by simp)
    have s1 : w1.frozen? ⟨w.heap.size + 2, 1, none⟩ = false := HS1.out.own.free (v := bx (w.heap.size + 2)) (.head _) 1 (by simp)
    clear hB
    go_wp2_with fail
    have hS6 := (HS1.out.set 0 (by simp) (.int .i64 0)).set 1 (by simp) (.slice none 0 0)
    exact bodyPost_ret (ret_cx2 rfl rfl rfl hS6.hd) rfl ⟨.slice none 0 0, rfl, (hS6.sub (.cons _ (.cons _ (.cons _ .slnil)))).nilRow _⟩
  | true =>
    have hc1 := isC_iff.1 h1
    have n1 := hc1.1
    have n6 := hc1.2.1
    have HX := hid hc1.2.2.1
    cases h2 : isC m ys with
    | false =>
      have E : fitB n xs m ys = false := by rw [fitB, h1, h2]; rfl
      rw [E]
      clear E hc1
      unfold cx
      go_enter Try.func48, Try.ntmps48
      go_wp2_with fail
      refine (IsComplex_c n _ xs _ ha').mono ?_
      rw [h1]
      rintro e w1 ⟨rfl, hB⟩
      have HS1 := hid (HS.out.quiet hB)
      have d0 := HS1.out.hd2.c0
      have d1 := HS1.out.hd2.c1
      have hb1 := HS1.out.old hb
      clear hB
      go_wp2_with fail
      refine (IsComplex_c m _ ys _ hb1).mono ?_
      rw [h2]
      rintro e w2 ⟨rfl, hB⟩
      have HS2 := hid (HS1.out.quiet hB)
      have f0 := HS2.out.hd.c0
      have f1 := HS2.out.hd.c1
      have s0 : w2.frozen? ⟨w.heap.size + 2, 0, none⟩ = false := HS2.out.own.free (v := bx (w.heap.size + 2)) (.head _) 0 (by simp)
      have s1 : w2.frozen? ⟨w.heap.size + 2, 1, none⟩ = false := HS2.out.own.free (v := bx (w.heap.size + 2)) (.head _) 1 (by simp)
      clear hB
      go_wp2_with fail
      have hS6 := (HS2.out.set 0 (by simp) (.int .i64 0)).set 1 (by simp) (.slice none 0 0)
      exact bodyPost_ret (ret_cx2 rfl rfl rfl hS6.hd) rfl ⟨.slice none 0 0, rfl, (hS6.sub (.cons _ (.cons _ (.cons _ .slnil)))).nilRow _⟩
    | true =>
      have hc2 := isC_iff.1 h2
      have m1 := hc2.1
      have m6 := hc2.2.1
      have HY := hid hc2.2.2.1
      by_cases h6 : 6 < n + m
      · have E : fitB n xs m ys = false := by rw [fitB, h1, h2]; simp; omega
        rw [E]
        clear E hc1 hc2
        unfold cx
        go_enter Try.func48, Try.ntmps48
        go_wp2_with fail
        refine (IsComplex_c n _ xs _ ha').mono ?_
        rw [h1]
        rintro e w1 ⟨rfl, hB⟩
        have HS1 := hid (HS.out.quiet hB)
        have d0 := HS1.out.hd2.c0
        have d1 := HS1.out.hd2.c1
        have hb1 := HS1.out.old hb
        clear hB
        go_wp2_with fail
        refine (IsComplex_c m _ ys _ hb1).mono ?_
        rw [h2]
        rintro e w2 ⟨rfl, hB⟩
        have HS2 := hid (HS1.out.quiet hB)
        have f0 := HS2.out.hd.c0
        have f1 := HS2.out.hd.c1
        have g0 := HS2.out.hd2.c0
        have g1 := HS2.out.hd3.c0
        have s0 : w2.frozen? ⟨w.heap.size + 2, 0, none⟩ = false := HS2.out.own.free (v := bx (w.heap.size + 2)) (.head _) 0 (by simp)
        have s1 : w2.frozen? ⟨w.heap.size + 2, 1, none⟩ = false := HS2.out.own.free (v := bx (w.heap.size + 2)) (.head _) 1 (by simp)
        clear hB
        go_wp2_with fail
        have hS6 := (HS2.out.set 0 (by simp) (.int .i64 0)).set 1 (by simp) (.slice none 0 0)
        exact bodyPost_ret (ret_cx2 rfl rfl rfl hS6.hd) rfl ⟨.slice none 0 0, rfl, (hS6.sub (.cons _ (.cons _ (.cons _ .slnil)))).nilRow _⟩
      · have E : fitB n xs m ys = true := by rw [fitB, h1, h2]; simp; omega
        rw [E]
        clear E hc1 hc2
        have n0 : 0 ≤ n := by omega
        have m0 : 0 ≤ m := by omega
        have hle : n + m ≤ 6 := by omega
        have EL : Hid (maxL (dn (mem (disTo n xs ys ys.length))) = disL n xs ys) := maxL_dn _
        unfold cx
        go_enter Try.func48, Try.ntmps48
        go_wp2_with fail
        refine (IsComplex_c n _ xs _ ha').mono ?_
        rw [h1]
        rintro e w1 ⟨rfl, hB⟩
        have HS1 := hid (HS.out.quiet hB)
        have d0 := HS1.out.hd2.c0
        have d1 := HS1.out.hd2.c1
        have hb1 := HS1.out.old hb
        clear hB
        go_wp2_with fail
        refine (IsComplex_c m _ ys _ hb1).mono ?_
        rw [h2]
        rintro e w2 ⟨rfl, hB⟩
        have HS2 := hid (HS1.out.quiet hB)
        have f0 := HS2.out.hd2.c0
        have f1 := HS2.out.hd2.c1
        have g0 := HS2.out.hd3.c0
        have g1 := HS2.out.hd3.c1
        have ha2 := HS2.out.old ha
        clear hB h1 h2
        go_wp2_with fail
        refine (facesIn_c n _ xs _ ha2 (fun x hx => by have := HX.out x hx; have := pw_rng n0 (show n ≤ 6 by omega); omega)).mono ?_
        rintro e w3 ⟨rfl, hB⟩
        have HS3 := hid (HS2.out.quiet hB)
        clear f0 f1 g0 g1
        have f0 := HS3.out.hd2.c0
        have f1 := HS3.out.hd2.c1
        have g0 := HS3.out.hd3.c0
        have g1 := HS3.out.hd3.c1
        have hb2 := HS3.out.old hb
        have lb := hb2.iln tI
        have ll2 := hb2.ile
        have E0 : Hid (fam (dn (mem (disTo n xs ys 0))) = fam (dn (mem xs))) := by show _ = _; rw [disTo_zero]
        have u1 : IntKind.u64.wrap n = n := IntWalk.u64_in n (by omega)
        clear hB
        go_wp2_with fail
        go_loop [6, 31] (fun f i => ∃ (k : Nat), k ≤ ys.length ∧ i = .int .i64 k ∧ f = .int .u64 (fam (dn (mem (disTo n xs ys k))))) (fun _ i => ys.length - (intOf i).toNat)
        case atStart => exact ⟨0, by omega, rfl, by rw [E0.out]⟩
        case round =>
          obtain ⟨k, hk, rfl, rfl⟩ := hrel
          by_cases hlk : k < ys.length
          · have b1 := hb2.iix tI k hlk
            have b2 := hb2.intCell k hlk
            obtain ⟨t0, t1⟩ := HY.out _ (gi_mem hlk)
            obtain ⟨q1, q2, q3⟩ := shl_fit n0 m0 hle t0 t1
            have E2 : Hid (bits .or .u64 (fam (dn (mem (disTo n xs ys k)))) (fam (subP (gi ys k * pw n))) = fam (dn (mem (disTo n xs ys (k + 1))))) := by
              show _ = _
              rw [fam_or, disTo_succ n xs ys hlk]
              refine fam_congr fun s _ _ => (dn_snoc ?_ s).symm
              intro y hy
              rcases List.mem_append.1 hy with hy | hy
              · refine disTo_rng n0 m0 hle HX.out HY.out y ?_
                unfold disTo at hy ⊢
                rw [List.take_length]
                rcases List.mem_append.1 hy with hy | hy
                · exact List.mem_append_left _ hy
                · obtain ⟨z, hz, rfl⟩ := List.mem_map.1 hy
                  exact List.mem_append_right _ (List.mem_map.2 ⟨z, List.mem_of_mem_take hz, rfl⟩)
              · rw [List.mem_singleton.1 hy]; exact ⟨q2, q3⟩
            go_wp2_with (go_at_call 137; refine (subsetFamily_c _ _ q2 q3).mono ?_; rintro e w' ⟨rfl, rfl⟩)
            go_round
            case rel => exact ⟨k + 1, by omega, by go_num, by rw [E2.out]⟩
            case measure => simp [intOf]; omega
          · have ek : k = ys.length := by omega
            subst ek
            go_wp2_with fail
            refine (complexOf_c _ _ _).mono ?_
            rintro e w4 ⟨v2, rfl, hS4⟩
            have hS5 := HS3.out.call1 hS4
            obtain ⟨p, l, c, rfl⟩ := hS5.hd.form
            have i0 := hS5.hd2.c0
            have i1 := hS5.hd2.c1
            have s0 : w4.frozen? ⟨w.heap.size + 2, 0, none⟩ = false := hS5.own.free (v := bx (w.heap.size + 2)) (.tail _ (.head _)) 0 (by simp)
            have s1 : w4.frozen? ⟨w.heap.size + 2, 1, none⟩ = false := hS5.own.free (v := bx (w.heap.size + 2)) (.tail _ (.head _)) 1 (by simp)
            have HS5 := hid hS5
            clear hS5 hS4
            unfold cx
            go_wp2_with fail
            have hS6 := ((HS5.out.bring (l1 := [_])).set 0 (by simp) (.int .i64 (n + m))).set 1 (by simp) (.slice p l c)
            refine bodyPost_ret (ret_cx2 rfl rfl rfl hS6.hd) rfl ⟨.slice p l c, rfl, ?_⟩
            show St _ _ [⟨_, _, ints (disL n xs ys)⟩]
            rw [← EL.out]
            exact hS6.sub (.cons _ (.cons_cons _ (.cons _ (.cons _ .slnil))))

end Go.Proofs.Ytjaofbdfhcgmeaa
