/-
  The classes of the points under the names that keep a complex: the reference's function.
-/
import Derived.Test.YtkfkmncecihflaaPts
namespace Go.Proofs.Ytkfkmncecihflaa
open Go.RowKit

set_option maxHeartbeats 4000000 in
set_option maxRecDepth 100000 in
theorem sPointClasses_c (n : Int) (va : Value) (fs : List Int) (w : World) (ha : Rd w va (ints fs)) : Calls Try.prog 40 #[cx n va] w fun e w' => ∃ v, e = .returned v ∧ St w w' [⟨v, 3, ints (pcs n fs)⟩] := by
  obtain ⟨p1, l1, k1, rfl⟩ := ha.form
  have hS := ((St.start w).box n (.slice p1 l1 k1) 38).newAt #[] 3 (by simp) (H := w.heap.size + 1) (by simp)
  have ha' := hS.old ha
  have HS := hid hS
  clear hS
  cases h1 : isC n fs with
  | false =>
    have E : Hid (pcs n fs = []) := if_neg (by simp [h1])
    unfold cx
    go_enter Try.func40, Try.ntmps40
    go_wp2_with fail
    refine (sIsComplex_c n _ fs _ ha').mono ?_
    rw [h1]
    rintro e w1 ⟨rfl, hB⟩
    have HS1 := hid (HS.out.quiet hB)
    clear hB
    go_wp2_with fail
    go_ret
    exact ⟨_, rfl, by rw [E.out]; exact HS1.out.sub (.cons_cons _ (List.nil_sublist _))⟩
  | true =>
    have E : Hid (pcs n fs = pcsTo (symL n fs) (symL n fs).length n.toNat) := if_pos h1
    have hc := isC_iff.1 h1
    have n1 := hc.1
    have n6 := hc.2.1
    have HC := hid hc
    obtain ⟨N, rfl⟩ : ∃ N : Nat, n = N := ⟨n.toNat, by omega⟩
    rw [Int.toNat_natCast] at E
    have HNM : Hid (∀ j, j < (symL N fs).length → Names N (gr (symL N fs) j)) := fun j hj => symL_names n1 n6 hj
    have hll : (symL N fs).length ≤ 46656 := symL_len n1 n6
    have HY : Hid (∀ w, Rd w (.slice p1 l1 k1) (ints fs) → Calls Try.prog 64 #[cx N (.slice p1 l1 k1)] w fun e w' => ∃ v vs, e = .returned v ∧ vs.length = (symL N fs).length ∧ St w w' (⟨v, 34, vs⟩ :: rowsOn vs (symL N fs) [])) := fun w h => l9Symmetries_c N _ fs w h HC.out
    clear hc
    obtain ⟨L, hL⟩ : ∃ L, L = symL N fs := ⟨_, rfl⟩
    rw [← hL] at HNM E hll HY
    have HX : Hid (∀ j, j < L.length → ∀ i, i < N → 0 ≤ gi (gr L j) i ∧ gi (gr L j) i ≤ 5) := fun j hj i hi => names_gi (HNM.out j hj) i (by have := (HNM.out j hj).2.2.1; omega)
    clear hL
    unfold cx
    go_enter Try.func40, Try.ntmps40
    go_wp2_with fail
    refine (sIsComplex_c N _ fs _ ha').mono ?_
    rw [h1]
    rintro e w1 ⟨rfl, hB⟩
    have HS1 := hid (HS.out.quiet hB)
    have d0 := HS1.out.hd2.c0
    have d1 := HS1.out.hd2.c1
    clear hB
    go_wp2_with fail
    refine (HY.out _ (HS1.out.old ha)).mono ?_
    rintro e w3 ⟨v, vs, rfl, hvl, hS3⟩
    have hS4 := HS1.out.callM hS3
    have lu := (hS4.rdM hvl).ln
    have HS5 := hid (hS4.bring (l1 := ⟨v, 34, vs⟩ :: rows vs L))
    have HVL := hid hvl
    clear hS3 hS4 hvl
    go_wp2_with fail
    go_loopw [3, 5] (fun o c wr => ∃ (i : Nat) (v2 : Value), i ≤ N ∧ c = .int .i64 i ∧ o = v2 ∧ St w wr (⟨v2, 3, ints (pcsTo L L.length i)⟩ :: ⟨v, 34, vs⟩ :: rowsOn vs L [⟨bx w.heap.size, 38, [.int .i64 N, .slice p1 l1 k1]⟩])) (fun _ c _ => N - (intOf c).toNat)
    case atStart => exact ⟨0, _, Nat.zero_le _, rfl, rfl, HS5.out⟩
    case round =>
      obtain ⟨i, v2, hi, rfl, rfl, hS⟩ := hrel
      have HS9 := hid hS
      have c0 := hS.tail.dropRows.hd.c0
      clear hS
      by_cases hli : i < N
      · go_wp2_with fail
        go_loop [6, 7] (fun s c => ∃ k : Nat, k ≤ L.length ∧ c = .int .i64 k ∧ s = .int .i64 (clsO L k i)) (fun _ c => L.length - (intOf c).toNat)
        case atStart => exact ⟨0, Nat.zero_le _, rfl, rfl⟩
        case round =>
          obtain ⟨k, hk, rfl, rfl⟩ := hrel
          by_cases hlt : k < L.length
          · have hM := HS9.out.tail.rdM HVL.out
            have f1 := hM.ix k hlt
            have f2 := hM.cell k hlt
            obtain ⟨pp, pl, pc', hp⟩ := (hM.row k hlt).form
            have hrow := hM.row k hlt
            rw [hp] at f2 hrow
            have hrl : (gr L k).length = N := by have := (HNM.out k hlt).2.2.1; omega
            have g1 := hrow.iix tI i (by omega)
            have g2 := hrow.intCell i (by omega)
            obtain ⟨x0, x5⟩ := HX.out k hlt i hli
            have EX : Hid (clsO L (k + 1) i = orP (clsO L k i) (gi (gr L k) i).toNat) := rfl
            clear hM hrow hp
            go_wp2_with fail
            go_round
            case rel => exact ⟨k + 1, by omega, by go_num, by rw [EX.out]; rfl⟩
            case measure => simp [intOf]; omega
          · have ek : k = L.length := by omega
            subst ek
            obtain ⟨x0, x1⟩ := clsO_rng HX.out (Nat.le_refl _) hli
            have hpl : (ints (pcsTo L L.length i)).length ≤ 6 := by have := pcsTo_len L L.length i; simp; omega
            cases hb : lowB (clsO L L.length i) i with
            | true =>
              have EP : Hid (pcsTo L L.length (i + 1) = pcsTo L L.length i ++ [clsO L L.length i]) := by show _ = _; rw [pcsTo, if_pos hb]
              have hb' : (bits .and .i64 (clsO L L.length i) (wrap64 (wrap64 (2 ^ i) - 1)) == 0) = true := hb
              clear hb
              go_wp2_with (at_builtin; refine wpList_push rfl _ _ rfl tI HS9.out.own (.int .i64 (clsO L L.length i)) rfl (by omega) rfl rfl ?_)
              intro v4 w4 hO4 hb4
              rw [ints_snoc, ← EP.out] at hO4
              have HS10 := hid (HS9.out.mut hO4 hb4)
              clear hO4 hb4
              go_wp2_with fail
              go_roundw
              case rel => exact ⟨i + 1, v4, by omega, by go_num, rfl, HS10.out⟩
              case measure => simp [intOf]; omega
            | false =>
              have EP : Hid (pcsTo L L.length (i + 1) = pcsTo L L.length i) := by show _ = _; rw [pcsTo, if_neg (by simp [hb])]
              have hb' : (bits .and .i64 (clsO L L.length i) (wrap64 (wrap64 (2 ^ i) - 1)) == 0) = false := hb
              clear hb
              go_wp2_with fail
              go_roundw
              case rel => exact ⟨i + 1, _, by omega, by go_num, rfl, by rw [EP.out]; exact HS9.out⟩
              case measure => simp [intOf]; omega
      · have ei : i = N := by omega
        subst ei
        go_wp2_with fail
        go_ret
        exact ⟨_, rfl, by rw [E.out]; exact HS9.out.sub (.cons_cons _ (List.nil_sublist _))⟩

theorem pcs_len (n : Int) (fs : List Int) : (pcs n fs).length ≤ 1000000 := by
  unfold pcs
  split
  · rename_i h
    have hc := isC_iff.1 h
    have n1 := hc.1
    have n6 := hc.2.1
    have := pcsTo_len (symL n fs) (symL n fs).length n.toNat
    omega
  · simp

end Go.Proofs.Ytkfkmncecihflaa
