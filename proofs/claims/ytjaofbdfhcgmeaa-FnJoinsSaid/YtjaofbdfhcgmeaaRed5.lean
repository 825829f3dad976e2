/-
  Elimination modulo a prime: the reference's reduction and rank.
-/
import Derived.Test.YtjaofbdfhcgmeaaRed4
namespace Go.Proofs.Ytjaofbdfhcgmeaa
open Go.RowKit

def effW (M : List (List Int)) (W : Nat) : Nat := if M.length = 0 then 0 else W
theorem swapR_comm {A : List (List Int)} {a b : Nat} (ha : a < A.length) (hb : b < A.length) : swapR A a b = swapR A b a := ext_gr' (by simp [swapR]) fun k hk => by
  rw [swapR_gr ha hb, swapR_gr hb ha]
  by_cases h1 : k = b
  · subst h1
    by_cases h2 : k = a
    · subst h2; rfl
    · rw [if_pos rfl, if_neg h2, if_pos rfl]
  · by_cases h2 : k = a
    · subst h2; rw [if_neg h1, if_pos rfl, if_pos rfl]
    · rw [if_neg h1, if_neg h2, if_neg h2, if_neg h1]
set_option maxHeartbeats 8000000 in
set_option maxRecDepth 100000 in
theorem l13Reduce_c (va : Value) (bs : List Value) (M : List (List Int)) (W : Nat) (p : Int) (w : World) (ha : RdM w va bs M) (hp : PrimeP p) (hE : Even W M) (lM : M.length ≤ 1000) (lW : W ≤ 1000) :
    Calls Try.prog 172 #[va, .int .i64 p] w fun e w' => ∃ u v, e = .returned (.tuple #[u, v]) ∧ St w w' [⟨v, 3, ints (pivs p (effW M W) (modM p M))⟩] := by
  have la := ha.ln
  have HP := hid hp
  have hp2 : 2 ≤ p := hp.rng.1
  have hp5 : p ≤ 5 := hp.rng.2
  have HE := hid hE
  have HA := hid ha
  have HGo := hid (modM_good (p := p) hp hE)
  clear hp hE ha
  go_enter Try.func172, Try.ntmps172
  go_wp2_with fail
  go_loopw [6, 7] (fun o i wr => ∃ (i' : Nat) (u : Value) (vs : List Value), i' ≤ M.length ∧ i = .int .i64 i' ∧ o = u ∧ vs.length = (modM p (M.take i')).length ∧ St w wr (⟨u, 26, vs⟩ :: rowsOn vs (modM p (M.take i')) [])) (fun _ i _ => M.length - (intOf i).toNat)
  case atStart => exact ⟨0, _, [], by omega, rfl, rfl, by simp [modM], (St.start w).newAt #[] _ (by simp) rfl⟩
  case round =>
    obtain ⟨i, u, vs, hi, rfl, ho, hvl, hS⟩ := hrel
    have ho' := ho.symm
    subst ho'
    have HL := hid hvl
    have HS := hid hS
    have ha1 := hS.oldM HA.out
    by_cases hlt : i < M.length
    · have q0 : decide ((i : Int) < (M.length : Int)) = true := decide_eq_true (by omega)
      have hvn : vs.length = i := by rw [hvl, modM_len]; simp; omega
      have hwi := HE.out i hlt
      clear hS hvl ha1
      go_wp2_with fail
      go_loopw [8, 9] (fun o j' wr => ∃ (j : Nat) (r : Value), j ≤ W ∧ j' = .int .i64 j ∧ o = r ∧ St w wr (⟨r, 3, ints ((modRow p (gr M i)).take j)⟩ :: ⟨u, 26, vs⟩ :: rowsOn vs (modM p (M.take i)) [])) (fun _ j' _ => W - (intOf j').toNat)
      case atStart => exact ⟨0, _, by omega, rfl, rfl, HS.out.newAt #[] _ (by simp) rfl⟩
      case round =>
        obtain ⟨j, r, hj, rfl, ho, hS⟩ := hrel
        have ho' := ho.symm
        subst ho'
        obtain ⟨wo, rfl⟩ : ∃ wo : World, wo = wr := ⟨_, rfl⟩
        have HS4 := hid hS
        have ha4 := hS.oldM HA.out
        have f1 := ha4.ix i hlt
        have f2 := ha4.cell i hlt
        have hra := ha4.row i hlt
        have f3 := hra.iln tI
        rw [hwi] at f3
        by_cases hjl : j < W
        · have b1 := hra.iix tI j (by omega)
          have b2 := hra.intCell j (by omega)
          have q1 : decide ((j : Int) < (W : Int)) = true := decide_eq_true (by omega)
          obtain ⟨J, hJ⟩ : ∃ J, J = gi (gr M i) j % p := ⟨_, rfl⟩
          have E2 : Hid ((modRow p (gr M i)).take (j + 1) = (modRow p (gr M i)).take j ++ [J]) := by
            show _ = _
            rw [take_succ_gi (by rw [modRow_len]; omega), modRow_gi (by omega), hJ]
          have HC2 : Hid (∀ w : World, Calls Try.prog 151 #[.int .i64 (gi (gr M i) j), .int .i64 p] w fun e w' => e = .returned (.int .i64 J) ∧ w = w') := fun w => by rw [hJ]; exact l13Mod_c _ _ w HP.out
          have hll : ((modRow p (gr M i)).take j).length ≤ 1000 := by simp [modRow_len]; omega
          clear hS hJ hra ha4
          go_wp2_with (first | (go_at_call 151; refine (HC2.out _).mono ?_; rintro e w' ⟨rfl, rfl⟩) | (at_builtin; refine wpList_push rfl _ _ rfl tI HS4.out.own (.int .i64 J) rfl (by simp only [length_ints]; omega) rfl rfl ?_))
          intro v2 w2 hO2 hb2
          go_wp2_with fail
          go_roundw
          case rel => exact ⟨j + 1, v2, by omega, by go_num, rfl, by rw [E2.out, ints_append]; exact HS4.out.mut hO2 hb2⟩
          case measure => simp [intOf]; omega
        · have ef : Hid ((modRow p (gr M i)).take j = modRow p (gr M i)) := List.take_of_length_le (by rw [modRow_len]; omega)
          have q1 : decide ((j : Int) < (W : Int)) = false := decide_eq_false (by omega)
          obtain ⟨rp, rl, rc, hrf⟩ := hS.hd.form
          subst hrf
          clear hS hra ha4
          have E3 := hid (modM_succ (p := p) hlt)
          go_wp2_with (at_builtin; refine wpList_push rfl _ _ rfl tSS HS4.out.swap.own (.slice rp rl rc) rfl (by omega) rfl rfl ?_)
          intro v2 w2 hO2 hb2
          go_wp2_with fail
          go_roundw
          case rel =>
            have h6 := (HS4.out.swap.mut hO2 hb2)
            rw [ef.out] at h6
            have h7 := h6.snocRow HL.out
            rw [← E3.out] at h7
            exact ⟨i + 1, v2, _, by omega, by go_num, rfl, by rw [E3.out]; simp; exact HL.out, h7⟩
          case measure => simp [intOf]; omega
    · have et : M.take i = M := List.take_of_length_le (by omega)
      rw [et] at hS hvl
      have q0 : decide ((i : Int) < (M.length : Int)) = false := decide_eq_false (by omega)
      obtain ⟨N, hN⟩ : ∃ N, N = modM p M := ⟨_, rfl⟩
      have HNN := hid hN
      have hNl : N.length = M.length := by rw [hN, modM_len]
      rw [← hN] at hS hvl HGo
      have HS5 := hid hS
      have HLN := hid hvl
      have lN := hS.hd.ln tSS
      rw [hvl, hNl] at lN
      clear hN hS hvl ha1 et HS HL
      go_wp2_with fail
      have HS6 := hid ((HS5.out.newAt #[] 3 (by simp) rfl).perm rowsLift.symm)
      obtain ⟨Wd, hWd⟩ : ∃ Wd, Wd = effW M W := ⟨_, rfl⟩
      have HWd := hid hWd
      go_loopw [6, 10, 11] (fun o6 o c wr => ∃ (k : Nat) (v : Value) (us : List Value), k ≤ Wd ∧ c = .int .i64 k ∧ o = v ∧ o6 = u ∧ us.length = N.length ∧ St w wr (⟨u, 26, us⟩ :: rowsOn us (red p N k).1 [⟨v, 3, ints (red p N k).2⟩])) (fun _ _ c _ => Wd - (intOf c).toNat)
      case atStart => exact ⟨0, _, vs, by omega, rfl, rfl, rfl, HLN.out, HS6.out⟩
      case round =>
        obtain ⟨k, v, us, hk, rfl, ho, h6, hul, hS⟩ := hrel
        have ho' := ho.symm
        subst ho'
        have h6' := h6.symm
        subst h6'
        obtain ⟨A, hA⟩ : ∃ A, A = (red p N k).1 := ⟨_, rfl⟩
        obtain ⟨P, hP⟩ : ∃ P, P = (red p N k).2 := ⟨_, rfl⟩
        rw [← hA, ← hP] at hS
        have hAl : A.length = M.length := by rw [hA, ← hNl]; exact (red_len p N k).1
        have hPl : P.length ≤ M.length := by rw [hP, ← hNl]; exact red_piv p N k
        have HGA : Hid (Good p W A) := by rw [hA]; exact red_good HP.out HGo.out k
        have HA2 := hid hA
        have HPP := hid hP
        clear hA hP
        have hul2 : us.length = A.length := by omega
        have HSk := hid hS
        have hM := hS.rdM hul2
        have lu := hM.ln
        rw [hAl] at lu
        have lv := hS.dropRows.hd.iln tI
        by_cases h0 : M.length = 0
        · have q3 : decide ((0 : Int) < (M.length : Int)) = false := decide_eq_false (by omega)
          have hWd0 : Wd = 0 := by rw [hWd, effW, if_pos h0]
          have EP : Hid (pivs p Wd N = P) := by show _ = _; rw [pivs, HPP.out, show Wd = k by omega]
          clear hS hM hWd
          go_wp2_with fail
          go_ret2
          exact ⟨_, v, rfl, by rw [← HWd.out, ← HNN.out, EP.out]; exact HSk.out.dropRows⟩
        · have q3 : decide ((0 : Int) < (M.length : Int)) = true := decide_eq_true (by omega)
          have hWd0 : Wd = W := by rw [hWd, effW, if_neg h0]
          clear hWd
          have e1 := hM.ix 0 (by omega)
          have e2 := hM.cell 0 (by omega)
          have hr0 := hM.row 0 (by omega)
          have e3 := hr0.iln tI
          rw [(HGA.out 0 (by omega)).1] at e3
          rw [show ((0 : Nat) : Int) = 0 from rfl] at e1
          clear hr0
          by_cases hkW : k < W
          · have q0 : decide ((k : Int) < (W : Int)) = true := decide_eq_true (by omega)
            by_cases hd : P.length < M.length
            · have q1 : decide ((P.length : Int) < (M.length : Int)) = true := decide_eq_true (by omega)
              obtain ⟨d, hdd⟩ : ∃ d, d = P.length := ⟨_, rfl⟩
              have HD := hid hdd
              rw [← hdd] at lv q1 hd
              have HMh := hid hM
              clear hS hM hdd
              go_wp2_with fail
              clear e1 e2 e3
              go_loop [13] (fun a => ∃ t : Nat, d ≤ t ∧ t ≤ M.length ∧ a = .int .i64 t ∧ Hid (∀ s, d ≤ s → s < t → gi (gr A s) k = 0)) (fun a => M.length - (intOf a).toNat)
              case atStart => exact ⟨d, by omega, by omega, rfl, fun s h1 h2 => by omega⟩
              case round =>
                obtain ⟨t, ht1, ht2, rfl, hN⟩ := hrel
                by_cases htl : t < M.length
                · have f1 := HMh.out.ix t (by omega)
                  have f2 := HMh.out.cell t (by omega)
                  have hrt := HMh.out.row t (by omega)
                  have hwt := (HGA.out t (by omega)).1
                  have g1 := hrt.iix tI k (by omega)
                  have g2 := hrt.intCell k (by omega)
                  have qt : decide ((t : Int) < (M.length : Int)) = true := decide_eq_true (by omega)
                  by_cases hz : gi (gr A t) k = 0
                  · have dz : (gi (gr A t) k == 0) = true := by simp [hz]
                    have N2 : Hid (∀ s, d ≤ s → s < t + 1 → gi (gr A s) k = 0) := fun s h1 h2 => by
                      by_cases e : s = t
                      · subst e; exact hz
                      · exact hN.out s h1 (by omega)
                    clear hz hrt hwt
                    go_wp2_with fail
                    go_round
                    case rel => exact ⟨t + 1, by omega, by omega, by go_num, N2⟩
                    case measure => simp [intOf]; omega
                  · have dz : (gi (gr A t) k == 0) = false := by simp [hz]
                    have hat : IsAt A P.length k t := ⟨by rw [← HD.out]; exact ht1, by omega, fun s h1 h2 => hN.out s (by rw [HD.out]; exact h1) h2, fun _ => hz⟩
                    have ER : Hid (red p N (k + 1) = (stepM p A d k t, P ++ [(k : Int)])) := by
                      show _ = _
                      rw [HA2.out, HPP.out] at hat
                      rw [red_some hat (by omega), ← HA2.out, ← HPP.out, ← HD.out]
                    have qe : ((t : Int) == (M.length : Int)) = false := by rw [beq_eq_false_iff_ne]; omega
                    obtain ⟨pt, lt, ct, et⟩ := hrt.form
                    obtain ⟨pd, ld, cd, ed⟩ := (HMh.out.row d (by omega)).form
                    have i1 := HMh.out.ix d (by omega)
                    have i2 := HMh.out.cell d (by omega)
                    rw [ed] at i2
                    rw [et] at f2 g1 g2
                    have i3 : wr.frozen? (adr u t) = false := HSk.out.own.free (.head _) t (by omega)
                    have hSa := HSk.out.set t (by omega) (.slice pd ld cd)
                    have j2 : (wr.setCell (adr u t) (.slice pd ld cd)).cell? (adr u d) = some (gv (us.set t (.slice pd ld cd)) d) := by
                      rw [hSa.hd.cell d (by simp; omega), gv_get (by simp; omega)]
                    have j3 : (wr.setCell (adr u t) (.slice pd ld cd)).frozen? (adr u d) = false := hSa.own.free (.head _) d (by simp; omega)
                    have hSb := (hSa.set d (by simp; omega) (.slice pt lt ct)).swapRows hul2 (a := t) (b := d) (by omega) (by omega)
                    rw [← et, ← ed, show (us.set t (gv us d)).set d (gv us t) = swapV us t d from rfl, et, ed] at hSb
                    have esw : swapR A t d = swapR A d t := swapR_comm (by omega) (by omega)
                    rw [esw] at hSb
                    have hgB := swapR_good HGA.out (a := d) (b := t) (by omega) (by omega)
                    have hBl : (swapR A d t).length = M.length := by rw [swapR_len]; exact hAl
                    have hVl : (swapV us t d).length = M.length := by rw [swapV_len]; omega
                    have EST : Hid (stepM p A d k t = clrTo p (pivM p (swapR A d t) d k) d k (swapR A d t).length) := by show _ = _; rw [stepM, swapR_len]
                    generalize swapR A d t = B at *
                    generalize swapV us t d = Vs at *
                    have HSb := hid hSb
                    have HGB := hid hgB
                    clear hz hrt hwt et ed hat hSa hSb hgB esw
                    go_wp2_with fail
                    refine (l13Clear_c u Vs B W d k p _ _ _ HSb.out (by omega) HP.out HGB.out (by omega) hkW (by omega) lW).mono ?_
                    rintro e w5 ⟨rfl, hS5⟩
                    rw [← EST.out] at hS5
                    have HS7 := hid (hS5.perm rowsLift)
                    have hP1 : P.length ≤ 1000 := by omega
                    clear hS5
                    go_wp2_with (at_builtin; refine wpList_push rfl _ _ rfl tI HS7.out.own (.int .i64 (k : Int)) rfl (by simp; omega) rfl rfl ?_)
                    intro v2 w2 hO2 hb2
                    have hS8 := HS7.out.mut hO2 hb2
                    rw [ints_snoc] at hS8
                    have HS8 := hid (hS8.perm rowsLift.symm)
                    clear hS8 hO2 hb2
                    go_wp2_with fail
                    go_roundw
                    case rel => exact ⟨k + 1, v2, Vs, by omega, by go_num, rfl, rfl, by omega, by rw [ER.out]; exact HS8.out⟩
                    case measure => simp [intOf]; omega
                · have et : t = M.length := by omega
                  have hat : IsAt A P.length k t := ⟨by rw [← HD.out]; exact ht1, by omega, fun s h1 h2 => hN.out s (by rw [HD.out]; exact h1) h2, fun h => by omega⟩
                  have ER : Hid (red p N (k + 1) = red p N k) := by
                    show _ = _
                    rw [HA2.out, HPP.out] at hat
                    exact red_none hat (by omega)
                  have qe : ((t : Int) == (M.length : Int)) = true := by rw [beq_iff_eq]; omega
                  have qt : decide ((t : Int) < (M.length : Int)) = false := decide_eq_false (by omega)
                  clear hat et
                  go_wp2_with fail
                  go_roundw
                  case rel => exact ⟨k + 1, v, us, by omega, by go_num, rfl, rfl, hul, by rw [ER.out, ← HA2.out, ← HPP.out]; exact HSk.out⟩
                  case measure => simp [intOf]; omega
            · have q1 : decide ((P.length : Int) < (M.length : Int)) = false := decide_eq_false (by omega)
              have EP : Hid (pivs p Wd N = P) := by
                show _ = _
                have h := red_stop (p := p) (M := N) (c := k) (by rw [← HPP.out]; omega) (Wd - k)
                rw [show k + (Wd - k) = Wd by omega] at h
                rw [pivs, h, ← HPP.out]
              clear hS hM
              go_wp2_with fail
              go_ret2
              exact ⟨_, v, rfl, by rw [← HWd.out, ← HNN.out, EP.out]; exact HSk.out.dropRows⟩
          · have q0 : decide ((k : Int) < (W : Int)) = false := decide_eq_false (by omega)
            have EP : Hid (pivs p Wd N = P) := by show _ = _; rw [pivs, HPP.out, show Wd = k by omega]
            clear hS hM
            go_wp2_with fail
            go_ret2
            exact ⟨_, v, rfl, by rw [← HWd.out, ← HNN.out, EP.out]; exact HSk.out.dropRows⟩

theorem rankR_eq {p : Int} {M : List (List Int)} {W : Nat} (hE : Even W M) : ((pivs p (effW M W) (modM p M)).length : Int) = rankR p M := by
  by_cases h : M.length = 0
  · have h1 := red_piv p (modM p M) (gr M 0).length
    have h2 := red_piv p (modM p M) 0
    rw [modM_len] at h1 h2
    rw [effW, if_pos h, rankR, pivs, pivs]; omega
  · rw [effW, if_neg h, rankR, hE 0 (by omega)]

set_option maxHeartbeats 4000000 in
theorem l13Rank_c (va : Value) (bs : List Value) (M : List (List Int)) (W : Nat) (p : Int) (w : World) (ha : RdM w va bs M) (hp : PrimeP p) (hE : Even W M) (lM : M.length ≤ 1000) (lW : W ≤ 1000) :
    Calls Try.prog 134 #[va, .int .i64 p] w fun e w' => e = .returned (.int .i64 (rankR p M)) ∧ Below w.heap.size w w' := by
  have E := hid (rankR_eq (p := p) hE)
  have HH := hid (l13Reduce_c va bs M W p w ha hp hE lM lW)
  clear ha hp hE
  go_enter Try.func134, Try.ntmps134
  go_wp2_with fail
  refine HH.out.mono ?_
  rintro e w1 ⟨u, v, rfl, hS1⟩
  have lv := hS1.hd.iln tI
  have HS1 := hid hS1
  clear hS1
  go_wp2_with fail
  go_ret
  exact ⟨by rw [← E.out]; rfl, HS1.out.bel⟩

end Go.Proofs.Ytjaofbdfhcgmeaa
