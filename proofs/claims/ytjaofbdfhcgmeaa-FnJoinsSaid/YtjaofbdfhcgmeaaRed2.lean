/-
  Elimination modulo a prime: the program's walk.
-/
import Derived.Test.YtjaofbdfhcgmeaaRed
import Derived.Test.YtjaofbdfhcgmeaaMLaws
import Derived.Test.YtjaofbdfhcgmeaaCx
namespace Go.Proofs.Ytjaofbdfhcgmeaa
open Go.RowKit

set_option maxHeartbeats 16000000 in
set_option maxRecDepth 100000 in
theorem reduceMod_c (u : Value) (vs : List Value) (M : List (List Int)) (W : Nat) (p : Int) (w0 w : World) (hS : St w0 w (⟨u, 26, vs⟩ :: rowsOn vs M [])) (hl : vs.length = M.length) (hp : PrimeP p) (hg : Good p W M) (lM : M.length ≤ 1000) (lW : W ≤ 1000) :
    Calls Try.prog 177 #[u, .int .i64 (W : Int), .int .i64 p] w fun e w' => ∃ v, e = .returned v ∧ St w0 w' [⟨v, 3, ints (pivs p W M)⟩] := by
  have hp2 : 2 ≤ p := hp.rng.1
  have hp5 : p ≤ 5 := hp.rng.2
  have HS0 := hid ((hS.nilRow 3).perm rowsLift.symm)
  have HL0 := hid hl
  have HP := hid hp
  have HG := hid hg
  clear hS hl hp hg
  go_enter Try.func177, Try.ntmps177
  go_wp2_with fail
  go_loopw [7, 8] (fun o c wr => ∃ (k : Nat) (v : Value) (us : List Value), k ≤ W ∧ c = .int .i64 k ∧ o = v ∧ us.length = M.length ∧ St w0 wr (⟨u, 26, us⟩ :: rowsOn us (red p M k).1 [⟨v, 3, ints (red p M k).2⟩])) (fun _ c _ => W - (intOf c).toNat)
  case atStart => exact ⟨0, _, vs, by omega, rfl, rfl, HL0.out, HS0.out⟩
  case round =>
    obtain ⟨k, v, us, hk, rfl, ho, hul, hS⟩ := hrel
    have ho' := ho.symm
    subst ho'
    obtain ⟨A, hA⟩ : ∃ A, A = (red p M k).1 := ⟨_, rfl⟩
    obtain ⟨P, hP⟩ : ∃ P, P = (red p M k).2 := ⟨_, rfl⟩
    rw [← hA, ← hP] at hS
    have hAl : A.length = M.length := by rw [hA]; exact (red_len p M k).1
    have hPl : P.length ≤ M.length := by rw [hP]; exact red_piv p M k
    have HGA : Hid (Good p W A) := by rw [hA]; exact red_good HP.out HG.out k
    have HA := hid hA
    have HPP := hid hP
    clear hA hP
    have hul2 : us.length = A.length := by omega
    have HS := hid hS
    have hM := hS.rdM hul2
    have lu := hM.ln
    rw [hAl] at lu
    have lv := hS.dropRows.hd.iln tI
    by_cases hkW : k < W
    · have q0 : decide ((k : Int) < (W : Int)) = true := decide_eq_true (by omega)
      by_cases hd : P.length < M.length
      · have q1 : decide ((P.length : Int) < (M.length : Int)) = true := decide_eq_true (by omega)
        obtain ⟨d, hdd⟩ : ∃ d, d = P.length := ⟨_, rfl⟩
        have HD := hid hdd
        rw [← hdd] at lv q1 hd
        have HMh := hid hM
        clear hS hM hdd
        go_wp2_with fail
        go_loop [10] (fun a => ∃ t : Nat, d ≤ t ∧ t ≤ M.length ∧ a = .int .i64 t ∧ Hid (∀ s, d ≤ s → s < t → gi (gr A s) k = 0)) (fun a => M.length - (intOf a).toNat)
        case atStart => exact ⟨d, by omega, by omega, rfl, fun s h1 h2 => by omega⟩
        case round =>
          obtain ⟨t, ht1, ht2, rfl, hN⟩ := hrel
          by_cases htl : t < M.length
          · have f1 := HMh.out.ix t (by omega)
            have f2 := HMh.out.cell t (by omega)
            have hrt := HMh.out.row t (by omega)
            have hwt := (HGA.out t (by omega)).1
            have g1 := hrt.iix tI k (by omega)
            have g2 := hrt.intCell k (by omega)
            have qt : decide ((t : Int) < (M.length : Int)) = true := decide_eq_true (by omega)
            by_cases hz : gi (gr A t) k = 0
            · have dz : (gi (gr A t) k == 0) = true := by simp [hz]
              have N2 : Hid (∀ s, d ≤ s → s < t + 1 → gi (gr A s) k = 0) := fun s h1 h2 => by
                by_cases e : s = t
                · subst e; exact hz
                · exact hN.out s h1 (by omega)
              clear hz hrt hwt
              go_wp2_with fail
              go_round
              case rel => exact ⟨t + 1, by omega, by omega, by go_num, N2⟩
              case measure => simp [intOf]; omega
            · have dz : (gi (gr A t) k == 0) = false := by simp [hz]
              have hat : IsAt A P.length k t := ⟨by rw [← HD.out]; exact ht1, by omega, fun s h1 h2 => hN.out s (by rw [HD.out]; exact h1) h2, fun _ => hz⟩
              have ER : Hid (red p M (k + 1) = (stepM p A d k t, P ++ [(k : Int)])) := by
                show _ = _
                rw [HA.out, HPP.out] at hat
                rw [red_some hat htl, ← HA.out, ← HPP.out, ← HD.out]
              have qe : ((t : Int) == (M.length : Int)) = false := by rw [beq_eq_false_iff_ne]; omega
              obtain ⟨pt, lt, ct, et⟩ := hrt.form
              obtain ⟨pd, ld, cd, ed⟩ := (HMh.out.row d (by omega)).form
              have i1 := HMh.out.ix d (by omega)
              have i2 := HMh.out.cell d (by omega)
              rw [ed] at i2
              rw [et] at f2 g1 g2
              have i3 : wr.frozen? (adr u d) = false := HS.out.own.free (.head _) d (by omega)
              have hSa := HS.out.set d (by omega) (.slice pt lt ct)
              have j2 : (wr.setCell (adr u d) (.slice pt lt ct)).cell? (adr u t) = some (gv (us.set d (.slice pt lt ct)) t) := by
                rw [hSa.hd.cell t (by simp; omega), gv_get (by simp; omega)]
              have j3 : (wr.setCell (adr u d) (.slice pt lt ct)).frozen? (adr u t) = false := hSa.own.free (.head _) t (by simp; omega)
              have hSb := (hSa.set t (by simp; omega) (.slice pd ld cd)).swapRows hul2 (a := d) (b := t) (by omega) (by omega)
              rw [← et, ← ed, show (us.set d (gv us t)).set t (gv us d) = swapV us d t from rfl, et, ed] at hSb
              have hgB := swapR_good HGA.out (a := d) (b := t) (by omega) (by omega)
              have hBl : (swapR A d t).length = M.length := by rw [swapR_len]; exact hAl
              have hVl : (swapV us d t).length = M.length := by rw [swapV_len]; exact hul
              have EST : Hid (stepM p A d k t = clrTo p (pivM p (swapR A d t) d k) d k (swapR A d t).length) := by show _ = _; rw [stepM, swapR_len]
              generalize swapR A d t = B at *
              generalize swapV us d t = Vs at *
              have HSb := hid hSb
              have HGB := hid hgB
              have hMb := hSb.rdM (by omega)
              have k1 := hMb.cell d (by omega)
              have hrb := hMb.row d (by omega)
              have hwb := (hgB d (by omega)).1
              have k2 := hrb.iix tI k (by omega)
              have k3 := hrb.intCell k (by omega)
              have k4 := hrb.iln tI
              have hI := invB_rng (a := gi (gr B d) k) HP.out
              rw [hwb] at k4
              clear hz hrt hwt et ed hat hSa hSb hgB hMb hrb
              go_wp2_with fail
              go_region
              go_wp2_with (go_at_call 79; refine (InverseMod_c _ _ _).mono ?_; rintro e w' ⟨rfl, rfl⟩)
              have EF : Hid (pivM p B d k = B.set d (scaleRow p (invB (gi (gr B d) k) p) (gr B d))) := rfl
              generalize invB (gi (gr B d) k) p = f at *
              have hol : (gr B d).length = W := hwb
              have HOR : Hid (∀ j, 0 ≤ gi (gr B d) j ∧ gi (gr B d) j < p) := (HGB.out d (by omega)).2
              have hnl : (scaleRow p f (gr B d)).length = W := by rw [scaleRow_len]; exact hol
              have HNG : Hid (∀ j, j < W → gi (scaleRow p f (gr B d)) j = gi (gr B d) j * f % p) := fun j hj => scaleRow_gi (by omega)
              generalize scaleRow p f (gr B d) = nw at *
              have E0 : Hid (B.set d (mixTo nw (gr B d) 0) = B) := by show _ = _; rw [mixTo_zero, set_gr (by omega)]
              have HSd := hid (HSb.out.drewN 1)
              clear k1 k2 k3 k4 i2 i3 j2 j3 f1 f2 g1 g2 i1 hwb
              go_loopw [79] (fun c wr => ∃ j : Nat, j ≤ W ∧ c = .int .i64 j ∧ St w0 wr (⟨u, 26, Vs⟩ :: rowsOn Vs (B.set d (mixTo nw (gr B d) j)) [⟨v, 3, ints P⟩])) (fun c _ => W - (intOf c).toNat)
              case atStart => exact ⟨0, by omega, rfl, by rw [E0.out]; exact HSd.out⟩
              case round =>
                obtain ⟨j, hj, rfl, hS⟩ := hrel
                obtain ⟨wo, rfl⟩ : ∃ wo : World, wo = wr := ⟨_, rfl⟩
                have hl2 : Vs.length = (B.set d (mixTo nw (gr B d) j)).length := by rw [List.length_set]; omega
                have hd2 : d < (B.set d (mixTo nw (gr B d) j)).length := by rw [List.length_set]; omega
                have eg : gr (B.set d (mixTo nw (gr B d) j)) d = mixTo nw (gr B d) j := by rw [gr_set (by omega), if_pos rfl]
                have hMj := hS.rdM hl2
                have a1 := hMj.ix d hd2
                have a2 := hMj.cell d hd2
                have hrw := hMj.row d hd2
                rw [eg] at hrw
                by_cases hjW : j < W
                · have hjl : j < (mixTo nw (gr B d) j).length := by rw [mixTo_len]; omega
                  have a3 := hrw.iix tI j hjl
                  have a4 := hrw.intCell j hjl
                  rw [mixTo_gi (by omega), if_neg (by omega)] at a4
                  have a5 : wo.frozen? (adr (gv Vs d) j) = false := hS.freeRow hl2 hd2 (by rw [eg]; exact hjl)
                  have hS5 := (hS.drewN 1).setAt hl2 hd2 (j := j) (by rw [eg]; exact hjl) (gi nw j)
                  rw [eg, set_set', mixTo_succ (by omega)] at hS5
                  have HS5 := hid hS5
                  obtain ⟨x0, x1⟩ := HOR.out j
                  obtain ⟨m0, m1⟩ := small_mul (a := gi (gr B d) j) (b := f) x0 (by omega) hI.1 hI.2
                  have en := HNG.out j hjW
                  obtain ⟨T, hT⟩ : ∃ T, T = gi (gr B d) j * f := ⟨_, rfl⟩
                  have hT2 : gi (gr B d) j * f = T := hT.symm
                  rw [hT2] at m0 m1 en
                  have t1 : IntKind.i64.wrap T = T := IntWalk.i64_in T (by omega)
                  have t2 : Int.tmod T p = gi nw j := by rw [Int.tmod_eq_emod_of_nonneg m0, en]
                  have n0 : 0 ≤ gi nw j := by rw [en]; exact Int.emod_nonneg _ (by omega)
                  have n1 : gi nw j < p := by rw [en]; exact Int.emod_lt_of_pos _ (by omega)
                  have t3 : IntKind.i64.wrap (gi nw j) = gi nw j := IntWalk.i64_in _ (by omega)
                  have qj : decide ((j : Int) < (W : Int)) = true := decide_eq_true (by omega)
                  clear hS hS5 hMj hrw eg hl2 hd2 hT en
                  go_wp2_with fail
                  go_region
                  all_goals
                    go_wp2_with fail
                    go_roundw
                    case rel => exact ⟨j + 1, by omega, by go_num, HS5.out⟩
                    case measure => simp [intOf]; omega
                · have ef : Hid (B.set d (mixTo nw (gr B d) j) = pivM p B d k) := by show _ = _; rw [EF.out, mixTo_all (by omega) (by omega)]
                  have qj : decide ((j : Int) < (W : Int)) = false := decide_eq_false (by omega)
                  have HGC := pivM_good (col := k) HP.out HGB.out (d := d) (by omega)
                  have hCl : (pivM p B d k).length = M.length := by rw [pivM_len]; exact hBl
                  rw [ef.out] at hS
                  have EST2 := EST.out
                  generalize pivM p B d k = C at *
                  have HGC' := hid HGC
                  have EC0 := hid (clrTo_zero p C d k)
                  have HSC := hid hS
                  have lC := (hS.rdM (by omega)).ln
                  rw [hCl] at lC
                  have HEST := hid EST2
                  clear hS hl2 hd2 eg hMj a1 a2 hrw EST EST2 HGC
                  go_wp2_with fail
                  go_loopw [102] (fun c wr => ∃ i : Nat, i ≤ M.length ∧ c = .int .i64 i ∧ St w0 wr (⟨u, 26, Vs⟩ :: rowsOn Vs (clrTo p C d k i) [⟨v, 3, ints P⟩])) (fun c _ => M.length - (intOf c).toNat)
                  case atStart => exact ⟨0, by omega, rfl, by rw [EC0.out]; exact HSC.out⟩
                  case round =>
                    obtain ⟨i, hi, rfl, hS⟩ := hrel
                    have hl2 : Vs.length = (clrTo p C d k i).length := by rw [clrTo_len]; omega
                    have HSi := hid hS
                    by_cases hiM : i < M.length
                    · have qi : decide ((i : Int) < (M.length : Int)) = true := decide_eq_true (by omega)
                      have hMi := hS.rdM hl2
                      have hi2 : i < (clrTo p C d k i).length := by rw [clrTo_len]; omega
                      have hd2 : d < (clrTo p C d k i).length := by rw [clrTo_len]; omega
                      have ei : gr (clrTo p C d k i) i = gr C i := clrTo_row (by omega) (.inl (Nat.le_refl _))
                      have ed : gr (clrTo p C d k i) d = gr C d := clrTo_row (by omega) (.inr rfl)
                      have a1 := hMi.ix i hi2
                      have a2 := hMi.cell i hi2
                      have hri := hMi.row i hi2
                      rw [ei] at hri
                      have hwi := (HGC'.out i (by omega)).1
                      have a3 := hri.iix tI k (by omega)
                      have a4 := hri.intCell k (by omega)
                      have a5 := hri.iln tI
                      rw [hwi] at a5
                      by_cases hid' : i = d
                      · have qd : ((i : Int) == (d : Int)) = true := by rw [beq_iff_eq]; omega
                        have ES : Hid (clrTo p C d k i = clrTo p C d k (i + 1)) := by show _ = _; rw [hid']; exact clrTo_same
                        clear hS hMi hri ei ed hi2 hd2 hid'
                        go_wp2_with fail
                        go_roundw
                        case rel => exact ⟨i + 1, by omega, by go_num, by rw [← ES.out]; exact HSi.out⟩
                        case measure => simp [intOf]; omega
                      · have qd : ((i : Int) == (d : Int)) = false := by rw [beq_eq_false_iff_ne]; omega
                        by_cases hz : gi (gr C i) k = 0
                        · have dz : (gi (gr C i) k == 0) = true := by simp [hz]
                          have ES : Hid (clrTo p C d k i = clrTo p C d k (i + 1)) := clrTo_skip HGC'.out (by omega) hid' hz
                          clear hS hMi hri ei ed hi2 hd2 hid' hz
                          go_wp2_with fail
                          go_roundw
                          case rel => exact ⟨i + 1, by omega, by go_num, by rw [← ES.out]; exact HSi.out⟩
                          case measure => simp [intOf]; omega
                        · have dz : (gi (gr C i) k == 0) = false := by simp [hz]
                          have ES : Hid ((clrTo p C d k i).set i (clearRow p (gi (gr C i) k) (gr C i) (gr C d)) = clrTo p C d k (i + 1)) := clrTo_succ (by omega) hid'
                          have hcl : (clearRow p (gi (gr C i) k) (gr C i) (gr C d)).length = W := by rw [clearRow_len]; exact hwi
                          have HCG : Hid (∀ j, j < W → gi (clearRow p (gi (gr C i) k) (gr C i) (gr C d)) j = (gi (gr C i) j - gi (gr C i) k * gi (gr C d) j) % p) := fun j hj => clearRow_gi (by omega)
                          obtain ⟨z0, z1⟩ := (HGC'.out i (by omega)).2 k
                          have hwd := (HGC'.out d (by omega)).1
                          have HRI := hid (HGC'.out i (by omega)).2
                          have HRD := hid (HGC'.out d (by omega)).2
                          generalize clearRow p (gi (gr C i) k) (gr C i) (gr C d) = nr at *
                          have EI := hid ei
                          have ED := hid ed
                          have hne := hid hid'
                          have E0i : Hid ((clrTo p C d k i).set i (mixTo nr (gr C i) 0) = clrTo p C d k i) := by show _ = _; rw [mixTo_zero, ← EI.out, set_gr hi2]
                          have hKl : (clrTo p C d k i).length = M.length := by rw [clrTo_len]; exact hCl
                          clear hS hMi hri ei ed hid' hz
                          generalize hcz : gi (gr C i) k = cz at *
                          have HCZ := hid hcz
                          clear hcz
                          have u1 : IntKind.i64.wrap (p - cz) = p - cz := IntWalk.i64_in _ (by omega)
                          go_wp2_with fail
                          clear a1 a2 a3 a4 a5
                          go_loopw [132] (fun c wr => ∃ j : Nat, j ≤ W ∧ c = .int .i64 j ∧ St w0 wr (⟨u, 26, Vs⟩ :: rowsOn Vs ((clrTo p C d k i).set i (mixTo nr (gr C i) j)) [⟨v, 3, ints P⟩])) (fun c _ => W - (intOf c).toNat)
                          case atStart => exact ⟨0, by omega, rfl, by rw [E0i.out]; exact HSi.out⟩
                          case round =>
                            obtain ⟨j, hj, rfl, hS⟩ := hrel
                            obtain ⟨wi, rfl⟩ : ∃ wi : World, wi = wr := ⟨_, rfl⟩
                            have hl3 : Vs.length = ((clrTo p C d k i).set i (mixTo nr (gr C i) j)).length := by rw [List.length_set]; exact hl2
                            have hi3 : i < ((clrTo p C d k i).set i (mixTo nr (gr C i) j)).length := by rw [List.length_set]; exact hi2
                            have hd3 : d < ((clrTo p C d k i).set i (mixTo nr (gr C i) j)).length := by rw [List.length_set]; exact hd2
                            have eg : gr ((clrTo p C d k i).set i (mixTo nr (gr C i) j)) i = mixTo nr (gr C i) j := by rw [gr_set hi2, if_pos rfl]
                            have egd : gr ((clrTo p C d k i).set i (mixTo nr (gr C i) j)) d = gr C d := by rw [gr_set hi2, if_neg (Ne.symm hne.out), ED.out]
                            by_cases hjW : j < W
                            · have hMj := hS.rdM hl3
                              have b1 := hMj.ix i hi3
                              have b2 := hMj.cell i hi3
                              have c1 := hMj.ix d hd3
                              have c2 := hMj.cell d hd3
                              have hrw := hMj.row i hi3
                              have hrd := hMj.row d hd3
                              rw [eg] at hrw
                              rw [egd] at hrd
                              have hjl : j < (mixTo nr (gr C i) j).length := by rw [mixTo_len]; omega
                              have b3 := hrw.iix tI j hjl
                              have b4 := hrw.intCell j hjl
                              rw [mixTo_gi (by omega), if_neg (by omega)] at b4
                              have c3 := hrd.iix tI j (by omega)
                              have c4 := hrd.intCell j (by omega)
                              have b5 : wi.frozen? (adr (gv Vs i) j) = false := hS.freeRow hl3 hi3 (by rw [eg]; exact hjl)
                              have hS5 := (hS.drewN 1).setAt hl3 hi3 (j := j) (by rw [eg]; exact hjl) (gi nr j)
                              rw [eg, set_set', mixTo_succ (by omega)] at hS5
                              have HS5 := hid hS5
                              obtain ⟨x0, x1⟩ := HRI.out j
                              obtain ⟨y0, y1⟩ := HRD.out j
                              have en := HCG.out j hjW
                              have ec := clear_fin (p := p) (x := gi (gr C i) j) (g := cz) (y := gi (gr C d) j) x0 y0 z0 z1 (by omega) hp5
                              obtain ⟨m0, m1⟩ := small_mul (a := p - cz) (b := gi (gr C d) j) (by omega) (by omega) y0 (by omega)
                              obtain ⟨T, hT⟩ : ∃ T, T = (p - cz) * gi (gr C d) j := ⟨_, rfl⟩
                              have hT2 : (p - cz) * gi (gr C d) j = T := hT.symm
                              rw [hT2] at m0 m1 ec
                              have t1 : IntKind.i64.wrap T = T := IntWalk.i64_in T (by omega)
                              have t1' : IntKind.i64.wrap (gi (gr C i) j + T) = gi (gr C i) j + T := IntWalk.i64_in _ (by omega)
                              have t2 : Int.tmod (gi (gr C i) j + T) p = gi nr j := by rw [ec, en]
                              have n0 : 0 ≤ gi nr j := by rw [en]; exact Int.emod_nonneg _ (by omega)
                              have n1 : gi nr j < p := by rw [en]; exact Int.emod_lt_of_pos _ (by omega)
                              have t3 : IntKind.i64.wrap (gi nr j) = gi nr j := IntWalk.i64_in _ (by omega)
                              have qj : decide ((j : Int) < (W : Int)) = true := decide_eq_true (by omega)
                              clear hS hS5 hMj hrw hrd eg egd hl3 hi3 hd3 hT en ec
                              go_wp2_with fail
                              go_region
                              all_goals
                                go_wp2_with fail
                                go_roundw
                                case rel => exact ⟨j + 1, by omega, by go_num, HS5.out⟩
                                case measure => simp [intOf]; omega
                            · have qj : decide ((j : Int) < (W : Int)) = false := decide_eq_false (by omega)
                              rw [mixTo_all (by omega) (by omega), ES.out] at hS
                              have HS6 := hid hS
                              clear hS eg egd hl3 hi3 hd3
                              go_wp2_with fail
                              go_roundw
                              case rel => exact ⟨i + 1, by omega, by go_num, HS6.out⟩
                              case measure => simp [intOf]; omega
                    · have ei : i = B.length := by omega
                      have qi : decide ((i : Int) < (M.length : Int)) = false := decide_eq_false (by omega)
                      rw [ei, ← HEST.out] at hS
                      have HS7 := hid (hS.perm rowsLift)
                      have hP1 : P.length ≤ 1000 := by omega
                      clear hS hl2
                      go_wp2_with (at_builtin; refine wpList_push rfl _ _ rfl tI HS7.out.own (.int .i64 (k : Int)) rfl (by simp; omega) rfl rfl ?_)
                      intro v2 w2 hO2 hb2
                      have hS8 := HS7.out.mut hO2 hb2
                      rw [ints_snoc] at hS8
                      have HS8 := hid (hS8.perm rowsLift.symm)
                      clear hS8 hO2 hb2
                      go_wp2_with fail
                      go_roundw
                      case rel => exact ⟨k + 1, v2, Vs, by omega, by go_num, rfl, hVl, by rw [ER.out]; exact HS8.out⟩
                      case measure => simp [intOf]; omega
          · have et : t = M.length := by omega
            have hat : IsAt A P.length k t := ⟨by rw [← HD.out]; exact ht1, by omega, fun s h1 h2 => hN.out s (by rw [HD.out]; exact h1) h2, fun h => by omega⟩
            have ER : Hid (red p M (k + 1) = red p M k) := by
              show _ = _
              rw [HA.out, HPP.out] at hat
              exact red_none hat et
            have qe : ((t : Int) == (M.length : Int)) = true := by rw [beq_iff_eq]; omega
            have qt : decide ((t : Int) < (M.length : Int)) = false := decide_eq_false (by omega)
            clear hat et
            go_wp2_with fail
            go_roundw
            case rel => exact ⟨k + 1, v, us, by omega, by go_num, rfl, hul, by rw [ER.out, ← HA.out, ← HPP.out]; exact HS.out⟩
            case measure => simp [intOf]; omega
      · have q1 : decide ((P.length : Int) < (M.length : Int)) = false := decide_eq_false (by omega)
        have EP : Hid (pivs p W M = P) := by
          show _ = _
          have h := red_stop (p := p) (M := M) (c := k) (by rw [← HPP.out]; omega) (W - k)
          rw [show k + (W - k) = W by omega] at h
          rw [pivs, h, ← HPP.out]
        clear hS hM
        go_wp2_with fail
        go_ret
        exact ⟨v, rfl, by rw [EP.out]; exact HS.out.dropRows⟩
    · have ek : k = W := by omega
      have q0 : decide ((k : Int) < (W : Int)) = false := decide_eq_false (by omega)
      have EP : Hid (pivs p W M = P) := by show _ = _; rw [pivs, HPP.out, ek]
      clear hS hM ek
      go_wp2_with fail
      go_ret
      exact ⟨v, rfl, by rw [EP.out]; exact HS.out.dropRows⟩

end Go.Proofs.Ytjaofbdfhcgmeaa
