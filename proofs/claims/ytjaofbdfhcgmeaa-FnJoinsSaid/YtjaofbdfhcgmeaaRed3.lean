/-
  Elimination modulo a prime: the reference's walk.
-/
import Derived.Test.YtjaofbdfhcgmeaaRed2
namespace Go.Proofs.Ytjaofbdfhcgmeaa
open Go.RowKit

set_option maxHeartbeats 16000000 in
set_option maxRecDepth 100000 in
theorem l13Clear_c (u : Value) (Vs : List Value) (B : List (List Int)) (W d k : Nat) (p : Int) (w0 w : World) (env : List Ent) (hS : St w0 w (⟨u, 26, Vs⟩ :: rowsOn Vs B env)) (hl : Vs.length = B.length) (hp : PrimeP p) (hg : Good p W B) (hd : d < B.length) (hk : k < W) (lM : B.length ≤ 1000) (lW : W ≤ 1000) :
    Calls Try.prog 186 #[u, .int .i64 (d : Int), .int .i64 (k : Int), .int .i64 p] w fun e w' => e = .returned u ∧ St w0 w' (⟨u, 26, Vs⟩ :: rowsOn Vs (clrTo p (pivM p B d k) d k B.length) env) := by
  have hp2 : 2 ≤ p := hp.rng.1
  have hp5 : p ≤ 5 := hp.rng.2
  have HP := hid hp
  have HGB := hid hg
  have hMb := hS.rdM hl
  have k0 := hMb.ix d hd
  have k1 := hMb.cell d hd
  have hrb := hMb.row d hd
  have hwb := (hg d hd).1
  have k2 := hrb.iix tI k (by omega)
  have k3 := hrb.intCell k (by omega)
  have hI := invB_rng (a := gi (gr B d) k) hp
  have HSd := hid hS
  clear hS hp hg hMb hrb
  go_enter Try.func186, Try.ntmps186
  go_wp2_with (go_at_call 80; refine (sInverseMod_c _ _ _).mono ?_; rintro e w' ⟨rfl, rfl⟩)
  have EF : Hid (pivM p B d k = B.set d (scaleRow p (invB (gi (gr B d) k) p) (gr B d))) := rfl
  generalize invB (gi (gr B d) k) p = f at *
  have hol : (gr B d).length = W := hwb
  have HOR : Hid (∀ j, 0 ≤ gi (gr B d) j ∧ gi (gr B d) j < p) := (HGB.out d hd).2
  have hnl : (scaleRow p f (gr B d)).length = W := by rw [scaleRow_len]; exact hol
  have HNG : Hid (∀ j, j < W → gi (scaleRow p f (gr B d)) j = gi (gr B d) j * f % p) := fun j hj => scaleRow_gi (by omega)
  generalize scaleRow p f (gr B d) = nw at *
  have E0 : Hid (B.set d (mixTo nw (gr B d) 0) = B) := by show _ = _; rw [mixTo_zero, set_gr hd]
  clear k0 k1 k2 k3 hwb
  go_loopw [10] (fun c wr => ∃ j : Nat, j ≤ W ∧ c = .int .i64 j ∧ St w0 wr (⟨u, 26, Vs⟩ :: rowsOn Vs (B.set d (mixTo nw (gr B d) j)) env)) (fun c _ => W - (intOf c).toNat)
  case atStart => exact ⟨0, by omega, rfl, by rw [E0.out]; exact HSd.out⟩
  case round =>
    obtain ⟨j, hj, rfl, hS⟩ := hrel
    obtain ⟨wo, rfl⟩ : ∃ wo : World, wo = wr := ⟨_, rfl⟩
    have hl2 : Vs.length = (B.set d (mixTo nw (gr B d) j)).length := by rw [List.length_set]; omega
    have hd2 : d < (B.set d (mixTo nw (gr B d) j)).length := by rw [List.length_set]; omega
    have eg : gr (B.set d (mixTo nw (gr B d) j)) d = mixTo nw (gr B d) j := by rw [gr_set hd, if_pos rfl]
    have hMj := hS.rdM hl2
    have a1 := hMj.ix d hd2
    have a2 := hMj.cell d hd2
    have hrw := hMj.row d hd2
    rw [eg] at hrw
    have a6 := hrw.iln tI
    rw [mixTo_len, hol] at a6
    by_cases hjW : j < W
    · have hjl : j < (mixTo nw (gr B d) j).length := by rw [mixTo_len]; omega
      have a3 := hrw.iix tI j hjl
      have a4 := hrw.intCell j hjl
      rw [mixTo_gi (by omega), if_neg (by omega)] at a4
      have a5 : wo.frozen? (adr (gv Vs d) j) = false := hS.freeRow hl2 hd2 (by rw [eg]; exact hjl)
      have hS5 := (hS.drewN 1).setAt hl2 hd2 (j := j) (by rw [eg]; exact hjl) (gi nw j)
      rw [eg, set_set', mixTo_succ (by omega)] at hS5
      have HS5 := hid hS5
      obtain ⟨x0, x1⟩ := HOR.out j
      obtain ⟨m0, m1⟩ := small_mul (a := gi (gr B d) j) (b := f) x0 (by omega) hI.1 hI.2
      have en := HNG.out j hjW
      obtain ⟨T, hT⟩ : ∃ T, T = gi (gr B d) j * f := ⟨_, rfl⟩
      have hT2 : gi (gr B d) j * f = T := hT.symm
      rw [hT2] at m0 m1 en
      have t1 : IntKind.i64.wrap T = T := IntWalk.i64_in T (by omega)
      have t2 : Int.tmod T p = gi nw j := by rw [Int.tmod_eq_emod_of_nonneg m0, en]
      have n0 : 0 ≤ gi nw j := by rw [en]; exact Int.emod_nonneg _ (by omega)
      have n1 : gi nw j < p := by rw [en]; exact Int.emod_lt_of_pos _ (by omega)
      have t3 : IntKind.i64.wrap (gi nw j) = gi nw j := IntWalk.i64_in _ (by omega)
      have qj : decide ((j : Int) < (W : Int)) = true := decide_eq_true (by omega)
      clear hS hS5 hMj hrw eg hl2 hd2 hT en
      go_wp2_with fail
      go_region
      all_goals
        go_wp2_with fail
        go_roundw
        case rel => exact ⟨j + 1, by omega, by go_num, HS5.out⟩
        case measure => simp [intOf]; omega
    · have ef : Hid (B.set d (mixTo nw (gr B d) j) = pivM p B d k) := by show _ = _; rw [EF.out, mixTo_all (by omega) (by omega)]
      have qj : decide ((j : Int) < (W : Int)) = false := decide_eq_false (by omega)
      have HGC := pivM_good (col := k) HP.out HGB.out hd
      have hCl : (pivM p B d k).length = B.length := pivM_len _ _ _ _
      rw [ef.out] at hS
      generalize hC : pivM p B d k = C at *
      have HCC := hid hC
      clear hC
      have HGC' := hid HGC
      have EC0 := hid (clrTo_zero p C d k)
      have HSC := hid hS
      clear hS hl2 hd2 eg hMj hrw HGC
      go_wp2_with fail
      clear a1 a2 a6
      go_loopw [11] (fun c wr => ∃ i : Nat, i ≤ B.length ∧ c = .int .i64 i ∧ St w0 wr (⟨u, 26, Vs⟩ :: rowsOn Vs (clrTo p C d k i) env)) (fun c _ => B.length - (intOf c).toNat)
      case atStart => exact ⟨0, by omega, rfl, by rw [EC0.out]; exact HSC.out⟩
      case round =>
        obtain ⟨i, hi, rfl, hS⟩ := hrel
        have hl2 : Vs.length = (clrTo p C d k i).length := by rw [clrTo_len]; omega
        have HSi := hid hS
        have lC := (hS.rdM hl2).ln
        rw [clrTo_len, hCl] at lC
        by_cases hiM : i < B.length
        · have qi : decide ((i : Int) < (B.length : Int)) = true := decide_eq_true (by omega)
          have hMi := hS.rdM hl2
          have hi2 : i < (clrTo p C d k i).length := by rw [clrTo_len]; omega
          have hd2 : d < (clrTo p C d k i).length := by rw [clrTo_len]; omega
          have ei : gr (clrTo p C d k i) i = gr C i := clrTo_row (by omega) (.inl (Nat.le_refl _))
          have ed : gr (clrTo p C d k i) d = gr C d := clrTo_row (by omega) (.inr rfl)
          have a1 := hMi.ix i hi2
          have a2 := hMi.cell i hi2
          have hri := hMi.row i hi2
          rw [ei] at hri
          have hwi := (HGC'.out i (by omega)).1
          have a3 := hri.iix tI k (by omega)
          have a4 := hri.intCell k (by omega)
          have HMi := hid hMi
          by_cases hid' : i = d
          · have qd : ((i : Int) != (d : Int)) = false := by simp [hid']
            have ES : Hid (clrTo p C d k i = clrTo p C d k (i + 1)) := by show _ = _; rw [hid']; exact clrTo_same
            have HRI2 := hid hri
            clear hS hMi hri ei ed hd2 hid'
            go_wp2_with fail
            clear a1 a2 a3 a4
            go_loopw [13] (fun c wr => c = .int .i64 0 ∧ St w0 wr (⟨u, 26, Vs⟩ :: rowsOn Vs (clrTo p C d k i) env)) (fun c _ => 0)
            case atStart => exact ⟨rfl, HSi.out⟩
            case round =>
              obtain ⟨rfl, hS⟩ := hrel
              have hMi := hS.rdM hl2
              have a1 := hMi.ix i hi2
              have a2 := hMi.cell i hi2
              have hri := hMi.row i hi2
              rw [clrTo_row (by omega) (.inl (Nat.le_refl _))] at hri
              have a5 := hri.iln tI
              rw [hwi] at a5
              have HSj := hid hS
              have qj0 : decide ((0 : Int) < (W : Int)) = true := decide_eq_true (by omega)
              clear hS hMi hri
              go_wp2_with fail
              go_roundw
              case rel => exact ⟨i + 1, by omega, by go_num, by rw [← ES.out]; exact HSj.out⟩
              case measure => simp [intOf]; omega
          · have qd : ((i : Int) != (d : Int)) = true := by simp; omega
            have ES : Hid ((clrTo p C d k i).set i (clearRow p (gi (gr C i) k) (gr C i) (gr C d)) = clrTo p C d k (i + 1)) := clrTo_succ (by omega) hid'
            have hcl : (clearRow p (gi (gr C i) k) (gr C i) (gr C d)).length = W := by rw [clearRow_len]; exact hwi
            have HCG : Hid (∀ j, j < W → gi (clearRow p (gi (gr C i) k) (gr C i) (gr C d)) j = (gi (gr C i) j - gi (gr C i) k * gi (gr C d) j) % p) := fun j hj => clearRow_gi (by omega)
            obtain ⟨z0, z1⟩ := (HGC'.out i (by omega)).2 k
            have hwd := (HGC'.out d (by omega)).1
            have HRI := hid (HGC'.out i (by omega)).2
            have HRD := hid (HGC'.out d (by omega)).2
            generalize clearRow p (gi (gr C i) k) (gr C i) (gr C d) = nr at *
            have EI := hid ei
            have ED := hid ed
            have hne := hid hid'
            have E0i : Hid ((clrTo p C d k i).set i (mixTo nr (gr C i) 0) = clrTo p C d k i) := by show _ = _; rw [mixTo_zero, ← EI.out, set_gr hi2]
            have hKl : (clrTo p C d k i).length = B.length := by rw [clrTo_len]; exact hCl
            clear hS hMi hri ei ed hid'
            generalize hcz : gi (gr C i) k = cz at *
            have HCZ := hid hcz
            clear hcz
            go_wp2_with fail
            clear a1 a2 a3 a4 lC
            go_loopw [13] (fun c wr => ∃ j : Nat, j ≤ W ∧ c = .int .i64 j ∧ St w0 wr (⟨u, 26, Vs⟩ :: rowsOn Vs ((clrTo p C d k i).set i (mixTo nr (gr C i) j)) env)) (fun c _ => W - (intOf c).toNat)
            case atStart => exact ⟨0, by omega, rfl, by rw [E0i.out]; exact HSi.out⟩
            case round =>
              obtain ⟨j, hj, rfl, hS⟩ := hrel
              obtain ⟨wi, rfl⟩ : ∃ wi : World, wi = wr := ⟨_, rfl⟩
              have hl3 : Vs.length = ((clrTo p C d k i).set i (mixTo nr (gr C i) j)).length := by rw [List.length_set]; exact hl2
              have hi3 : i < ((clrTo p C d k i).set i (mixTo nr (gr C i) j)).length := by rw [List.length_set]; exact hi2
              have hd3 : d < ((clrTo p C d k i).set i (mixTo nr (gr C i) j)).length := by rw [List.length_set]; exact hd2
              have eg : gr ((clrTo p C d k i).set i (mixTo nr (gr C i) j)) i = mixTo nr (gr C i) j := by rw [gr_set hi2, if_pos rfl]
              have egd : gr ((clrTo p C d k i).set i (mixTo nr (gr C i) j)) d = gr C d := by rw [gr_set hi2, if_neg (Ne.symm hne.out), ED.out]
              have hMj := hS.rdM hl3
              have b1 := hMj.ix i hi3
              have b2 := hMj.cell i hi3
              have hrw := hMj.row i hi3
              rw [eg] at hrw
              have b6 := hrw.iln tI
              rw [mixTo_len, hwi] at b6
              by_cases hjW : j < W
              · have c1 := hMj.ix d hd3
                have c2 := hMj.cell d hd3
                have hrd := hMj.row d hd3
                rw [egd] at hrd
                have hjl : j < (mixTo nr (gr C i) j).length := by rw [mixTo_len]; omega
                have b3 := hrw.iix tI j hjl
                have b4 := hrw.intCell j hjl
                rw [mixTo_gi (by omega), if_neg (by omega)] at b4
                have c3 := hrd.iix tI j (by omega)
                have c4 := hrd.intCell j (by omega)
                have b5 : wi.frozen? (adr (gv Vs i) j) = false := hS.freeRow hl3 hi3 (by rw [eg]; exact hjl)
                have hS5 := (hS.drewN 1).setAt hl3 hi3 (j := j) (by rw [eg]; exact hjl) (gi nr j)
                rw [eg, set_set', mixTo_succ (by omega)] at hS5
                have HS5 := hid hS5
                obtain ⟨x0, x1⟩ := HRI.out j
                obtain ⟨y0, y1⟩ := HRD.out j
                have en := HCG.out j hjW
                obtain ⟨m0, m1⟩ := small_mul (a := cz) (b := gi (gr C d) j) z0 (by omega) y0 (by omega)
                obtain ⟨T, hT⟩ : ∃ T, T = cz * gi (gr C d) j := ⟨_, rfl⟩
                have hT2 : cz * gi (gr C d) j = T := hT.symm
                rw [hT2] at m0 m1 en
                have t1 : IntKind.i64.wrap T = T := IntWalk.i64_in T (by omega)
                have t1' : IntKind.i64.wrap (gi (gr C i) j - T) = gi (gr C i) j - T := IntWalk.i64_in _ (by omega)
                have HCM : Hid (∀ w : World, Calls Try.prog 151 #[.int .i64 (gi (gr C i) j - T), .int .i64 p] w fun e w' => e = .returned (.int .i64 (gi nr j)) ∧ w = w') := fun w => by rw [en]; exact l13Mod_c _ _ w HP.out
                have n0 : 0 ≤ gi nr j := by rw [en]; exact Int.emod_nonneg _ (by omega)
                have n1 : gi nr j < p := by rw [en]; exact Int.emod_lt_of_pos _ (by omega)
                have qj : decide ((j : Int) < (W : Int)) = true := decide_eq_true (by omega)
                clear hS hS5 hMj hrw hrd eg egd hl3 hi3 hd3 hT en
                go_wp2_with fail
                go_region_with (go_at_call 151; refine (HCM.out _).mono ?_; rintro e w' ⟨rfl, rfl⟩)
                all_goals
                  go_wp2_with fail
                  go_roundw
                  case rel => exact ⟨j + 1, by omega, by go_num, HS5.out⟩
                  case measure => simp [intOf]; omega
              · have qj : decide ((j : Int) < (W : Int)) = false := decide_eq_false (by omega)
                rw [mixTo_all (by omega) (by omega), ES.out] at hS
                have HS6 := hid hS
                clear hS eg egd hl3 hi3 hd3 hMj hrw
                go_wp2_with fail
                go_roundw
                case rel => exact ⟨i + 1, by omega, by go_num, HS6.out⟩
                case measure => simp [intOf]; omega
        · have ei : i = B.length := by omega
          have qi : decide ((i : Int) < (B.length : Int)) = false := decide_eq_false (by omega)
          rw [ei] at hS
          have HS7 := hid hS
          clear hS hl2
          go_wp2_with fail
          go_ret
          exact ⟨rfl, by rw [HCC.out]; exact HS7.out⟩

end Go.Proofs.Ytjaofbdfhcgmeaa
