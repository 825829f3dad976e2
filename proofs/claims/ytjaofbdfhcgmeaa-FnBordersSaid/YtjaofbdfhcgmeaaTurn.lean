/-
  TurnMatrix.
-/
import Derived.Test.YtjaofbdfhcgmeaaFits
import Derived.Test.YtjaofbdfhcgmeaaMLaws2
import Derived.Test.YtjaofbdfhcgmeaaCx
namespace Go.Proofs.Ytjaofbdfhcgmeaa
open Go.RowKit

/-- Column j as a row. -/
def colR (M : List (List Int)) (j : Nat) : List Int := M.map fun r => gi r j
def colsM (M : List (List Int)) : List (List Int) := (List.range (gr M 0).length).map (colR M)
def TurnOk (M : List (List Int)) : Prop := 0 < M.length ∧ Same M
open Classical in
noncomputable def turnM (M : List (List Int)) : List (List Int) := if TurnOk M then colsM M else []
theorem turnM_t {M : List (List Int)} (h : TurnOk M) : turnM M = colsM M := if_pos h
theorem turnM_f {M : List (List Int)} (h : ¬ TurnOk M) : turnM M = [] := if_neg h
theorem colR_len (M : List (List Int)) (j : Nat) : (colR M j).length = M.length := by simp [colR]
theorem colR_gi {M : List (List Int)} {j i : Nat} (h : i < M.length) : gi (colR M j) i = gi (gr M i) j := by simp [gi, colR, List.getD, h, gr]
theorem colsM_len (M : List (List Int)) : (colsM M).length = (gr M 0).length := by simp [colsM]
theorem colsM_gr {M : List (List Int)} {j : Nat} (h : j < (gr M 0).length) : gr (colsM M) j = colR M j := by simp [gr, colsM, List.getD] at h ⊢; simp [h]
theorem cntTo_same {M : List (List Int)} {W : Nat} (h : ∀ k, k < M.length → (gr M k).length = W) {i : Nat} (hi : i ≤ M.length) : cntTo M i = W * i := by
  induction i with
  | zero => simp [cntTo]
  | succ i ih => rw [cntTo, ih (by omega), h i (by omega), Nat.mul_succ]
theorem turnM_cnt (M : List (List Int)) : cnt (turnM M) ≤ cnt M := by
  by_cases h : TurnOk M
  · rw [turnM_t h]
    have h1 := cntTo_same (M := colsM M) (W := M.length) (fun k hk => by rw [colsM_len] at hk; rw [colsM_gr hk, colR_len]) (Nat.le_refl _)
    have h2 := cntTo_same (M := M) (W := (gr M 0).length) h.2 (Nat.le_refl _)
    unfold cnt
    rw [h1, h2, colsM_len, Nat.mul_comm]
    exact Nat.le_refl _
  · rw [turnM_f h]; simp [cnt, cntTo]
theorem Rd.form' {w : World} {v : Value} {L : List Value} (h : Rd w v L) : ∃ p l c, v = .slice p l c := by
  rcases h with ⟨rfl, _⟩ | ⟨a, cap, rfl, _⟩
  · exact ⟨_, _, _, rfl⟩
  · exact ⟨_, _, _, rfl⟩
theorem cols_le {M : List (List Int)} (h : 0 < M.length) : (gr M 0).length ≤ cnt M := by
  have := cntTo_le M (show 1 ≤ M.length by omega)
  have h2 : cntTo M 1 = 0 + (gr M 0).length := rfl
  omega

set_option maxHeartbeats 4000000 in
set_option maxRecDepth 100000 in
theorem TurnMatrix_c (va : Value) (bs : List Value) (M : List (List Int)) (w : World) (ha : RdM w va bs M) (hs : (szN2 M : Int) ≤ 1048576) :
    Calls Try.prog 68 #[va] w fun e w' => ∃ v vs, e = .returned v ∧ vs.length = (turnM M).length ∧ St w w' (⟨v, 26, vs⟩ :: rowsOn vs (turnM M) []) := by
  have la := ha.ln
  have hsz := szN2_cnt M
  by_cases h0 : M.length = 0
  · have q0 : ((M.length : Int) == 0) = true := by simp [h0]
    have E : Hid (turnM M = []) := turnM_f fun h => by have := h.1; omega
    clear h0
    go_enter Try.func68, Try.ntmps68
    go_wp2_with fail
    go_ret
    rw [E.out]
    exact ⟨.slice none 0 0, [], rfl, rfl, (St.start w).nilRow _⟩
  · have q0 : ((M.length : Int) == 0) = false := by rw [beq_eq_false_iff_ne]; omega
    have hpos : 0 < M.length := by omega
    cases hsm : sameB M with
    | false =>
      have E : Hid (turnM M = []) := turnM_f fun h => by have := sameB_t h.2; rw [hsm] at this; cases this
      clear h0
      go_enter Try.func68, Try.ntmps68
      go_wp2_with (go_at_call 146; refine (sameLengths_c _ _ M _ ha).mono ?_; rw [hsm]; rintro e w' ⟨rfl, rfl⟩)
      go_ret
      rw [E.out]
      exact ⟨.slice none 0 0, [], rfl, rfl, (St.start w).nilRow _⟩
    | true =>
      have HSM : Hid (Same M) := sameB_iff.1 hsm
      have E : Hid (turnM M = colsM M) := turnM_t ⟨hpos, HSM.out⟩
      obtain ⟨W, hW⟩ : ∃ W, W = (gr M 0).length := ⟨_, rfl⟩
      have hWc : W ≤ cnt M := by rw [hW]; exact cols_le hpos
      have HWR : Hid (∀ k, k < M.length → (gr M k).length = W) := fun k hk => by rw [hW]; exact HSM.out k hk
      obtain ⟨T, hT⟩ : ∃ T, T = colsM M := ⟨_, rfl⟩
      have hTl : T.length = W := by rw [hT, colsM_len, hW]
      have HT : Hid (∀ j, j < W → gr T j = colR M j) := fun j hj => by rw [hT]; exact colsM_gr (by omega)
      have HTE : Hid (colsM M = T) := hT.symm
      have HA := hid ha
      have g1 := ha.ix 0 hpos
      have g2 := ha.cell 0 hpos
      have g3 := (ha.row 0 hpos).iln tI
      rw [← hW] at g3
      rw [show ((0 : Nat) : Int) = 0 from rfl] at g1
      clear h0 hT hW
      go_enter Try.func68, Try.ntmps68
      go_wp2_with (first | (go_at_call 146; refine (sameLengths_c _ _ M _ ha).mono ?_; rw [hsm]; rintro e w' ⟨rfl, rfl⟩) | (at_make; refine wpList_mk rfl _ _ rfl tSS (St.start w).own W (by omega) rfl rfl ?_))
      intro u w1 hO hB
      have hS0 := (St.mk hO hB : St w w1 _).nilRows W
      rw [show List.replicate W ([] : List Int) = List.replicate T.length [] by rw [hTl], ← partM_zero] at hS0
      have lu := hS0.hd.ln tSS
      rw [List.length_replicate] at lu
      have HS0 := hid hS0
      clear hO hB hS0 ha hsm g1 g2 g3
      go_wp2_with fail
      go_loopw [21] (fun i wr => ∃ (j : Nat) (vs : List Value), j ≤ W ∧ i = .int .i64 j ∧ vs.length = T.length ∧ St w wr (⟨u, 26, vs⟩ :: rowsOn vs (partM T j) [])) (fun i _ => W - (intOf i).toNat)
      case atStart => exact ⟨0, _, by omega, rfl, by simp [hTl], HS0.out⟩
      case round =>
        obtain ⟨j, vs, hj, rfl, hvl, hS⟩ := hrel
        have HL := hid hvl
        have HS := hid hS
        have la1 := (hS.oldM HA.out).ln
        by_cases hlt : j < W
        · have hjv : j < vs.length := by omega
          have hpl : vs.length = (partM T j).length := by rw [partM_len]; exact hvl
          have q1 : decide ((j : Int) < (W : Int)) = true := decide_eq_true (by omega)
          clear hS hvl
          go_wp2_with (at_make; refine wpList_mk rfl _ _ rfl tI HS.out.own M.length (by omega) rfl rfl ?_)
          intro r w2 hO hB
          have hS2 := HS.out.mut hO (hB.mono HS.out.bel.size)
          rw [ints_zeros] at hS2
          obtain ⟨rp, rl, rc, hrf⟩ := hS2.hd.form'
          subst hrf
          have g1 := hS2.hd2.ix tSS j hjv
          have g2 : w2.cell? (adr u j) = some (gv vs j) := by rw [hS2.hd2.cell j hjv, gv_get hjv]
          have g3 : w2.frozen? (adr u j) = false := hS2.own.free (.tail _ (.head _)) j hjv
          have hS3 := (hS2.swap.set j hjv (.slice rp rl rc)).swap.putRow hpl (k := j) (by rw [partM_len]; omega)
          have hrow : gr T j = colR M j := HT.out j hlt
          have e0 : List.replicate M.length (0 : Int) = fillTo (gr T j) 0 := by rw [hrow, fillTo_zero, colR_len]
          rw [e0] at hS3
          have HS3 := hid hS3
          have EN := hid (partM_succ (M := T) (i := j) (by omega))
          have hrl : (gr T j).length = M.length := by rw [hrow, colR_len]
          have HG : Hid (∀ i, i < M.length → gi (gr T j) i = gi (gr M i) j) := fun i hi => by rw [hrow]; exact colR_gi hi
          clear hO hB hS2 hS3 e0 hrow
          go_wp2_with fail
          obtain ⟨w3, hw3⟩ : ∃ w3, w3 = w2.setCell (adr u j) (.slice rp rl rc) := ⟨_, rfl⟩
          rw [← hw3]
          rw [← hw3] at HS3
          clear hw3 g2 g3
          go_loopw [32] (fun i' wr => ∃ (i : Nat), i ≤ M.length ∧ i' = .int .i64 i ∧ St w wr (⟨u, 26, vs.set j (.slice rp rl rc)⟩ :: rowsOn (vs.set j (.slice rp rl rc)) ((partM T j).set j (fillTo (gr T j) i)) [])) (fun i' _ => M.length - (intOf i').toNat)
          case atStart => exact ⟨0, by omega, rfl, HS3.out⟩
          case round =>
            obtain ⟨i, hi, rfl, hS⟩ := hrel
            obtain ⟨wo, rfl⟩ : ∃ wo : World, wo = wr := ⟨_, rfl⟩
            have HS4 := hid hS
            have ha4 := hS.oldM HA.out
            have hl2 : (vs.set j (.slice rp rl rc)).length = ((partM T j).set j (fillTo (gr T j) i)).length := by have := HL.out; simp [partM_len]; omega
            have hk2 : j < ((partM T j).set j (fillTo (gr T j) i)).length := by simp [partM_len]; omega
            have eg : gr ((partM T j).set j (fillTo (gr T j) i)) j = fillTo (gr T j) i := by rw [gr_set (by rw [partM_len]; omega), if_pos rfl]
            have ev : gv (vs.set j (.slice rp rl rc)) j = .slice rp rl rc := by rw [gv_set hjv, if_pos rfl]
            by_cases hil : i < M.length
            · have a1 := ha4.ix i hil
              have a2 := ha4.cell i hil
              have hra := ha4.row i hil
              have b1 := hra.iix tI j (by rw [HWR.out i hil]; exact hlt)
              have b2 := hra.intCell j (by rw [HWR.out i hil]; exact hlt)
              have q2 : decide ((i : Int) < (M.length : Int)) = true := decide_eq_true (by omega)
              have hM' := hS.rdM hl2
              have g1 := hM'.ix j hk2
              have g2 := hM'.cell j hk2
              have hrow := hM'.row j hk2
              rw [ev] at g2
              rw [ev, eg] at hrow
              have hif : i < (fillTo (gr T j) i).length := by rw [fillTo_len _ _ (by omega)]; omega
              have g3 := hrow.iix tI i hif
              have g4 := hrow.intCell i hif
              have g5 : wo.frozen? (adr (.slice rp rl rc) i) = false := by
                have := hS.freeRow hl2 hk2 (j := i) (by rw [eg]; exact hif)
                rwa [ev] at this
              have hS5 := (hS.drewN 1).setAt hl2 hk2 (j := i) (by rw [eg]; exact hif) (gi (gr M i) j)
              rw [ev, eg, set_set', ← HG.out i hil, fillTo_succ (by omega), HG.out i hil] at hS5
              have HS5 := hid hS5
              clear hS hM' hrow hS5 eg ev hl2 hk2 hra ha4
              go_wp2_with fail
              go_region
              all_goals
                go_wp2_with fail
                go_roundw
                case rel => exact ⟨i + 1, by omega, by go_num, HS5.out⟩
                case measure => simp [intOf]; omega
            · have ef : Hid (fillTo (gr T j) i = gr T j) := fillTo_all (by omega)
              have q2 : decide ((i : Int) < (M.length : Int)) = false := decide_eq_false (by omega)
              clear hS eg ev hl2 hk2 ha4
              go_wp2_with fail
              go_roundw
              case rel =>
                have := HS4.out
                rw [ef.out, EN.out] at this
                exact ⟨j + 1, _, by omega, by go_num, by have := HL.out; simp; omega, this⟩
              case measure => simp [intOf]; omega
        · have ep : Hid (partM T j = T) := partM_all (by omega)
          have q1 : decide ((j : Int) < (W : Int)) = false := decide_eq_false (by omega)
          clear hS hvl
          go_wp2_with fail
          go_ret
          have h8 := HS.out
          rw [ep.out] at h8
          rw [E.out, HTE.out]
          first | exact ⟨_, vs, rfl, HL.out, h8⟩ | exact ⟨_, rfl, vs, HL.out, h8⟩

set_option maxHeartbeats 4000000 in
set_option maxRecDepth 100000 in
theorem sTurnMatrix_c (va : Value) (bs : List Value) (M : List (List Int)) (w : World) (ha : RdM w va bs M) (hs : (szN2 M : Int) ≤ 1048576) :
    Calls Try.prog 78 #[va] w fun e w' => ∃ v vs, e = .returned v ∧ vs.length = (turnM M).length ∧ St w w' (⟨v, 26, vs⟩ :: rowsOn vs (turnM M) []) := by
  have hsz := szN2_cnt M
  have HA := hid ha
  have hS := (St.start w).newAt #[] 26 (by simp) rfl
  have HS0 := hid hS
  clear ha hS
  go_enter Try.func78, Try.ntmps78
  go_wp2_with fail
  go_loopw [4] (fun i wr => ∃ t : Nat, t ≤ M.length ∧ i = .int .i64 t ∧ St w wr [⟨.slice (some ⟨w.heap.size, 0, none⟩) 0 0, 26, []⟩] ∧ Hid (∀ k, k < t → (gr M k).length = (gr M 0).length)) (fun i _ => M.length - (intOf i).toNat)
  case atStart => exact ⟨0, by omega, rfl, HS0.out, fun k h => by omega⟩
  case round =>
    obtain ⟨t, ht, rfl, hS, hN⟩ := hrel
    obtain ⟨wo, rfl⟩ : ∃ wo : World, wo = wr := ⟨_, rfl⟩
    have ha2 := hS.oldM HA.out
    have la := ha2.ln
    have HS1 := hid hS
    by_cases htl : t < M.length
    · have f1 := ha2.ix t htl
      have f2 := ha2.cell t htl
      have f3 := (ha2.row t htl).iln tI
      have g1 := ha2.ix 0 (by omega)
      have g2 := ha2.cell 0 (by omega)
      have g3 := (ha2.row 0 (by omega)).iln tI
      rw [show ((0 : Nat) : Int) = 0 from rfl] at g1
      by_cases he : (gr M t).length = (gr M 0).length
      · have d : (((gr M t).length : Int) != ((gr M 0).length : Int)) = false := by simp [he]
        have N2 : Hid (∀ k, k < t + 1 → (gr M k).length = (gr M 0).length) := fun k hk => by
          by_cases e : k = t
          · subst e; exact he
          · exact hN.out k (by omega)
        clear he hS ha2
        go_wp2_with fail
        go_region
        all_goals
          go_wp2_with fail
          go_roundw
          case rel => exact ⟨t + 1, by omega, by go_num, HS1.out.drewN 1, N2⟩
          case measure => simp [intOf]; omega
      · have d : (((gr M t).length : Int) != ((gr M 0).length : Int)) = true := by simp; omega
        have E : Hid (turnM M = []) := turnM_f fun h => he (h.2 t htl)
        clear he hS ha2
        go_wp2_with fail
        go_region
        all_goals
          go_wp2_with fail
          go_ret
          rw [E.out]
          exact ⟨_, [], rfl, rfl, ((HS1.out.drewN 1).newAt #[] 26 (by simp) rfl).sub (.cons_cons _ (.cons _ .slnil))⟩
    · have HSM : Hid (Same M) := fun k hk => hN.out k (by omega)
      obtain ⟨W, hW⟩ : ∃ W, W = if M.length = 0 then 0 else (gr M 0).length := ⟨_, rfl⟩
      have hE : turnM M = (List.range W).map (colR M) := by
        by_cases h0 : 0 < M.length
        · rw [turnM_t ⟨h0, HSM.out⟩, colsM, hW, if_neg (by omega)]
        · rw [turnM_f (fun h => h0 h.1), hW, if_pos (by omega)]; rfl
      have HE := hid hE
      have hWc : W ≤ cnt M := by
        by_cases h0 : 0 < M.length
        · rw [hW, if_neg (by omega)]; exact cols_le h0
        · rw [hW, if_pos (by omega)]; omega
      have HWR : Hid (∀ k, k < M.length → (gr M k).length = W) := fun k hk => by rw [hW, if_neg (by omega)]; exact HSM.out k hk
      clear hS ha2 hE hW
      go_wp2_with fail
      clear la
      go_loopw [3, 5] (fun o c wr => ∃ (j : Nat) (u : Value) (vs : List Value), j ≤ W ∧ c = .int .i64 j ∧ o = u ∧ vs.length = j ∧ St w wr (⟨u, 26, vs⟩ :: rowsOn vs ((List.range j).map (colR M)) [])) (fun _ c _ => W - (intOf c).toNat)
      case atStart => exact ⟨0, _, [], by omega, rfl, rfl, rfl, HS1.out⟩
      case round =>
        obtain ⟨j, u, vs, hj, rfl, ho, hvl, hS⟩ := hrel
        have ho' := ho.symm
        subst ho'
        have ha3 := hS.oldM HA.out
        have la := ha3.ln
        have HS2 := hid hS
        by_cases h0 : 0 < M.length
        · have g1 := ha3.ix 0 h0
          have g2 := ha3.cell 0 h0
          have g3 := (ha3.row 0 h0).iln tI
          rw [HWR.out 0 h0] at g3
          rw [show ((0 : Nat) : Int) = 0 from rfl] at g1
          by_cases hjW : j < W
          · have q1 : decide ((j : Int) < (W : Int)) = true := decide_eq_true (by omega)
            clear hS ha3
            go_wp2_with fail
            clear g1 g2 g3
            go_loopw [6, 7] (fun o c wr => ∃ (i : Nat) (r : Value), i ≤ M.length ∧ c = .int .i64 i ∧ o = r ∧ St w wr (⟨r, 3, ints ((colR M j).take i)⟩ :: ⟨u, 26, vs⟩ :: rowsOn vs ((List.range j).map (colR M)) [])) (fun _ c _ => M.length - (intOf c).toNat)
            case atStart => exact ⟨0, _, by omega, rfl, rfl, HS2.out.newAt #[] _ (by simp) rfl⟩
            case round =>
              obtain ⟨i, r, hi, rfl, ho, hS⟩ := hrel
              have ho' := ho.symm
              subst ho'
              have ha4 := hS.oldM HA.out
              have la := ha4.ln
              have HS4 := hid hS
              by_cases hil : i < M.length
              · have a1 := ha4.ix i hil
                have a2 := ha4.cell i hil
                have hra := ha4.row i hil
                have b1 := hra.iix tI j (by rw [HWR.out i hil]; exact hjW)
                have b2 := hra.intCell j (by rw [HWR.out i hil]; exact hjW)
                have q2 : decide ((i : Int) < (M.length : Int)) = true := decide_eq_true (by omega)
                have E2 : Hid ((colR M j).take (i + 1) = (colR M j).take i ++ [gi (gr M i) j]) := by
                  show _ = _
                  rw [take_succ_gi (by rw [colR_len]; exact hil), colR_gi hil]
                have hll : ((colR M j).take i).length ≤ M.length := by simp [colR_len]; omega
                clear hS hra ha4
                go_wp2_with (at_builtin; refine wpList_push rfl _ _ rfl tI HS4.out.own (.int .i64 (gi (gr M i) j)) rfl (by simp only [length_ints]; omega) rfl rfl ?_)
                intro v2 w2 hO2 hb2
                go_wp2_with fail
                go_roundw
                case rel => exact ⟨i + 1, v2, by omega, by go_num, rfl, by rw [E2.out, ints_append]; exact HS4.out.mut hO2 hb2⟩
                case measure => simp [intOf]; omega
              · have ef : Hid ((colR M j).take i = colR M j) := List.take_of_length_le (by rw [colR_len]; omega)
                have q2 : decide ((i : Int) < (M.length : Int)) = false := decide_eq_false (by omega)
                obtain ⟨rp, rl, rc, hrf⟩ := hS.hd.form'
                subst hrf
                clear hS ha4
                have E3 : Hid ((List.range (j + 1)).map (colR M) = (List.range j).map (colR M) ++ [colR M j]) := by show _ = _; rw [List.range_succ, List.map_append]; rfl
                go_wp2_with (at_builtin; refine wpList_push rfl _ _ rfl tSS HS4.out.swap.own (.slice rp rl rc) rfl (by omega) rfl rfl ?_)
                intro v2 w2 hO2 hb2
                go_wp2_with fail
                go_roundw
                case rel =>
                  have h6 := (HS4.out.swap.mut hO2 hb2)
                  rw [ef.out] at h6
                  have h7 := h6.snocRow (by simp; exact hvl)
                  rw [← E3.out] at h7
                  exact ⟨j + 1, v2, _, by omega, by go_num, rfl, by simp; exact hvl, h7⟩
                case measure => simp [intOf]; omega
          · have q1 : decide ((j : Int) < (W : Int)) = false := decide_eq_false (by omega)
            have ej : Hid (j = W) := by show _ = _; omega
            clear hS ha3
            go_wp2_with fail
            go_ret
            have h8 := HS2.out
            rw [ej.out] at h8
            rw [HE.out]
            have h9 : vs.length = ((List.range W).map (colR M)).length := by simp; rw [← ej.out]; exact hvl
            first | exact ⟨_, vs, rfl, h9, h8⟩ | exact ⟨_, rfl, vs, h9, h8⟩
        · have hW0 : Hid (W = 0) := by
            show _ = _
            have h1 := cntTo_le M (Nat.zero_le _)
            have h2 : cnt M = 0 := by
              have : M.length = 0 := by omega
              unfold cnt; rw [this]; rfl
            omega
          have ej : Hid (j = W) := by show _ = _; have := hW0.out; omega
          clear hS ha3
          go_wp2_with fail
          go_ret
          have h8 := HS2.out
          rw [ej.out] at h8
          rw [HE.out]
          have h9 : vs.length = ((List.range W).map (colR M)).length := by simp; rw [← ej.out]; exact hvl
          first | exact ⟨_, vs, rfl, h9, h8⟩ | exact ⟨_, rfl, vs, h9, h8⟩

end Go.Proofs.Ytjaofbdfhcgmeaa
