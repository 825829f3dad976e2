/-
  Remainders of a matrix; ranks.
-/
import Derived.Test.YtjaofbdfhcgmeaaRed3
namespace Go.Proofs.Ytjaofbdfhcgmeaa
open Go.RowKit

/-- All rows have W places. -/
def Even (W : Nat) (M : List (List Int)) : Prop := ∀ k, k < M.length → (gr M k).length = W
theorem modM_succ {p : Int} {M : List (List Int)} {j : Nat} (h : j < M.length) : modM p (M.take (j + 1)) = modM p (M.take j) ++ [modRow p (gr M j)] := by
  rw [take_succ_gr h, modM, List.map_append]; rfl

set_option maxHeartbeats 4000000 in
set_option maxRecDepth 100000 in
theorem modMatrix_c (va : Value) (bs : List Value) (M : List (List Int)) (p : Int) (w : World) (ha : RdM w va bs M) (hp : PrimeP p) (lM : M.length ≤ 1000) (lW : ∀ k, k < M.length → (gr M k).length ≤ 1000) :
    Calls Try.prog 178 #[va, .int .i64 p] w fun e w' => ∃ v vs, e = .returned v ∧ vs.length = (modM p M).length ∧ St w w' (⟨v, 26, vs⟩ :: rowsOn vs (modM p M) []) := by
  have la := ha.ln
  have HP := hid hp
  have HW := hid lW
  have HA := hid ha
  obtain ⟨N, hN⟩ : ∃ N, N = modM p M := ⟨_, rfl⟩
  rw [← hN]
  have hnl : N.length = M.length := by rw [hN, modM_len]
  have HN : Hid (∀ j, j < M.length → gr N j = modRow p (gr M j)) := fun j hj => by rw [hN]; exact modM_gr hj
  clear hp lW hN ha
  go_enter Try.func178, Try.ntmps178
  go_wp2_with (at_make; refine wpList_mk rfl _ _ rfl tSS (St.start w).own M.length (by omega) rfl rfl ?_)
  intro u w1 hO hB
  have hS0 := (St.mk hO hB : St w w1 _).nilRows M.length
  rw [← hnl, ← partM_zero, hnl] at hS0
  have HS0 := hid hS0
  clear hO hB hS0
  go_wp2_with fail
  go_loopw [15] (fun i wr => ∃ (i' : Nat) (vs : List Value), i' ≤ M.length ∧ i = .int .i64 i' ∧ vs.length = N.length ∧ St w wr (⟨u, 26, vs⟩ :: rowsOn vs (partM N i') [])) (fun i _ => M.length - (intOf i).toNat)
  case atStart => exact ⟨0, _, by omega, rfl, by simp [hnl], HS0.out⟩
  case round =>
    obtain ⟨i, vs, hi, rfl, hvl, hS⟩ := hrel
    have HL := hid hvl
    have HS := hid hS
    have ha1 := hS.oldM HA.out
    by_cases hlt : i < M.length
    · have f1 := ha1.ix i hlt
      have f2 := ha1.cell i hlt
      have f3 := (ha1.row i hlt).iln tI
      have hiv : i < vs.length := by omega
      have hpl : vs.length = (partM N i).length := by rw [partM_len]; exact hvl
      have hwi := HW.out i hlt
      have q0 : decide ((i : Int) < (M.length : Int)) = true := decide_eq_true (by omega)
      clear hS hvl ha1
      go_wp2_with (at_make; refine wpList_mk rfl _ _ rfl tI HS.out.own (gr M i).length (by omega) rfl rfl ?_)
      intro r w2 hO hB
      have hS2 := HS.out.mut hO (hB.mono HS.out.bel.size)
      rw [ints_zeros] at hS2
      obtain ⟨rp, rl, rc, hrf⟩ : ∃ p l c, r = .slice p l c := by
        rcases hS2.hd with ⟨h, _⟩ | ⟨a, cap, h, _⟩
        · exact ⟨_, _, _, h⟩
        · exact ⟨_, _, _, h⟩
      subst hrf
      have g1 := hS2.hd2.ix tSS i hiv
      have g2 : w2.cell? (adr u i) = some (gv vs i) := by rw [hS2.hd2.cell i hiv, gv_get hiv]
      have g3 : w2.frozen? (adr u i) = false := hS2.own.free (.tail _ (.head _)) i hiv
      have hS3 := (hS2.swap.set i hiv (.slice rp rl rc)).swap.putRow hpl (k := i) (by rw [partM_len]; omega)
      have hrow : gr N i = modRow p (gr M i) := HN.out i hlt
      have e0 : List.replicate (gr M i).length (0 : Int) = fillTo (gr N i) 0 := by rw [hrow, fillTo_zero, modRow_len]
      rw [e0] at hS3
      have HS3 := hid hS3
      have EN := hid (partM_succ (M := N) (i := i) (by omega))
      have hrl : (gr N i).length = (gr M i).length := by rw [hrow, modRow_len]
      have HG : Hid (∀ j, j < (gr M i).length → gi (gr N i) j = gi (gr M i) j % p) := fun j hj => by rw [hrow]; exact modRow_gi hj
      clear hO hB hS2 hS3 e0 hrow
      go_wp2_with fail
      obtain ⟨w3, hw3⟩ : ∃ w3, w3 = w2.setCell (adr u i) (.slice rp rl rc) := ⟨_, rfl⟩
      rw [← hw3]
      rw [← hw3] at HS3
      clear hw3 g2 g3 f1 f2
      go_loopw [28] (fun j' wr => ∃ (j : Nat), j ≤ (gr M i).length ∧ j' = .int .i64 j ∧ St w wr (⟨u, 26, vs.set i (.slice rp rl rc)⟩ :: rowsOn (vs.set i (.slice rp rl rc)) ((partM N i).set i (fillTo (gr N i) j)) [])) (fun j' _ => (gr M i).length - (intOf j').toNat)
      case atStart => exact ⟨0, by omega, rfl, HS3.out⟩
      case round =>
        obtain ⟨j, hj, rfl, hS⟩ := hrel
        obtain ⟨wo, rfl⟩ : ∃ wo : World, wo = wr := ⟨_, rfl⟩
        have HS4 := hid hS
        have ha4 := hS.oldM HA.out
        have hl2 : (vs.set i (.slice rp rl rc)).length = ((partM N i).set i (fillTo (gr N i) j)).length := by have := HL.out; simp [partM_len]; omega
        have hk2 : i < ((partM N i).set i (fillTo (gr N i) j)).length := by simp [partM_len]; omega
        have eg : gr ((partM N i).set i (fillTo (gr N i) j)) i = fillTo (gr N i) j := by rw [gr_set (by rw [partM_len]; omega), if_pos rfl]
        have ev : gv (vs.set i (.slice rp rl rc)) i = .slice rp rl rc := by rw [gv_set hiv, if_pos rfl]
        by_cases hjl : j < (gr M i).length
        · have hra := ha4.row i hlt
          have b1 := hra.iix tI j hjl
          have b2 := hra.intCell j hjl
          have q1 : decide ((j : Int) < ((gr M i).length : Int)) = true := decide_eq_true (by omega)
          have hM' := hS.rdM hl2
          have g1 := hM'.ix i hk2
          have g2 := hM'.cell i hk2
          have hrow := hM'.row i hk2
          rw [ev] at g2
          rw [ev, eg] at hrow
          have hjf : j < (fillTo (gr N i) j).length := by rw [fillTo_len _ _ (by omega)]; omega
          have g3 := hrow.iix tI j hjf
          have g4 := hrow.intCell j hjf
          have g5 : wo.frozen? (adr (.slice rp rl rc) j) = false := by
            have := hS.freeRow hl2 hk2 (j := j) (by rw [eg]; exact hjf)
            rwa [ev] at this
          have hS5 := (hS.drewN 1).setAt hl2 hk2 (j := j) (by rw [eg]; exact hjf) (gi (gr N i) j)
          rw [ev, eg, set_set', fillTo_succ (by omega)] at hS5
          have HS5 := hid hS5
          have en := HG.out j hjl
          have HCM : Hid (∀ w : World, Calls Try.prog 150 #[.int .i64 (gi (gr M i) j), .int .i64 p] w fun e w' => e = .returned (.int .i64 (gi (gr N i) j)) ∧ w = w') := fun w => by rw [en]; exact restMod_c _ _ w HP.out
          clear hS hM' hrow hS5 eg ev hl2 hk2 hra ha4 en
          go_wp2_with fail
          go_region_with (go_at_call 150; refine (HCM.out _).mono ?_; rintro e w' ⟨rfl, rfl⟩)
          all_goals
            go_wp2_with fail
            go_roundw
            case rel => exact ⟨j + 1, by omega, by go_num, HS5.out⟩
            case measure => simp [intOf]; omega
        · have ef : Hid (fillTo (gr N i) j = gr N i) := fillTo_all (by omega)
          have q1 : decide ((j : Int) < ((gr M i).length : Int)) = false := decide_eq_false (by omega)
          clear hS eg ev hl2 hk2 ha4
          go_wp2_with fail
          go_roundw
          case rel =>
            have := HS4.out
            rw [ef.out, EN.out] at this
            exact ⟨i + 1, _, by omega, by go_num, by have := HL.out; simp; omega, this⟩
          case measure => simp [intOf]; omega
    · have ep : Hid (partM N i = N) := partM_all (by omega)
      clear hS hvl ha1
      go_wp2_with fail
      go_ret
      first | exact ⟨_, vs, rfl, HL.out, by have := HS.out; rwa [ep.out] at this⟩ | exact ⟨_, rfl, vs, HL.out, by have := HS.out; rwa [ep.out] at this⟩

set_option maxHeartbeats 4000000 in
set_option maxRecDepth 100000 in
theorem rankOf_c (va : Value) (bs : List Value) (M : List (List Int)) (W : Nat) (p : Int) (w : World) (ha : RdM w va bs M) (hp : PrimeP p) (hE : Even W M) (lM : M.length ≤ 1000) (lW : W ≤ 1000) :
    Calls Try.prog 149 #[va, .int .i64 p] w fun e w' => e = .returned (.int .i64 (rankR p M)) ∧ Below w.heap.size w w' := by
  have la := ha.ln
  have HP := hid hp
  have HE := hid hE
  have HA := hid ha
  by_cases h0 : M.length = 0
  · have q0 : ((M.length : Int) == 0) = true := by simp [h0]
    have E : Hid (rankR p M = 0) := by
      show _ = _
      have h1 := red_piv p (modM p M) (gr M 0).length
      rw [modM_len] at h1
      rw [rankR, pivs]; omega
    clear h0 hp hE ha
    go_enter Try.func149, Try.ntmps149
    go_wp2_with fail
    go_ret
    exact ⟨by rw [E.out]; rfl, Below.refl _ _⟩
  · have q0 : ((M.length : Int) == 0) = false := by rw [beq_eq_false_iff_ne]; omega
    have hpos : 0 < M.length := by omega
    have f1 := ha.ix 0 hpos
    have f2 := ha.cell 0 hpos
    have hr0 := ha.row 0 hpos
    have f3 := hr0.iln tI
    have hw0 : (gr M 0).length = W := hE 0 hpos
    rw [hw0] at f3
    have E : Hid (rankR p M = ((pivs p W (modM p M)).length : Int)) := by show _ = _; rw [rankR, hw0]
    have HGo := hid (modM_good (p := p) hp hE)
    have hml : (modM p M).length = M.length := modM_len _ _
    have HLW : Hid (∀ k, k < M.length → (gr M k).length ≤ 1000) := fun k hk => by rw [hE k hk]; exact lW
    rw [show ((0 : Nat) : Int) = 0 from rfl] at f1
    clear h0 hp hE ha hr0
    go_enter Try.func149, Try.ntmps149
    go_wp2_with fail
    go_region_with (first | (go_at_call 178; refine (modMatrix_c _ _ M p _ (HA.out.drew 1) HP.out lM HLW.out).mono ?_; rintro e w2 ⟨v2, vs2, rfl, hl2, hS2⟩; have HSm := hid ((((St.start w).drewN 1)).callM hS2); have HLm := hid hl2; have f4 : w2.cell? (adr va 0) = some (gv bs 0) := (HSm.out.oldM HA.out).cell 0 hpos; clear hl2 hS2) | (go_at_call 177; refine (reduceMod_c _ _ (modM p M) W p _ _ HSm.out HLm.out HP.out HGo.out (by omega) lW).mono ?_; rintro e w3 ⟨v3, rfl, hS3⟩; have HSr := hid hS3; have f5 := hS3.hd.iln tI; have f6 : w3.cell? (adr va 0) = some (gv bs 0) := (HSr.out.oldM HA.out).cell 0 hpos; clear hS3))
    all_goals
      go_wp2_with fail
      go_ret
      exact ⟨by rw [E.out]; rfl, HSr.out.bel⟩

end Go.Proofs.Ytjaofbdfhcgmeaa
