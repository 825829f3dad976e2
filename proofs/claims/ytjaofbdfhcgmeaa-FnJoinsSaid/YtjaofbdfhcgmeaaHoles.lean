/-
  Holes of a complex modulo a prime.
-/
import Derived.Test.YtjaofbdfhcgmeaaRed4
import Derived.Test.YtjaofbdfhcgmeaaBord2
namespace Go.Proofs.Ytjaofbdfhcgmeaa
open Go.RowKit

/-- The rank of the border of the faces with k points. -/
noncomputable def hRk (P : Int → Bool) (p : Int) (k : Nat) : Int := if 1 ≤ k ∧ k < sizesN P then rankR p (bordM (rowTo P ((k : Int) - 1) 64) (rowTo P (k : Int) 64)) else 0
noncomputable def holeAt (P : Int → Bool) (p : Int) (j : Nat) : Int := ((rowTo P (j : Int) 64).length : Int) - hRk P p j - hRk P p (j + 1)
noncomputable def holeTo (P : Int → Bool) (p : Int) (k : Nat) : List Int := (List.range k).map (holeAt P p)
noncomputable def ranksTo (P : Int → Bool) (p : Int) (k : Nat) : List Int := (List.range (sizesN P + 1)).map fun j => if j < k then hRk P p j else 0
noncomputable def holesB (n : Int) (xs : List Int) (p : Int) : List Int := if isC n xs = true ∧ primeB p = true then holeTo (dn (mem xs)) p (sizesN (dn (mem xs))) else []
theorem rankR_rng (p : Int) (M : List (List Int)) : 0 ≤ rankR p M ∧ rankR p M ≤ M.length := by
  have h := red_piv p (modM p M) (gr M 0).length
  rw [modM_len] at h
  rw [rankR, pivs]; omega
theorem hRk_rng (P : Int → Bool) (p : Int) (k : Nat) : 0 ≤ hRk P p k ∧ hRk P p k ≤ 64 := by
  unfold hRk
  split
  · have h := rankR_rng p (bordM (rowTo P ((k : Int) - 1) 64) (rowTo P (k : Int) 64))
    have h2 := rowTo_len P ((k : Int) - 1) 64
    rw [bordM_len] at h; omega
  · omega
theorem holeAt_rng (P : Int → Bool) (p : Int) (j : Nat) : -128 ≤ holeAt P p j ∧ holeAt P p j ≤ 64 := by
  have h1 := hRk_rng P p j
  have h2 := hRk_rng P p (j + 1)
  have h3 := rowTo_len P (j : Int) 64
  unfold holeAt; omega
theorem holeTo_len (P : Int → Bool) (p : Int) (k : Nat) : (holeTo P p k).length = k := by simp [holeTo]
theorem holeTo_gi {P : Int → Bool} {p : Int} {k j : Nat} (h : j < k) : gi (holeTo P p k) j = holeAt P p j := by simp [gi, holeTo, List.getD, h]
theorem holeTo_succ (P : Int → Bool) (p : Int) (k : Nat) : holeTo P p (k + 1) = holeTo P p k ++ [holeAt P p k] := by simp [holeTo, List.range_succ]
theorem ranksTo_len (P : Int → Bool) (p : Int) (k : Nat) : (ranksTo P p k).length = sizesN P + 1 := by simp [ranksTo]
theorem ranksTo_gi {P : Int → Bool} {p : Int} {k j : Nat} (h : j < sizesN P + 1) : gi (ranksTo P p k) j = if j < k then hRk P p j else 0 := by simp [gi, ranksTo, List.getD, h]
theorem hRk_zero (P : Int → Bool) (p : Int) : hRk P p 0 = 0 := by rw [hRk, if_neg (by omega)]
theorem hRk_out {P : Int → Bool} {k : Nat} (p : Int) (h : sizesN P ≤ k) : hRk P p k = 0 := by rw [hRk, if_neg (by omega)]
theorem ranksTo_one (P : Int → Bool) (p : Int) : ranksTo P p 1 = List.replicate (sizesN P + 1) 0 := giExt (by simp [ranksTo]) fun k hk => by
  rw [ranksTo_len] at hk
  rw [ranksTo_gi hk]
  have : gi (List.replicate (sizesN P + 1) 0) k = 0 := by simp [gi, List.getD, hk]
  rw [this]
  split
  · rw [show k = 0 by omega, hRk_zero]
  · rfl
theorem ranksTo_succ {P : Int → Bool} {p : Int} {k : Nat} (h : k < sizesN P + 1) : (ranksTo P p k).set k (hRk P p k) = ranksTo P p (k + 1) := giExt (by simp [ranksTo]) fun j hj => by
  have hj' : j < sizesN P + 1 := by simpa [ranksTo] using hj
  rw [giSet (by rw [ranksTo_len]; exact h), ranksTo_gi hj', ranksTo_gi hj']
  by_cases e : j = k
  · subst e; rw [if_pos rfl, if_pos (by omega)]
  · rw [if_neg e]
    by_cases h2 : j < k
    · rw [if_pos h2, if_pos (by omega)]
    · rw [if_neg h2, if_neg (by omega)]
theorem ranksTo_end {P : Int → Bool} {p : Int} {k j : Nat} (hk : sizesN P ≤ k) (hj : j < sizesN P + 1) : gi (ranksTo P p k) j = hRk P p j := by
  rw [ranksTo_gi hj]
  split
  · rfl
  · rw [hRk_out p (by omega)]
theorem bordM_even (rs cs : List Int) : Even cs.length (bordM rs cs) := fun k hk => by
  rw [bordM_len] at hk
  rw [bordM_gr hk, bRow_len]
theorem row_facts (P : Int → Bool) (k : Int) : ∀ x ∈ rowTo P k 64, 0 ≤ x ∧ x < 64 ∧ pc x = k := fun x h => by
  have := mem_rowTo.1 h; omega

set_option maxHeartbeats 8000000 in
set_option maxRecDepth 100000 in
theorem holesIn_c (P : Int → Bool) (p : Int) (w : World) (hp : PrimeP p) : Calls Try.prog 153 #[.int .u64 (fam P), .int .i64 p] w fun e w' => ∃ v, e = .returned v ∧ St w w' [⟨v, 3, ints (holeTo P p (sizesN P))⟩] := by
  have HP := hid hp
  have h7 := sizesN_le P
  clear hp
  go_enter Try.func153, Try.ntmps153
  go_wp2_with fail
  refine (bySize_c P _).mono ?_
  rintro e w1 ⟨u, vs, rfl, hvl, hS1⟩
  obtain ⟨D, hD⟩ : ∃ D, D = sizesN P := ⟨_, rfl⟩
  have HD := hid hD
  have hbl : (bySz P).length = D := by rw [hD]; simp [bySz]
  have lM := (hS1.rdM hvl).ln
  rw [hbl] at lM
  have HL := hid hvl
  have HS1 := hid hS1
  rw [← hD] at h7
  have HG : Hid (∀ k : Nat, k < D → gr (bySz P) k = rowTo P (k : Int) 64) := fun k hk => bySzTo_get (by omega)
  clear hS1 hvl hD
  go_wp2_with (at_make; refine wpList_mk rfl _ _ rfl tI HS1.out.own (D + 1) (by omega) rfl rfl ?_)
  intro ur w2 hO hB
  have hS2 := HS1.out.mut hO (hB.mono HS1.out.bel.size)
  rw [ints_zeros, show D + 1 = sizesN P + 1 by rw [HD.out], ← ranksTo_one P p] at hS2
  have HS2 := hid hS2
  clear hO hB hS2
  go_wp2_with fail
  go_loopw [7] (fun c wr => ∃ k : Nat, 1 ≤ k ∧ k ≤ D + 1 ∧ (D ≤ 1 → k = 1) ∧ (1 ≤ D → k ≤ D) ∧ c = .int .i64 k ∧ St w wr (⟨ur, 3, ints (ranksTo P p k)⟩ :: ⟨u, 26, vs⟩ :: rowsOn vs (bySz P) [])) (fun c _ => D + 1 - (intOf c).toNat)
  case atStart => exact ⟨1, by omega, by omega, fun _ => rfl, fun h => by omega, rfl, HS2.out⟩
  case round =>
    obtain ⟨k, k1, kD, kD1, kD2, rfl, hS⟩ := hrel
    obtain ⟨wo, rfl⟩ : ∃ wo : World, wo = wr := ⟨_, rfl⟩
    have HS := hid hS
    have hM := hS.tail.rdM HL.out
    by_cases hk : k < D
    · have q0 : decide ((k : Int) < (D : Int)) = true := decide_eq_true (by omega)
      have f1 := hM.ix (k - 1) (by omega)
      have f2 := hM.cell (k - 1) (by omega)
      have g1 := hM.ix k (by omega)
      have g2 := hM.cell k (by omega)
      rw [show ((k - 1 : Nat) : Int) = (k : Int) - 1 by omega] at f1
      have hr1 := hM.row (k - 1) (by omega)
      have hr2 := hM.row k (by omega)
      rw [HG.out (k - 1) (by omega), show ((k - 1 : Nat) : Int) = (k : Int) - 1 by omega] at hr1
      rw [HG.out k hk] at hr2
      have HR1 := hid hr1
      have HR2 := hid hr2
      have lr := rowTo_len P ((k : Int) - 1) 64
      have lc := rowTo_len P (k : Int) 64
      have i1 := hS.hd.iix tI k (by rw [ranksTo_len, ← HD.out]; omega)
      have i2 := hS.hd.intCell k (by rw [ranksTo_len, ← HD.out]; omega)
      have u1 : IntKind.i64.wrap ((k : Int) - 1) = (k : Int) - 1 := IntWalk.i64_in _ (by omega)
      obtain ⟨R, hR⟩ : ∃ R, R = rankR p (bordM (rowTo P ((k : Int) - 1) 64) (rowTo P (k : Int) 64)) := ⟨_, rfl⟩
      have ER : Hid (hRk P p k = R) := by show _ = _; rw [hRk, if_pos ⟨k1, by rw [← HD.out]; exact hk⟩, hR]
      have HRR := hid hR
      clear hS hM hr1 hr2 hR
      go_wp2_with fail
      go_region_with (first | (go_at_call 143; refine (borderOf_c _ _ _ _ (k : Int) _ (HR1.out.drew 1) (HR2.out.drew 1) (row_facts P _) (row_facts P _) lr lc).mono ?_; rintro e w3 ⟨b, bs, rfl, hbl3, hS3⟩; have HLb := hid hbl3; have HSb := hid ((HS.out.drewN 1).callM hS3); clear hbl3 hS3) | (go_at_call 149; refine (rankOf_c _ _ _ _ p _ (HSb.out.rdM HLb.out) HP.out (bordM_even _ _) (by rw [bordM_len]; omega) (by omega)).mono ?_; rw [← HRR.out]; rintro e w4 ⟨rfl, hB4⟩; have HSr := hid ((HSb.out.quiet hB4).dropRows); have j2 := HSr.out.hd.intCell k (by rw [ranksTo_len, ← HD.out]; omega); have j3 : w4.frozen? (adr ur k) = false := HSr.out.own.free (.head _) k (by simp [ranksTo_len, ← HD.out]; omega); clear hB4))
      all_goals
        go_wp2_with fail
        go_roundw
        case rel =>
          have hS5 := HSr.out.set k (by simp [ranksTo_len, ← HD.out]; omega) (.int .i64 R)
          have e9 : (ranksTo P p k).set k R = ranksTo P p (k + 1) := by rw [← ER.out]; exact ranksTo_succ (by rw [← HD.out]; omega)
          rw [ints_set, e9] at hS5
          exact ⟨k + 1, by omega, by omega, fun h => by omega, fun h => by omega, by go_num, hS5⟩
        case measure => simp [intOf]; omega
    · have hkD : sizesN P ≤ k := by rw [← HD.out]; omega
      have q0 : decide ((k : Int) < (D : Int)) = false := decide_eq_false (by omega)
      have HRK : Hid (∀ j, j < D + 1 → gi (ranksTo P p k) j = hRk P p j) := fun j hj => ranksTo_end hkD (by rw [← HD.out]; exact hj)
      have hrl : (ranksTo P p k).length = D + 1 := by rw [ranksTo_len, ← HD.out]
      generalize ranksTo P p k = F at *
      clear hS hM
      go_wp2_with (at_make; refine wpList_mk rfl _ _ rfl tI HS.out.own D (by omega) rfl rfl ?_)
      intro uo w3 hO hB
      have hS3 := HS.out.mut hO (hB.mono HS.out.bel.size)
      obtain ⟨H, hH⟩ : ∃ H, H = holeTo P p D := ⟨_, rfl⟩
      have hHl : H.length = D := by rw [hH, holeTo_len]
      have HHg : Hid (∀ j, j < D → gi H j = holeAt P p j) := fun j hj => by rw [hH]; exact holeTo_gi hj
      have HH := hid hH
      rw [ints_zeros, show List.replicate D (0 : Int) = fillTo H 0 by rw [fillTo_zero, hHl]] at hS3
      have HS3 := hid hS3
      clear hO hB hS3 hH
      go_wp2_with fail
      go_loopw [42] (fun c wr => ∃ j : Nat, j ≤ D ∧ c = .int .i64 j ∧ St w wr (⟨uo, 3, ints (fillTo H j)⟩ :: ⟨ur, 3, ints F⟩ :: ⟨u, 26, vs⟩ :: rowsOn vs (bySz P) [])) (fun c _ => D - (intOf c).toNat)
      case atStart => exact ⟨0, by omega, rfl, HS3.out⟩
      case round =>
        obtain ⟨j, hj, rfl, hS⟩ := hrel
        obtain ⟨wi, rfl⟩ : ∃ wi : World, wi = wr := ⟨_, rfl⟩
        have HS4 := hid hS
        by_cases hjD : j < D
        · have qj : decide ((j : Int) < (D : Int)) = true := decide_eq_true (by omega)
          have hM4 := hS.tail.tail.rdM HL.out
          have a1 := hM4.ix j (by omega)
          have a2 := hM4.cell j (by omega)
          have a3 := (hM4.row j (by omega)).iln tI
          rw [HG.out j hjD] at a3
          have b1 := hS.hd2.iix tI j (by omega)
          have b2 := hS.hd2.intCell j (by omega)
          have b3 := hS.hd2.iix tI (j + 1) (by omega)
          have b4 := hS.hd2.intCell (j + 1) (by omega)
          rw [show ((j + 1 : Nat) : Int) = (j : Int) + 1 by omega] at b3
          rw [HRK.out j (by omega)] at b2
          rw [HRK.out (j + 1) (by omega)] at b4
          have hfl : j < (fillTo H j).length := by rw [fillTo_len _ _ (by omega)]; omega
          have c1 := hS.hd.iix tI j hfl
          have c2 := hS.hd.intCell j hfl
          have c3 : wi.frozen? (adr uo j) = false := hS.own.free (.head _) j (by simpa using hfl)
          have w1' : IntKind.i64.wrap ((j : Int) + 1) = (j : Int) + 1 := IntWalk.i64_in _ (by omega)
          have r1 := hRk_rng P p j
          have r2 := hRk_rng P p (j + 1)
          have r3 := rowTo_len P (j : Int) 64
          have e1 : IntKind.i64.wrap (((rowTo P (j : Int) 64).length : Int) - hRk P p j) = ((rowTo P (j : Int) 64).length : Int) - hRk P p j := IntWalk.i64_in _ (by omega)
          have e2 : IntKind.i64.wrap (((rowTo P (j : Int) 64).length : Int) - hRk P p j - hRk P p (j + 1)) = ((rowTo P (j : Int) 64).length : Int) - hRk P p j - hRk P p (j + 1) := IntWalk.i64_in _ (by omega)
          have hS5 := (hS.drewN 1).set j (by simpa using hfl) (.int .i64 (((rowTo P (j : Int) 64).length : Int) - hRk P p j - hRk P p (j + 1)))
          rw [ints_set, show ((rowTo P (j : Int) 64).length : Int) - hRk P p j - hRk P p (j + 1) = gi H j from (HHg.out j hjD).symm, fillTo_succ (by omega)] at hS5
          have e3 : Hid (((rowTo P (j : Int) 64).length : Int) - hRk P p j - hRk P p (j + 1) = gi H j) := (HHg.out j hjD).symm
          have HS5 := hid hS5
          clear hS hS5 hM4 r1 r2 r3
          go_wp2_with fail
          go_region
          all_goals
            go_wp2_with fail
            go_roundw
            case rel => exact ⟨j + 1, by omega, by go_num, by rw [e3.out]; exact HS5.out⟩
            case measure => simp [intOf]; omega
        · have ef : Hid (fillTo H j = H) := fillTo_all (by omega)
          have qj : decide ((j : Int) < (D : Int)) = false := decide_eq_false (by omega)
          clear hS
          go_wp2_with fail
          go_ret
          exact ⟨_, rfl, by rw [← HD.out, ← HH.out, ← ef.out]; exact HS4.out.sub (.cons_cons _ (List.nil_sublist _))⟩

end Go.Proofs.Ytjaofbdfhcgmeaa
