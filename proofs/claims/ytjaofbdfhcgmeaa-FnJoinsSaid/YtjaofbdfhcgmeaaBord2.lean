/-
  The matrix of a border: the walks.
-/
import Derived.Test.YtjaofbdfhcgmeaaBord
import Derived.Test.YtjaofbdfhcgmeaaFill
namespace Go.Proofs.Ytjaofbdfhcgmeaa
open Go.RowKit

/-- The row of one face. -/
def bRow (cs : List Int) (r : Int) : List Int := cs.map (sgnS r)
def bordM (rs cs : List Int) : List (List Int) := rs.map (bRow cs)
theorem bRow_len (cs : List Int) (r : Int) : (bRow cs r).length = cs.length := by simp [bRow]
theorem bRow_gi {cs : List Int} {r : Int} {j : Nat} (h : j < cs.length) : gi (bRow cs r) j = sgnS r (gi cs j) := by simp [gi, bRow, List.getD, h]
theorem bordM_len (rs cs : List Int) : (bordM rs cs).length = rs.length := by simp [bordM]
theorem bordM_succ {rs : List Int} (cs : List Int) {j : Nat} (h : j < rs.length) : bordM (rs.take (j + 1)) cs = bordM (rs.take j) cs ++ [bRow cs (gi rs j)] := by
  rw [take_succ_gi h, bordM, List.map_append]; rfl
theorem bordM_gr {rs cs : List Int} {j : Nat} (h : j < rs.length) : gr (bordM rs cs) j = bRow cs (gi rs j) := by simp [gr, bordM, List.getD, h, gi]
set_option maxHeartbeats 4000000 in
set_option maxRecDepth 100000 in
theorem borderOf_c (va vb : Value) (rs cs : List Int) (k : Int) (w : World) (ha : Rd w va (ints rs)) (hb : Rd w vb (ints cs)) (hr : ∀ x ∈ rs, 0 ≤ x ∧ x < 64 ∧ pc x = k - 1) (hc : ∀ x ∈ cs, 0 ≤ x ∧ x < 64 ∧ pc x = k) (lr : rs.length ≤ 64) (lc : cs.length ≤ 64) :
    Calls Try.prog 143 #[va, vb] w fun e w' => ∃ v vs, e = .returned v ∧ vs.length = (bordM rs cs).length ∧ St w w' (⟨v, 26, vs⟩ :: rowsOn vs (bordM rs cs) []) := by
  have la := ha.iln tI
  have lb := hb.iln tI
  have HR := hid hr
  have HC := hid hc
  obtain ⟨M, hM⟩ : ∃ M, M = bordM rs cs := ⟨_, rfl⟩
  rw [← hM]
  have hml : M.length = rs.length := by rw [hM, bordM_len]
  have HM : Hid (∀ j, j < rs.length → gr M j = bRow cs (gi rs j)) := fun j hj => by rw [hM]; exact bordM_gr hj
  clear hr hc hM
  go_enter Try.func143, Try.ntmps143
  go_wp2_with (at_make; refine wpList_mk rfl _ _ rfl tSS (St.start w).own rs.length (by omega) rfl rfl ?_)
  intro u w1 hO hB
  have hS0 := (St.mk hO hB : St w w1 _).nilRows rs.length
  rw [← hml, ← partM_zero, hml] at hS0
  have HS0 := hid hS0
  clear hO hB hS0
  go_wp2_with fail
  go_loopw [15] (fun i wr => ∃ (i' : Nat) (vs : List Value), i' ≤ rs.length ∧ i = .int .i64 i' ∧ vs.length = M.length ∧ St w wr (⟨u, 26, vs⟩ :: rowsOn vs (partM M i') [])) (fun i _ => rs.length - (intOf i).toNat)
  case atStart => exact ⟨0, _, by omega, rfl, by simp [hml], HS0.out⟩
  case round =>
    obtain ⟨i, vs, hi, rfl, hvl, hS⟩ := hrel
    have HL := hid hvl
    have HS := hid hS
    have ha1 := hS.old ha
    by_cases hlt : i < rs.length
    · have f1 := ha1.iix tI i hlt
      have f2 := ha1.intCell i hlt
      have hiv : i < vs.length := by omega
      have hpl : vs.length = (partM M i).length := by rw [partM_len]; exact hvl
      obtain ⟨r0, r1, r2⟩ := HR.out _ (gi_mem hlt)
      have q0 : decide ((i : Int) < (rs.length : Int)) = true := decide_eq_true (by omega)
      clear hS hvl
      go_wp2_with (at_make; refine wpList_mk rfl _ _ rfl tI HS.out.own cs.length (by omega) rfl rfl ?_)
      intro r w2 hO hB
      have hS2 := HS.out.mut hO (hB.mono HS.out.bel.size)
      rw [ints_zeros] at hS2
      obtain ⟨rp, rl, rc, rfl⟩ := hS2.hd.form
      have g1 := hS2.hd2.ix tSS i hiv
      have g2 : w2.cell? (adr u i) = some (gv vs i) := by rw [hS2.hd2.cell i hiv, gv_get hiv]
      have g3 : w2.frozen? (adr u i) = false := hS2.own.free (.tail _ (.head _)) i hiv
      have hS3 := (hS2.swap.set i hiv (.slice rp rl rc)).swap.putRow hpl (k := i) (by rw [partM_len]; omega)
      have hrow : gr M i = bRow cs (gi rs i) := HM.out i hlt
      have e0 : List.replicate cs.length (0 : Int) = fillTo (gr M i) 0 := by rw [hrow, fillTo_zero, bRow_len]
      rw [e0] at hS3
      have HS3 := hid hS3
      have EN := hid (partM_succ (M := M) (i := i) (by omega))
      have hrl : (gr M i).length = cs.length := by rw [hrow, bRow_len]
      have HG : Hid (∀ j, j < cs.length → gi (gr M i) j = sgnS (gi rs i) (gi cs j)) := fun j hj => by rw [hrow]; exact bRow_gi hj
      clear hO hB hS2 hS3 e0 hrow
      go_wp2_with fail
      obtain ⟨w3, hw3⟩ : ∃ w3, w3 = w2.setCell (adr u i) (.slice rp rl rc) := ⟨_, rfl⟩
      rw [← hw3]
      rw [← hw3] at HS3
      clear hw3 g2 g3 f2
      have hb3 := HS3.out.old hb
      have lb3 := hb3.iln tI
      go_loopw [28] (fun j' wr => ∃ (j : Nat), j ≤ cs.length ∧ j' = .int .i64 j ∧ St w wr (⟨u, 26, vs.set i (.slice rp rl rc)⟩ :: rowsOn (vs.set i (.slice rp rl rc)) ((partM M i).set i (fillTo (gr M i) j)) [])) (fun j' _ => cs.length - (intOf j').toNat)
      case atStart => exact ⟨0, by omega, rfl, HS3.out⟩
      case round =>
        obtain ⟨j, hj, rfl, hS⟩ := hrel
        obtain ⟨wo, rfl⟩ : ∃ wo : World, wo = wr := ⟨_, rfl⟩
        have HS4 := hid hS
        have hb4 := hS.old hb
        have hl2 : (vs.set i (.slice rp rl rc)).length = ((partM M i).set i (fillTo (gr M i) j)).length := by have := HL.out; simp [partM_len]; omega
        have hk2 : i < ((partM M i).set i (fillTo (gr M i) j)).length := by simp [partM_len]; omega
        have eg : gr ((partM M i).set i (fillTo (gr M i) j)) i = fillTo (gr M i) j := by rw [gr_set (by rw [partM_len]; omega), if_pos rfl]
        have ev : gv (vs.set i (.slice rp rl rc)) i = .slice rp rl rc := by rw [gv_set hiv, if_pos rfl]
        by_cases hjl : j < cs.length
        · have b1 := hb4.iix tI j hjl
          have b2 := hb4.intCell j hjl
          obtain ⟨s0, s1, s2⟩ := HC.out _ (gi_mem hjl)
          have q1 : decide ((j : Int) < (cs.length : Int)) = true := decide_eq_true (by omega)
          have hM' := hS.rdM hl2
          have g1 := hM'.ix i hk2
          have g2 := hM'.cell i hk2
          have hrow := hM'.row i hk2
          rw [ev] at g2
          rw [ev, eg] at hrow
          have hjf : j < (fillTo (gr M i) j).length := by rw [fillTo_len _ _ (by omega)]; omega
          have g3 := hrow.iix tI j hjf
          have g4 := hrow.intCell j hjf
          have g5 : wo.frozen? (adr (.slice rp rl rc) j) = false := by
            have := hS.freeRow hl2 hk2 (j := j) (by rw [eg]; exact hjf)
            rwa [ev] at this
          have hS5 := (hS.drewN 1).setAt hl2 hk2 (j := j) (by rw [eg]; exact hjf) (sgnS (gi rs i) (gi cs j))
          rw [ev, eg, set_set', ← HG.out j hjl, fillTo_succ (by omega), HG.out j hjl] at hS5
          have HS5 := hid hS5
          clear hS hM' hrow hS5 eg ev hl2 hk2
          go_wp2_with fail
          go_region_with (go_at_call 175; refine (borderSign_c _ _ _ r0 r1 s0 s1 (by omega)).mono ?_; rintro e w' ⟨rfl, rfl⟩)
          all_goals
            go_wp2_with fail
            go_roundw
            case rel => exact ⟨j + 1, by omega, by go_num, HS5.out⟩
            case measure => simp [intOf]; omega
        · have ef : Hid (fillTo (gr M i) j = gr M i) := fillTo_all (by omega)
          have q1 : decide ((j : Int) < (cs.length : Int)) = false := decide_eq_false (by omega)
          clear hS eg ev hl2 hk2
          go_wp2_with fail
          go_roundw
          case rel =>
            have := HS4.out
            rw [ef.out, EN.out] at this
            exact ⟨i + 1, _, by omega, by go_num, by have := HL.out; simp; omega, this⟩
          case measure => simp [intOf]; omega
    · have ep : Hid (partM M i = M) := partM_all (by omega)
      clear hS hvl
      go_wp2_with fail
      go_ret
      exact ⟨_, vs, rfl, HL.out, by have := HS.out; rwa [ep.out] at this⟩

set_option maxHeartbeats 4000000 in
set_option maxRecDepth 100000 in
theorem l13Border_c (n : Int) (va : Value) (xs : List Int) (k : Int) (w : World) (ha : Rd w va (ints xs)) (k0 : -1000 ≤ k) (k1 : k ≤ 1000) : Calls Try.prog 135 #[cx n va, .int .i64 k] w fun e w' => ∃ v vs, e = .returned v ∧ vs.length = (bordM (fosB n xs (k - 1)) (fosB n xs k)).length ∧ St w w' (⟨v, 26, vs⟩ :: rowsOn vs (bordM (fosB n xs (k - 1)) (fosB n xs k)) []) := by
  obtain ⟨p1, l1, kk1, rfl⟩ := ha.form
  have hS := ((St.start w).box n (.slice p1 l1 kk1) 30).newAt #[] 26 (by simp) (H := w.heap.size + 1) (by simp)
  have ha' := hS.old ha
  have HS := hid hS
  clear hS
  have lr := fosB_len n xs (k - 1)
  have lc := fosB_len n xs k
  have HR := hid (fosB_rng n xs (k - 1))
  have HC := hid (fosB_rng n xs k)
  unfold cx
  go_enter Try.func135, Try.ntmps135
  go_wp2_with fail
  refine (sFacesOfSize_c n _ xs (k - 1) _ ha').mono ?_
  rintro e w1 ⟨ur, rfl, hS1⟩
  have HS1 := hid (HS.out.call1 hS1)
  clear hS1
  have d0 := HS1.out.hd3.c0
  have d1 := HS1.out.hd3.c1
  have ha1 := HS1.out.old ha
  go_wp2_with fail
  refine (sFacesOfSize_c n _ xs k _ ha1).mono ?_
  generalize hrs : fosB n xs (k - 1) = rs at *
  generalize hcs : fosB n xs k = cs at *
  have ER := hid hrs
  have EC := hid hcs
  clear hrs hcs
  rintro e w2 ⟨uc, rfl, hS2⟩
  have hS3 := HS1.out.call1 hS2
  have HS3 : Hid (St w w2 (⟨.slice (some ⟨w.heap.size + 1, 0, none⟩) 0 0, 26, []⟩ :: rowsOn [] [] [⟨uc, 3, ints cs⟩, ⟨ur, 3, ints rs⟩])) :=
    (hS3.perm (List.perm_middle (l₁ := [_, _]))).sub (.cons_cons _ (.cons_cons _ (.cons_cons _ (List.nil_sublist _))))
  clear hS2 hS3 d0 d1
  go_wp2_with fail
  go_loopw [5, 8] (fun o i wr => ∃ (i' : Nat) (u : Value) (vs : List Value), i' ≤ rs.length ∧ i = .int .i64 i' ∧ o = u ∧ vs.length = (bordM (rs.take i') cs).length ∧ St w wr (⟨u, 26, vs⟩ :: rowsOn vs (bordM (rs.take i') cs) [⟨uc, 3, ints cs⟩, ⟨ur, 3, ints rs⟩])) (fun _ i _ => rs.length - (intOf i).toNat)
  case atStart => exact ⟨0, _, [], by omega, rfl, rfl, by simp [bordM], HS3.out⟩
  case round =>
    obtain ⟨i, u, vs, hi, rfl, ho, hvl, hS⟩ := hrel
    have ho' := ho.symm
    subst ho'
    have HL := hid hvl
    have HS := hid hS
    have hc1 := hS.dropRows.hd
    have hr1 := hS.dropRows.hd2
    have lrr := hr1.iln tI
    by_cases hlt : i < rs.length
    · obtain ⟨r0, r1, r2⟩ := HR.out _ (gi_mem hlt)
      have q0 : decide ((i : Int) < (rs.length : Int)) = true := decide_eq_true (by omega)
      have hvn : vs.length = i := by rw [hvl, bordM_len]; simp; omega
      clear hS hvl hc1
      go_wp2_with fail
      clear lrr
      go_loopw [9, 10] (fun o j' wr => ∃ (j : Nat) (r : Value), j ≤ cs.length ∧ j' = .int .i64 j ∧ o = r ∧ St w wr (⟨r, 3, ints ((bRow cs (gi rs i)).take j)⟩ :: ⟨u, 26, vs⟩ :: rowsOn vs (bordM (rs.take i) cs) [⟨uc, 3, ints cs⟩, ⟨ur, 3, ints rs⟩])) (fun _ j' _ => cs.length - (intOf j').toNat)
      case atStart => exact ⟨0, _, by omega, rfl, rfl, HS.out.newAt #[] _ (by simp) rfl⟩
      case round =>
        obtain ⟨j, r, hj, rfl, ho, hS⟩ := hrel
        have ho' := ho.symm
        subst ho'
        obtain ⟨wo, rfl⟩ : ∃ wo : World, wo = wr := ⟨_, rfl⟩
        have HS4 := hid hS
        have hc2 := hS.tail.dropRows.hd
        have hr2 := hS.tail.dropRows.hd2
        have lcc := hc2.iln tI
        by_cases hjl : j < cs.length
        · have b1 := hc2.iix tI j hjl
          have b2 := hc2.intCell j hjl
          have a1 := hr2.iix tI i hlt
          have a2 := hr2.intCell i hlt
          obtain ⟨s0, s1, s2⟩ := HC.out _ (gi_mem hjl)
          have q1 : decide ((j : Int) < (cs.length : Int)) = true := decide_eq_true (by omega)
          obtain ⟨J, hJ⟩ : ∃ J, J = sgnS (gi rs i) (gi cs j) := ⟨_, rfl⟩
          have E2 : Hid ((bRow cs (gi rs i)).take (j + 1) = (bRow cs (gi rs i)).take j ++ [J]) := by
            show _ = _
            rw [take_succ_gi (by rw [bRow_len]; exact hjl), bRow_gi hjl, hJ]
          have HC2 : Hid (∀ w : World, Calls Try.prog 173 #[.int .i64 (gi rs i), .int .i64 (gi cs j)] w fun e w' => e = .returned (.int .i64 J) ∧ w = w') := fun w => by rw [hJ]; exact l13Sign_c _ _ w r0 r1 s0 s1 (by omega)
          have hll : ((bRow cs (gi rs i)).take j).length ≤ 64 := by simp [bRow_len]; omega
          have HA : Hid (St w (wo.alloc (.cells #[.int .i64 J] 3)).drew _) := (hS.alloc (.cells #[.int .i64 J] 3)).drewN 1
          have HN : Hid (Rd (wo.alloc (.cells #[.int .i64 J] 3)).drew (.slice (some ⟨wo.heap.size, 0, none⟩) 1 1) [.int .i64 J]) := (hS.new #[.int .i64 J] 3 (by simp [maxLen])).hd.drew 1
          clear hS hJ
          go_wp2_with fail
          go_region_law (first | (refine step_app rfl (.tmp 32) (.tmp 42) rfl tI HA.out.own [.int .i64 J] HN.out (by simp [Value.oneCell']) (by simp only [length_ints, List.length_singleton]; omega) rfl rfl ?_; intro v2 w2 hO2 hb2) | (go_simp; go_at_call 173; refine (HC2.out _).mono ?_; rintro e w' ⟨rfl, rfl⟩))
          all_goals
            go_wp2_with fail
            go_roundw
            case rel => exact ⟨j + 1, v2, by omega, by go_num, rfl, by rw [E2.out, ints_append]; exact HA.out.mut hO2 hb2⟩
            case measure => simp [intOf]; omega
        · have ef : Hid ((bRow cs (gi rs i)).take j = bRow cs (gi rs i)) := List.take_of_length_le (by rw [bRow_len]; omega)
          have q1 : decide ((j : Int) < (cs.length : Int)) = false := decide_eq_false (by omega)
          obtain ⟨rp, rl, rc, hrf⟩ := hS.hd.form
          subst hrf
          clear hS
          have E3 := hid (bordM_succ cs hlt)
          go_wp2_with (at_builtin; refine wpList_push rfl _ _ rfl tSS HS4.out.swap.own (.slice rp rl rc) rfl (by omega) rfl rfl ?_)
          intro v2 w2 hO2 hb2
          go_wp2_with fail
          go_roundw
          case rel =>
            have h6 := (HS4.out.swap.mut hO2 hb2)
            rw [ef.out] at h6
            have h7 := h6.snocRow HL.out
            rw [← E3.out] at h7
            exact ⟨i + 1, v2, _, by omega, by go_num, rfl, by rw [E3.out]; simp; exact HL.out, h7⟩
          case measure => simp [intOf]; omega
    · have et : Hid (rs.take i = rs) := List.take_of_length_le (by omega)
      clear hS hvl
      go_wp2_with fail
      go_ret
      have h8 := HS.out
      have h9 := HL.out
      rw [et.out] at h8 h9
      have h10 : St w _ (⟨u, 26, vs⟩ :: rowsOn vs (bordM rs cs) []) := h8.sub (.cons_cons _ (List.Sublist.append_left (List.nil_sublist _) _))
      exact ⟨_, rfl, vs, by rw [ER.out, EC.out]; exact h9, by rw [ER.out, EC.out]; exact h10⟩

end Go.Proofs.Ytjaofbdfhcgmeaa
