/-
  TimesMatrix.
-/
import Derived.Test.YtjaofbdfhcgmeaaTurn
import Derived.Test.YtjaofbdfhcgmeaaRed
namespace Go.Proofs.Ytjaofbdfhcgmeaa
open Go.RowKit

def dotTo (a b : List (List Int)) (i j : Nat) : Nat → Int
  | 0 => 0
  | k + 1 => dotTo a b i j k + gi (gr a i) k * gi (gr b k) j
def prodR (a b : List (List Int)) (W i : Nat) : List Int := (List.range W).map fun j => dotTo a b i j b.length
def prodM (a b : List (List Int)) (W : Nat) : List (List Int) := (List.range a.length).map (prodR a b W)
def TimesOk (a b : List (List Int)) : Prop := 0 < a.length ∧ 0 < b.length ∧ Fit a ∧ Fit b ∧ (gr a 0).length = b.length
open Classical in
noncomputable def timesB (a b : List (List Int)) : Bool := decide (TimesOk a b)
open Classical in
noncomputable def timesM (a b : List (List Int)) : List (List Int) := if TimesOk a b then prodM a b (gr b 0).length else []
theorem timesB_t {a b : List (List Int)} (h : TimesOk a b) : timesB a b = true := by simp [timesB, h]
theorem timesB_f {a b : List (List Int)} (h : ¬ TimesOk a b) : timesB a b = false := by simp [timesB, h]
theorem timesM_t {a b : List (List Int)} (h : TimesOk a b) : timesM a b = prodM a b (gr b 0).length := if_pos h
theorem timesM_f {a b : List (List Int)} (h : ¬ TimesOk a b) : timesM a b = [] := if_neg h
theorem prodR_len (a b : List (List Int)) (W i : Nat) : (prodR a b W i).length = W := by simp [prodR]
theorem prodM_len (a b : List (List Int)) (W : Nat) : (prodM a b W).length = a.length := by simp [prodM]
theorem prodR_gi {a b : List (List Int)} {W i j : Nat} (h : j < W) : gi (prodR a b W i) j = dotTo a b i j b.length := by simp [gi, prodR, List.getD, h]
theorem prodM_gr {a b : List (List Int)} {W i : Nat} (h : i < a.length) : gr (prodM a b W) i = prodR a b W i := by simp [gr, prodM, List.getD, h]
theorem fit_gi {M : List (List Int)} (h : Fit M) (k j : Nat) : -1000 ≤ gi (gr M k) j ∧ gi (gr M k) j ≤ 1000 := by
  by_cases hk : k < M.length
  · by_cases hj : j < (gr M k).length
    · exact h.2.2.2 k hk j hj
    · rw [gi_out (by omega)]; omega
  · rw [gr_nil (by omega), gi_out (by simp)]; omega
theorem mul_bd {x y : Int} (hx : -1000 ≤ x ∧ x ≤ 1000) (hy : -1000 ≤ y ∧ y ≤ 1000) : -1000000 ≤ x * y ∧ x * y ≤ 1000000 := by
  have h1 : (x * y).natAbs ≤ 1000 * 1000 := by
    rw [Int.natAbs_mul]
    exact Nat.mul_le_mul (by omega) (by omega)
  omega
theorem dotTo_rng {a b : List (List Int)} (ha : Fit a) (hb : Fit b) (i j k : Nat) : -1000000 * (k : Int) ≤ dotTo a b i j k ∧ dotTo a b i j k ≤ 1000000 * (k : Int) := by
  induction k with
  | zero => simp [dotTo]
  | succ k ih =>
    have := mul_bd (fit_gi ha i k) (fit_gi hb k j)
    rw [dotTo]; omega
theorem timesM_cnt (a b : List (List Int)) : cnt (timesM a b) ≤ 1048576 := by
  by_cases h : TimesOk a b
  · rw [timesM_t h]
    have h1 := cntTo_same (M := prodM a b (gr b 0).length) (W := (gr b 0).length) (fun k hk => by rw [prodM_len] at hk; rw [prodM_gr hk, prodR_len]) (Nat.le_refl _)
    unfold cnt
    rw [h1, prodM_len]
    have h2 := h.2.2.1.1
    have h3 := h.2.2.2.1.2.2.1 0 h.2.1
    have := Nat.mul_le_mul h3 h2
    omega
  · rw [timesM_f h]; simp [cnt, cntTo]
theorem fillTo_at {r : List Int} {j : Nat} (h : j < r.length) : gi (fillTo r j) j = 0 := by
  simp only [gi, fillTo, List.getD]
  rw [List.getElem?_append_right (by rw [List.length_take]; omega), List.length_take, Nat.min_eq_left (by omega), Nat.sub_self, List.getElem?_replicate, if_pos (by omega)]
  rfl
theorem fillTo_put {r : List Int} {j : Nat} (h : j < r.length) : (fillTo r j).set j 0 = fillTo r j := giExt (by simp) fun k hk => by
  have hl := fillTo_len r j (by omega)
  rw [giSet (by omega)]
  split
  · rename_i e; subst e; exact (fillTo_at h).symm
  · rfl

set_option maxHeartbeats 8000000 in
set_option maxRecDepth 100000 in
theorem TimesMatrix_c (va vb : Value) (bs cs : List Value) (a b : List (List Int)) (w : World) (ha : RdM w va bs a) (hb : RdM w vb cs b) :
    Calls Try.prog 70 #[va, vb] w fun e w' => ∃ v vs, e = .returned (.tuple #[v, .bool (timesB a b)]) ∧ vs.length = (timesM a b).length ∧ St w w' (⟨v, 26, vs⟩ :: rowsOn vs (timesM a b) []) := by
  have la := ha.ln
  have lb := hb.ln
  have ll1 := ha.le
  have ll2 := hb.le
  by_cases h0 : a.length = 0
  · have q0 : ((a.length : Int) == 0) = true := by simp [h0]
    have EB := timesB_f (a := a) (b := b) (fun h => by have := h.1; omega)
    have EM := timesM_f (a := a) (b := b) (fun h => by have := h.1; omega)
    rw [EB, EM]
    clear h0 EB EM
    go_enter Try.func70, Try.ntmps70
    go_wp2_with fail
    go_ret2
    exact ⟨.slice none 0 0, [], rfl, rfl, (St.start w).nilRow _⟩
  · have q0 : ((a.length : Int) == 0) = false := by rw [beq_eq_false_iff_ne]; omega
    by_cases h1 : b.length = 0
    · have q1 : ((b.length : Int) == 0) = true := by simp [h1]
      have EB := timesB_f (a := a) (b := b) (fun h => by have := h.2.1; omega)
      have EM := timesM_f (a := a) (b := b) (fun h => by have := h.2.1; omega)
      rw [EB, EM]
      clear h0 h1 EB EM
      go_enter Try.func70, Try.ntmps70
      go_wp2_with fail
      go_ret2
      exact ⟨.slice none 0 0, [], rfl, rfl, (St.start w).nilRow _⟩
    · have q1 : ((b.length : Int) == 0) = false := by rw [beq_eq_false_iff_ne]; omega
      cases hfa : fitM a with
      | false =>
        have EB := timesB_f (a := a) (b := b) (fun h => by have := fitM_t h.2.2.1; rw [hfa] at this; cases this)
        have EM := timesM_f (a := a) (b := b) (fun h => by have := fitM_t h.2.2.1; rw [hfa] at this; cases this)
        rw [EB, EM]
        clear h0 h1 EB EM
        go_enter Try.func70, Try.ntmps70
        go_wp2_with (go_at_call 147; refine (isSmallMatrix_c _ _ a _ ha).mono ?_; rw [hfa]; rintro e w' ⟨rfl, rfl⟩)
        go_ret2
        exact ⟨.slice none 0 0, [], rfl, rfl, (St.start w).nilRow _⟩
      | true =>
        cases hfb : fitM b with
        | false =>
          have EB := timesB_f (a := a) (b := b) (fun h => by have := fitM_t h.2.2.2.1; rw [hfb] at this; cases this)
          have EM := timesM_f (a := a) (b := b) (fun h => by have := fitM_t h.2.2.2.1; rw [hfb] at this; cases this)
          rw [EB, EM]
          clear h0 h1 EB EM
          go_enter Try.func70, Try.ntmps70
          go_wp2_with fail
          refine (isSmallMatrix_c _ _ a _ ha).mono ?_
          rw [hfa]
          rintro e w' ⟨rfl, rfl⟩
          go_wp2_with fail
          refine (isSmallMatrix_c _ _ b _ hb).mono ?_
          rw [hfb]
          rintro e w' ⟨rfl, rfl⟩
          go_wp2_with fail
          go_ret2
          exact ⟨.slice none 0 0, [], rfl, rfl, (St.start w).nilRow _⟩
        | true =>
          have HFA : Hid (Fit a) := fitM_iff.1 hfa
          have HFB : Hid (Fit b) := fitM_iff.1 hfb
          have apos : 0 < a.length := by omega
          have bpos : 0 < b.length := by omega
          have g1 := ha.ix 0 apos
          have g2 := ha.cell 0 apos
          have g3 := (ha.row 0 apos).iln tI
          rw [show ((0 : Nat) : Int) = 0 from rfl] at g1
          by_cases hne : (gr a 0).length = b.length
          · have d : (((gr a 0).length : Int) != (b.length : Int)) = false := by simp [hne]
            have hOk : TimesOk a b := ⟨apos, bpos, HFA.out, HFB.out, hne⟩
            have EB := timesB_t hOk
            have EM := hid (timesM_t hOk)
            rw [EB]
            have HA := hid ha
            have HB := hid hb
            have i1 := hb.ix 0 bpos
            have i2 := hb.cell 0 bpos
            obtain ⟨W, hW⟩ : ∃ W, W = (gr b 0).length := ⟨_, rfl⟩
            have HW := hid hW
            have hW30 : W ≤ 30 := by rw [hW]; exact HFB.out.2.2.1 0 bpos
            have ha30 := HFA.out.1
            have hb30 := HFB.out.1
            have HRA : Hid (∀ k, k < a.length → (gr a k).length = b.length) := fun k hk => by rw [HFA.out.2.1 k hk, hne]
            have HRB : Hid (∀ k, k < b.length → (gr b k).length = W) := fun k hk => by rw [HFB.out.2.1 k hk, hW]
            obtain ⟨T, hT⟩ : ∃ T, T = prodM a b W := ⟨_, rfl⟩
            have hTl : T.length = a.length := by rw [hT, prodM_len]
            have HT : Hid (∀ i, i < a.length → gr T i = prodR a b W i) := fun i hi => by rw [hT]; exact prodM_gr hi
            have HTE : Hid (prodM a b W = T) := hT.symm
            clear h0 h1 hne hOk EB hW hT
            go_enter Try.func70, Try.ntmps70
            go_wp2_with fail
            refine (isSmallMatrix_c _ _ a _ ha).mono ?_
            rw [hfa]
            rintro e w' ⟨rfl, rfl⟩
            go_wp2_with fail
            refine (isSmallMatrix_c _ _ b _ hb).mono ?_
            rw [hfb]
            rintro e w' ⟨rfl, rfl⟩
            go_wp2_with (at_make; refine wpList_mk rfl _ _ rfl tSS (St.start w).own a.length (by omega) rfl rfl ?_)
            intro u w1 hO hB
            have hS0 := (St.mk hO hB : St w w1 _).nilRows a.length
            rw [← hTl, ← partM_zero, hTl] at hS0
            have HS0 := hid hS0
            clear hO hB hS0 hfa hfb g1 g2 g3 i1 i2 ha hb
            go_wp2_with fail
            go_loopw [38] (fun c wr => ∃ (i : Nat) (vs : List Value), i ≤ a.length ∧ c = .int .i64 i ∧ vs.length = T.length ∧ St w wr (⟨u, 26, vs⟩ :: rowsOn vs (partM T i) [])) (fun c _ => a.length - (intOf c).toNat)
            case atStart => exact ⟨0, _, by omega, rfl, by simp [hTl], HS0.out⟩
            case round =>
              obtain ⟨i, vs, hi, rfl, hvl, hS⟩ := hrel
              have HL := hid hvl
              have HS := hid hS
              have hb1 := hS.oldM HB.out
              by_cases hlt : i < a.length
              · have i1 := hb1.ix 0 bpos
                have i2 := hb1.cell 0 bpos
                have i3 := (hb1.row 0 bpos).iln tI
                rw [HRB.out 0 bpos] at i3
                rw [show ((0 : Nat) : Int) = 0 from rfl] at i1
                have hiv : i < vs.length := by omega
                have hpl : vs.length = (partM T i).length := by rw [partM_len]; exact hvl
                have q2 : decide ((i : Int) < (a.length : Int)) = true := decide_eq_true (by omega)
                clear hS hvl hb1
                go_wp2_with (at_make; refine wpList_mk rfl _ _ rfl tI HS.out.own W (by omega) rfl rfl ?_)
                intro r w2 hO hB
                have hS2 := HS.out.mut hO (hB.mono HS.out.bel.size)
                rw [ints_zeros] at hS2
                obtain ⟨rp, rl, rc, hrf⟩ := hS2.hd.form'
                subst hrf
                have g1 := hS2.hd2.ix tSS i hiv
                have g2 : w2.cell? (adr u i) = some (gv vs i) := by rw [hS2.hd2.cell i hiv, gv_get hiv]
                have g3 : w2.frozen? (adr u i) = false := hS2.own.free (.tail _ (.head _)) i hiv
                have hSa := hS2.swap.set i hiv (.slice rp rl rc)
                have g4 : (w2.setCell (adr u i) (.slice rp rl rc)).cell? (adr u i) = some (.slice rp rl rc) := by
                  rw [hSa.hd.cell i (by simp; exact hiv)]; simp [hiv]
                have hSl := hSa.hd2.iln tI
                rw [List.length_replicate] at hSl
                have hS3 := hSa.swap.putRow hpl (k := i) (by rw [partM_len]; omega)
                have hrow : gr T i = prodR a b W i := HT.out i hlt
                have e0 : List.replicate W (0 : Int) = fillTo (gr T i) 0 := by rw [hrow, fillTo_zero, prodR_len]
                rw [e0] at hS3
                have HS3 := hid hS3
                have EN := hid (partM_succ (M := T) (i := i) (by omega))
                have hrl : (gr T i).length = W := by rw [hrow, prodR_len]
                have HG : Hid (∀ j, j < W → gi (gr T i) j = dotTo a b i j b.length) := fun j hj => by rw [hrow]; exact prodR_gi hj
                clear hO hB hS2 hS3 e0 hrow hSa i1 i2 i3
                go_wp2_with fail
                obtain ⟨w3, hw3⟩ : ∃ w3, w3 = w2.setCell (adr u i) (.slice rp rl rc) := ⟨_, rfl⟩
                rw [← hw3]
                rw [← hw3] at HS3
                clear hw3 g1 g2 g3 g4 hSl
                go_loopw [54] (fun c wr => ∃ j : Nat, j ≤ W ∧ c = .int .i64 j ∧ St w wr (⟨u, 26, vs.set i (.slice rp rl rc)⟩ :: rowsOn (vs.set i (.slice rp rl rc)) ((partM T i).set i (fillTo (gr T i) j)) [])) (fun c _ => W - (intOf c).toNat)
                case atStart => exact ⟨0, by omega, rfl, HS3.out⟩
                case round =>
                  obtain ⟨j, hj, rfl, hS⟩ := hrel
                  have HSj := hid hS
                  have lb4 := (hS.oldM HB.out).ln
                  by_cases hjW : j < W
                  · have q3 : decide ((j : Int) < (W : Int)) = true := decide_eq_true (by omega)
                    have E0 : Hid ((fillTo (gr T i) j).set j (dotTo a b i j 0) = fillTo (gr T i) j) := fillTo_put (by omega)
                    have E1 : Hid ((fillTo (gr T i) j).set j (dotTo a b i j b.length) = fillTo (gr T i) (j + 1)) := by
                      show _ = _
                      rw [← HG.out j hjW, fillTo_succ (by omega)]
                    clear hS
                    go_wp2_with fail
                    go_loopw [59] (fun c wr => ∃ k : Nat, k ≤ b.length ∧ c = .int .i64 k ∧ St w wr (⟨u, 26, vs.set i (.slice rp rl rc)⟩ :: rowsOn (vs.set i (.slice rp rl rc)) ((partM T i).set i ((fillTo (gr T i) j).set j (dotTo a b i j k))) [])) (fun c _ => b.length - (intOf c).toNat)
                    case atStart => exact ⟨0, by omega, rfl, by rw [E0.out]; exact HSj.out⟩
                    case round =>
                      obtain ⟨k, hk, rfl, hS⟩ := hrel
                      obtain ⟨wo, rfl⟩ : ∃ wo : World, wo = wr := ⟨_, rfl⟩
                      obtain ⟨D, hD⟩ : ∃ D, D = (fillTo (gr T i) j).set j (dotTo a b i j k) := ⟨_, rfl⟩
                      rw [← hD] at hS
                      have hDl : D.length = W := by rw [hD, List.length_set, fillTo_len _ _ (by omega)]; exact hrl
                      have hDg : gi D j = dotTo a b i j k := by rw [hD, giSet (by rw [fillTo_len _ _ (by omega)]; omega), if_pos rfl]
                      have EDs : Hid (D.set j (dotTo a b i j (k + 1)) = (fillTo (gr T i) j).set j (dotTo a b i j (k + 1))) := by show _ = _; rw [hD, set_set']
                      have HDD := hid hD
                      clear hD
                      have HS4 := hid hS
                      have ha4 := hS.oldM HA.out
                      have hb4 := hS.oldM HB.out
                      have hl2 : (vs.set i (.slice rp rl rc)).length = ((partM T i).set i D).length := by have := HL.out; simp [partM_len]; omega
                      have hk2 : i < ((partM T i).set i D).length := by simp [partM_len]; omega
                      have eg : gr ((partM T i).set i D) i = D := by rw [gr_set (by rw [partM_len]; omega), if_pos rfl]
                      have ev : gv (vs.set i (.slice rp rl rc)) i = .slice rp rl rc := by rw [gv_set hiv, if_pos rfl]
                      by_cases hkb : k < b.length
                      · have q4 : decide ((k : Int) < (b.length : Int)) = true := decide_eq_true (by omega)
                        have a1 := ha4.ix i hlt
                        have a2 := ha4.cell i hlt
                        have hra := ha4.row i hlt
                        have a3 := hra.iix tI k (by rw [HRA.out i hlt]; exact hkb)
                        have a4 := hra.intCell k (by rw [HRA.out i hlt]; exact hkb)
                        have b1 := hb4.ix k hkb
                        have b2 := hb4.cell k hkb
                        have hrb := hb4.row k hkb
                        have b3 := hrb.iix tI j (by rw [HRB.out k hkb]; exact hjW)
                        have b4 := hrb.intCell j (by rw [HRB.out k hkb]; exact hjW)
                        have hM' := hS.rdM hl2
                        have g1 := hM'.ix i hk2
                        have g2 := hM'.cell i hk2
                        have hrow := hM'.row i hk2
                        rw [ev] at g2
                        rw [ev, eg] at hrow
                        have g3 := hrow.iix tI j (by omega)
                        have g4 := hrow.intCell j (by omega)
                        rw [hDg] at g4
                        have g5 : wo.frozen? (adr (.slice rp rl rc) j) = false := by
                          have := hS.freeRow hl2 hk2 (j := j) (by rw [eg]; omega)
                          rwa [ev] at this
                        have hS5 := (hS.drewN 1).setAt hl2 hk2 (j := j) (by rw [eg]; omega) (dotTo a b i j (k + 1))
                        rw [ev, eg, set_set', EDs.out] at hS5
                        have HS5 := hid hS5
                        obtain ⟨m0, m1⟩ := mul_bd (fit_gi HFA.out i k) (fit_gi HFB.out k j)
                        obtain ⟨n0, n1⟩ := dotTo_rng HFA.out HFB.out i j k
                        have en : dotTo a b i j (k + 1) = dotTo a b i j k + gi (gr a i) k * gi (gr b k) j := rfl
                        obtain ⟨X, hX⟩ : ∃ X, X = dotTo a b i j (k + 1) := ⟨_, rfl⟩
                        have HX := hid hX
                        rw [← hX] at HS5 en
                        obtain ⟨Z, hZ⟩ : ∃ Z, Z = gi (gr a i) k * gi (gr b k) j := ⟨_, rfl⟩
                        have hZ2 : gi (gr a i) k * gi (gr b k) j = Z := hZ.symm
                        rw [hZ2] at m0 m1 en
                        have hX2 : dotTo a b i j k + Z = X := en.symm
                        have t1 : IntKind.i64.wrap Z = Z := IntWalk.i64_in Z (by omega)
                        have t2 : IntKind.i64.wrap X = X := IntWalk.i64_in X (by omega)
                        clear hS hS5 hM' hrow eg ev hl2 hk2 hra hrb ha4 hb4 hX hZ en hDg EDs
                        go_wp2_with fail
                        go_region
                        all_goals
                          go_wp2_with fail
                          go_roundw
                          case rel => exact ⟨k + 1, by omega, by go_num, by rw [← HX.out]; exact HS5.out⟩
                          case measure => simp [intOf]; omega
                      · have ek : Hid (D = fillTo (gr T i) (j + 1)) := by
                          show _ = _
                          rw [HDD.out, show k = b.length by omega, E1.out]
                        have q4 : decide ((k : Int) < (b.length : Int)) = false := decide_eq_false (by omega)
                        clear hS eg ev hl2 hk2 ha4 hb4 hDg EDs
                        go_wp2_with fail
                        go_roundw
                        case rel => exact ⟨j + 1, by omega, by go_num, by rw [← ek.out]; exact HS4.out⟩
                        case measure => simp [intOf]; omega
                  · have ef : Hid (fillTo (gr T i) j = gr T i) := fillTo_all (by omega)
                    have q3 : decide ((j : Int) < (W : Int)) = false := decide_eq_false (by omega)
                    clear hS
                    go_wp2_with fail
                    go_roundw
                    case rel =>
                      have := HSj.out
                      rw [ef.out, EN.out] at this
                      exact ⟨i + 1, _, by omega, by go_num, by have := HL.out; simp; omega, this⟩
                    case measure => simp [intOf]; omega
              · have ep : Hid (partM T i = T) := partM_all (by omega)
                have q2 : decide ((i : Int) < (a.length : Int)) = false := decide_eq_false (by omega)
                clear hS hvl hb1
                go_wp2_with fail
                go_ret2
                have h8 := HS.out
                rw [ep.out] at h8
                rw [EM.out, ← HW.out, HTE.out]
                first | exact ⟨_, vs, rfl, HL.out, h8⟩ | exact ⟨_, rfl, vs, HL.out, h8⟩
          · have d : (((gr a 0).length : Int) != (b.length : Int)) = true := by simp; omega
            have EB := timesB_f (a := a) (b := b) (fun h => hne h.2.2.2.2)
            have EM := timesM_f (a := a) (b := b) (fun h => hne h.2.2.2.2)
            rw [EB, EM]
            clear h0 h1 hne EB EM
            go_enter Try.func70, Try.ntmps70
            go_wp2_with fail
            refine (isSmallMatrix_c _ _ a _ ha).mono ?_
            rw [hfa]
            rintro e w' ⟨rfl, rfl⟩
            go_wp2_with fail
            refine (isSmallMatrix_c _ _ b _ hb).mono ?_
            rw [hfb]
            rintro e w' ⟨rfl, rfl⟩
            go_wp2_with fail
            go_ret2
            exact ⟨.slice none 0 0, [], rfl, rfl, (St.start w).nilRow _⟩

set_option maxHeartbeats 8000000 in
set_option maxRecDepth 100000 in
theorem sTimesMatrix_c (va vb : Value) (bs cs : List Value) (a b : List (List Int)) (w : World) (ha : RdM w va bs a) (hb : RdM w vb cs b) :
    Calls Try.prog 71 #[va, vb] w fun e w' => ∃ v vs, e = .returned (.tuple #[v, .bool (timesB a b)]) ∧ vs.length = (timesM a b).length ∧ St w w' (⟨v, 26, vs⟩ :: rowsOn vs (timesM a b) []) := by
  have la := ha.ln
  have lb := hb.ln
  have ll1 := ha.le
  have ll2 := hb.le
  have HA := hid ha
  have HB := hid hb
  cases hfa : fitM a with
  | false =>
    have EB := timesB_f (a := a) (b := b) (fun h => by have := fitM_t h.2.2.1; rw [hfa] at this; cases this)
    have EM := timesM_f (a := a) (b := b) (fun h => by have := fitM_t h.2.2.1; rw [hfa] at this; cases this)
    rw [EB, EM]
    clear EB EM
    go_enter Try.func71, Try.ntmps71
    go_wp2_with fail
    refine (l13Fits_c _ _ a _ ha).mono ?_
    rw [hfa]
    rintro e w1 ⟨rfl, m, hw⟩
    have HS : Hid (St w w1 []) := by rw [hw]; exact (St.start w).drewN m
    clear hw
    go_wp2_with fail
    go_ret2
    exact ⟨_, [], rfl, rfl, HS.out.newAt #[] 26 (by simp) rfl⟩
  | true =>
    cases hfb : fitM b with
    | false =>
      have EB := timesB_f (a := a) (b := b) (fun h => by have := fitM_t h.2.2.2.1; rw [hfb] at this; cases this)
      have EM := timesM_f (a := a) (b := b) (fun h => by have := fitM_t h.2.2.2.1; rw [hfb] at this; cases this)
      rw [EB, EM]
      clear EB EM
      go_enter Try.func71, Try.ntmps71
      go_wp2_with fail
      refine (l13Fits_c _ _ a _ ha).mono ?_
      rw [hfa]
      rintro e w1 ⟨rfl, m, hw⟩
      have HS : Hid (St w w1 []) := by rw [hw]; exact (St.start w).drewN m
      clear hw
      go_wp2_with fail
      refine (l13Fits_c _ _ b _ (HS.out.oldM HB.out)).mono ?_
      rw [hfb]
      rintro e w2 ⟨rfl, m2, hw⟩
      have HS2 : Hid (St w w2 []) := by rw [hw]; exact HS.out.drewN m2
      clear hw
      go_wp2_with fail
      go_ret2
      exact ⟨_, [], rfl, rfl, HS2.out.newAt #[] 26 (by simp) rfl⟩
    | true =>
      have HFA : Hid (Fit a) := fitM_iff.1 hfa
      have HFB : Hid (Fit b) := fitM_iff.1 hfb
      by_cases hbad : a.length = 0 ∨ b.length = 0 ∨ (gr a 0).length ≠ b.length
      · have EB := timesB_f (a := a) (b := b) (fun h => by have h1 := h.1; have h2 := h.2.1; have h3 := h.2.2.2.2; omega)
        have EM := timesM_f (a := a) (b := b) (fun h => by have h1 := h.1; have h2 := h.2.1; have h3 := h.2.2.2.2; omega)
        rw [EB, EM]
        clear EB EM ha hb
        by_cases h0 : a.length = 0
        · have q0 : ((a.length : Int) == 0) = true := by simp [h0]
          clear hbad h0
          go_enter Try.func71, Try.ntmps71
          go_wp2_with fail
          refine (l13Fits_c _ _ a _ HA.out).mono ?_
          rw [hfa]
          rintro e w1 ⟨rfl, m, hw⟩
          have HS : Hid (St w w1 []) := by rw [hw]; exact (St.start w).drewN m
          clear hw
          go_wp2_with fail
          refine (l13Fits_c _ _ b _ (HS.out.oldM HB.out)).mono ?_
          rw [hfb]
          rintro e w2 ⟨rfl, m2, hw⟩
          have HS2 : Hid (St w w2 []) := by rw [hw]; exact HS.out.drewN m2
          clear hw
          go_wp2_with fail
          go_ret2
          exact ⟨_, [], rfl, rfl, HS2.out.newAt #[] 26 (by simp) rfl⟩
        · have q0 : ((a.length : Int) == 0) = false := by rw [beq_eq_false_iff_ne]; omega
          by_cases h1 : b.length = 0
          · have q1 : ((b.length : Int) == 0) = true := by simp [h1]
            clear hbad h0 h1
            go_enter Try.func71, Try.ntmps71
            go_wp2_with fail
            refine (l13Fits_c _ _ a _ HA.out).mono ?_
            rw [hfa]
            rintro e w1 ⟨rfl, m, hw⟩
            have HS : Hid (St w w1 []) := by rw [hw]; exact (St.start w).drewN m
            clear hw
            go_wp2_with fail
            refine (l13Fits_c _ _ b _ (HS.out.oldM HB.out)).mono ?_
            rw [hfb]
            rintro e w2 ⟨rfl, m2, hw⟩
            have HS2 : Hid (St w w2 []) := by rw [hw]; exact HS.out.drewN m2
            clear hw
            go_wp2_with fail
            go_ret2
            exact ⟨_, [], rfl, rfl, HS2.out.newAt #[] 26 (by simp) rfl⟩
          · have q1 : ((b.length : Int) == 0) = false := by rw [beq_eq_false_iff_ne]; omega
            have hpos : 0 < a.length := by omega
            have d : (((gr a 0).length : Int) != (b.length : Int)) = true := by simp; omega
            clear hbad h0 h1
            go_enter Try.func71, Try.ntmps71
            go_wp2_with fail
            refine (l13Fits_c _ _ a _ HA.out).mono ?_
            rw [hfa]
            rintro e w1 ⟨rfl, m, hw⟩
            have HS : Hid (St w w1 []) := by rw [hw]; exact (St.start w).drewN m
            clear hw
            go_wp2_with fail
            refine (l13Fits_c _ _ b _ (HS.out.oldM HB.out)).mono ?_
            rw [hfb]
            rintro e w2 ⟨rfl, m2, hw⟩
            have HS2 : Hid (St w w2 []) := by rw [hw]; exact HS.out.drewN m2
            have ha2 : RdM w2 va bs a := HS2.out.oldM HA.out
            have g1 := ha2.ix 0 hpos
            have g2 := ha2.cell 0 hpos
            have g3 := (ha2.row 0 hpos).iln tI
            rw [show ((0 : Nat) : Int) = 0 from rfl] at g1
            clear hw ha2
            go_wp2_with fail
            go_ret2
            exact ⟨_, [], rfl, rfl, HS2.out.newAt #[] 26 (by simp) rfl⟩
      · have apos : 0 < a.length := by omega
        have bpos : 0 < b.length := by omega
        have hne : (gr a 0).length = b.length := by omega
        have q0 : ((a.length : Int) == 0) = false := by rw [beq_eq_false_iff_ne]; omega
        have q1 : ((b.length : Int) == 0) = false := by rw [beq_eq_false_iff_ne]; omega
        have d : (((gr a 0).length : Int) != (b.length : Int)) = false := by simp [hne]
        have hOk : TimesOk a b := ⟨apos, bpos, HFA.out, HFB.out, hne⟩
        have EB := timesB_t hOk
        have EM := hid (timesM_t hOk)
        rw [EB]
        obtain ⟨W, hW⟩ : ∃ W, W = (gr b 0).length := ⟨_, rfl⟩
        have HW := hid hW
        have hW30 : W ≤ 30 := by rw [hW]; exact HFB.out.2.2.1 0 bpos
        have ha30 := HFA.out.1
        have hb30 := HFB.out.1
        have HRA : Hid (∀ k, k < a.length → (gr a k).length = b.length) := fun k hk => by rw [HFA.out.2.1 k hk, hne]
        have HRB : Hid (∀ k, k < b.length → (gr b k).length = W) := fun k hk => by rw [HFB.out.2.1 k hk, hW]
        clear hbad hne hOk EB hW ha hb
        go_enter Try.func71, Try.ntmps71
        go_wp2_with fail
        refine (l13Fits_c _ _ a _ HA.out).mono ?_
        rw [hfa]
        rintro e w1 ⟨rfl, m, hw⟩
        have HS : Hid (St w w1 []) := by rw [hw]; exact (St.start w).drewN m
        clear hw
        go_wp2_with fail
        refine (l13Fits_c _ _ b _ (HS.out.oldM HB.out)).mono ?_
        rw [hfb]
        rintro e w2 ⟨rfl, m2, hw⟩
        have HS2 : Hid (St w w2 []) := by rw [hw]; exact HS.out.drewN m2
        have ha2 : RdM w2 va bs a := HS2.out.oldM HA.out
        have g1 := ha2.ix 0 apos
        have g2 := ha2.cell 0 apos
        have g3 := (ha2.row 0 apos).iln tI
        rw [show ((0 : Nat) : Int) = 0 from rfl] at g1
        have HS3 := hid (HS2.out.newAt #[] 26 (by simp) rfl)
        clear hw ha2 hfa hfb
        go_wp2_with fail
        clear g1 g2 g3
        go_loopw [6, 7] (fun o c wr => ∃ (i : Nat) (u : Value) (vs : List Value), i ≤ a.length ∧ c = .int .i64 i ∧ o = u ∧ vs.length = i ∧ St w wr (⟨u, 26, vs⟩ :: rowsOn vs ((List.range i).map (prodR a b W)) [])) (fun _ c _ => a.length - (intOf c).toNat)
        case atStart => exact ⟨0, _, [], by omega, rfl, rfl, rfl, HS3.out⟩
        case round =>
          obtain ⟨i, u, vs, hi, rfl, ho, hvl, hS⟩ := hrel
          have ho' := ho.symm
          subst ho'
          have HSi := hid hS
          by_cases hlt : i < a.length
          · have q2 : decide ((i : Int) < (a.length : Int)) = true := decide_eq_true (by omega)
            clear hS
            go_wp2_with fail
            go_loopw [8, 9] (fun o c wr => ∃ (j : Nat) (r : Value), j ≤ W ∧ c = .int .i64 j ∧ o = r ∧ St w wr (⟨r, 3, ints ((prodR a b W i).take j)⟩ :: ⟨u, 26, vs⟩ :: rowsOn vs ((List.range i).map (prodR a b W)) [])) (fun _ c _ => W - (intOf c).toNat)
            case atStart => exact ⟨0, _, by omega, rfl, rfl, HSi.out.newAt #[] _ (by simp) rfl⟩
            case round =>
              obtain ⟨j, r, hj, rfl, ho, hS⟩ := hrel
              have ho' := ho.symm
              subst ho'
              have HSj := hid hS
              have hb3 := hS.oldM HB.out
              have i1 := hb3.ix 0 bpos
              have i2 := hb3.cell 0 bpos
              have i3 := (hb3.row 0 bpos).iln tI
              rw [HRB.out 0 bpos] at i3
              rw [show ((0 : Nat) : Int) = 0 from rfl] at i1
              by_cases hjW : j < W
              · have q3 : decide ((j : Int) < (W : Int)) = true := decide_eq_true (by omega)
                have E2 : Hid ((prodR a b W i).take (j + 1) = (prodR a b W i).take j ++ [dotTo a b i j b.length]) := by
                  show _ = _
                  rw [take_succ_gi (by rw [prodR_len]; exact hjW), prodR_gi hjW]
                have hll : ((prodR a b W i).take j).length ≤ 30 := by simp [prodR_len]; omega
                clear hS hb3
                go_wp2_with fail
                clear i1 i2 i3
                obtain ⟨wo, hwo⟩ : ∃ wo : World, wo = wr := ⟨_, rfl⟩
                rw [← hwo] at HSj ⊢
                clear hwo
                go_loopw [10, 11] (fun s c wr => ∃ (k m : Nat), k ≤ b.length ∧ c = .int .i64 k ∧ s = .int .i64 (dotTo a b i j k) ∧ wr = wo.drewN m) (fun _ c _ => b.length - (intOf c).toNat)
                case atStart => exact ⟨0, 0, by omega, rfl, rfl, rfl⟩
                case round =>
                  obtain ⟨k, m', hk, rfl, rfl, hw⟩ := hrel
                  have hSk := HSj.out.drewN m'
                  rw [← hw] at hSk
                  have HSk := hid hSk
                  have HWk := hid hw
                  clear hSk
                  have ha4 := HSk.out.oldM HA.out
                  have hb4 := HSk.out.oldM HB.out
                  clear hw
                  by_cases hkb : k < b.length
                  · have q4 : decide ((k : Int) < (b.length : Int)) = true := decide_eq_true (by omega)
                    have a1 := ha4.ix i hlt
                    have a2 := ha4.cell i hlt
                    have hra := ha4.row i hlt
                    have a3 := hra.iix tI k (by rw [HRA.out i hlt]; exact hkb)
                    have a4 := hra.intCell k (by rw [HRA.out i hlt]; exact hkb)
                    have b1 := hb4.ix k hkb
                    have b2 := hb4.cell k hkb
                    have hrb := hb4.row k hkb
                    have b3 := hrb.iix tI j (by rw [HRB.out k hkb]; exact hjW)
                    have b4 := hrb.intCell j (by rw [HRB.out k hkb]; exact hjW)
                    obtain ⟨m0, m1⟩ := mul_bd (fit_gi HFA.out i k) (fit_gi HFB.out k j)
                    obtain ⟨n0, n1⟩ := dotTo_rng HFA.out HFB.out i j k
                    have en : dotTo a b i j (k + 1) = dotTo a b i j k + gi (gr a i) k * gi (gr b k) j := rfl
                    obtain ⟨X, hX⟩ : ∃ X, X = dotTo a b i j (k + 1) := ⟨_, rfl⟩
                    have HX := hid hX
                    rw [← hX] at en
                    obtain ⟨Z, hZ⟩ : ∃ Z, Z = gi (gr a i) k * gi (gr b k) j := ⟨_, rfl⟩
                    have hZ2 : gi (gr a i) k * gi (gr b k) j = Z := hZ.symm
                    rw [hZ2] at m0 m1 en
                    have hX2 : dotTo a b i j k + Z = X := en.symm
                    have t1 : IntKind.i64.wrap Z = Z := IntWalk.i64_in Z (by omega)
                    have t2 : IntKind.i64.wrap X = X := IntWalk.i64_in X (by omega)
                    clear hra hrb ha4 hb4 hX hZ en
                    go_wp2_with fail
                    go_region
                    all_goals
                      go_wp2_with fail
                      go_roundw
                      case rel => exact ⟨k + 1, m' + 1, by omega, by go_num, by rw [← HX.out], by rw [HWk.out]; rfl⟩
                      case measure => simp [intOf]; omega
                  · have ek : Hid (dotTo a b i j k = dotTo a b i j b.length) := by show _ = _; rw [show k = b.length by omega]
                    have q4 : decide ((k : Int) < (b.length : Int)) = false := decide_eq_false (by omega)
                    clear ha4 hb4
                    go_wp2_with (at_builtin; refine wpList_push rfl _ _ rfl tI HSk.out.own (.int .i64 (dotTo a b i j k)) rfl (by simp only [length_ints]; omega) rfl rfl ?_)
                    intro v2 w4 hO2 hb2
                    go_wp2_with fail
                    go_roundw
                    case rel => exact ⟨j + 1, v2, by omega, by go_num, rfl, by rw [E2.out, ints_append, ← ek.out]; exact HSk.out.mut hO2 hb2⟩
                    case measure => simp [intOf]; omega
              · have ef : Hid ((prodR a b W i).take j = prodR a b W i) := List.take_of_length_le (by rw [prodR_len]; omega)
                have q3 : decide ((j : Int) < (W : Int)) = false := decide_eq_false (by omega)
                obtain ⟨rp, rl, rc, hrf⟩ := hS.hd.form'
                subst hrf
                clear hS hb3
                have E3 : Hid ((List.range (i + 1)).map (prodR a b W) = (List.range i).map (prodR a b W) ++ [prodR a b W i]) := by show _ = _; rw [List.range_succ, List.map_append]; rfl
                go_wp2_with (at_builtin; refine wpList_push rfl _ _ rfl tSS HSj.out.swap.own (.slice rp rl rc) rfl (by omega) rfl rfl ?_)
                intro v2 w4 hO2 hb2
                go_wp2_with fail
                go_roundw
                case rel =>
                  have h6 := (HSj.out.swap.mut hO2 hb2)
                  rw [ef.out] at h6
                  have h7 := h6.snocRow (by simp; exact hvl)
                  rw [← E3.out] at h7
                  exact ⟨i + 1, v2, _, by omega, by go_num, rfl, by simp; exact hvl, h7⟩
                case measure => simp [intOf]; omega
          · have ei : Hid (i = a.length) := by show _ = _; omega
            have q2 : decide ((i : Int) < (a.length : Int)) = false := decide_eq_false (by omega)
            clear hS
            go_wp2_with fail
            go_ret2
            have h8 := HSi.out
            rw [ei.out] at h8
            rw [EM.out, ← HW.out]
            have h9 : vs.length = (prodM a b W).length := by rw [prodM_len, ← ei.out]; exact hvl
            first | exact ⟨_, vs, rfl, h9, h8⟩ | exact ⟨_, rfl, vs, h9, h8⟩

end Go.Proofs.Ytjaofbdfhcgmeaa
