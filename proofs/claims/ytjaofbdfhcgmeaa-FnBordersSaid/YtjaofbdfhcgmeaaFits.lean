/-
  Matrices whose rows have one length and whose numbers are small.
-/
import Derived.Test.YtjaofbdfhcgmeaaMLaws
import Derived.Test.YtjaofbdfhcgmeaaNum
namespace Go.Proofs.Ytjaofbdfhcgmeaa
open Go.RowKit

def Same (M : List (List Int)) : Prop := ∀ k, k < M.length → (gr M k).length = (gr M 0).length
open Classical in
noncomputable def sameB (M : List (List Int)) : Bool := decide (Same M)
theorem sameB_t {M : List (List Int)} (h : Same M) : sameB M = true := by simp [sameB, h]
theorem sameB_f {M : List (List Int)} (h : ¬ Same M) : sameB M = false := by simp [sameB, h]
theorem sameB_iff {M : List (List Int)} : sameB M = true ↔ Same M := by simp [sameB]
def Fit (M : List (List Int)) : Prop := M.length ≤ 30 ∧ Same M ∧ (∀ k, k < M.length → (gr M k).length ≤ 30) ∧ ∀ k, k < M.length → ∀ j, j < (gr M k).length → -1000 ≤ gi (gr M k) j ∧ gi (gr M k) j ≤ 1000
open Classical in
noncomputable def fitM (M : List (List Int)) : Bool := decide (Fit M)
theorem fitM_t {M : List (List Int)} (h : Fit M) : fitM M = true := by simp [fitM, h]
theorem fitM_f {M : List (List Int)} (h : ¬ Fit M) : fitM M = false := by simp [fitM, h]
theorem fitM_iff {M : List (List Int)} : fitM M = true ↔ Fit M := by simp [fitM]

set_option maxHeartbeats 1000000 in
theorem sameLengths_c (va : Value) (bs : List Value) (M : List (List Int)) (w : World) (ha : RdM w va bs M) : Calls Try.prog 146 #[va] w fun e w' => e = .returned (.bool (sameB M)) ∧ w = w' := by
  have la := ha.ln
  have ll := ha.le
  go_enter Try.func146, Try.ntmps146
  go_wp2_with fail
  go_loop [7] (fun i => ∃ j : Nat, j ≤ M.length ∧ i = .int .i64 j ∧ Hid (∀ t, t < j → (gr M t).length = (gr M 0).length)) (fun i => M.length - (intOf i).toNat)
  case atStart => exact ⟨0, by omega, rfl, fun t h => by omega⟩
  case round =>
    obtain ⟨j, hj, rfl, hN⟩ := hrel
    by_cases hlt : j < M.length
    · have f1 := ha.ix j hlt
      have f2 := ha.cell j hlt
      have f3 := (ha.row j hlt).iln tI
      have g1 := ha.ix 0 (by omega)
      have g2 := ha.cell 0 (by omega)
      have g3 := (ha.row 0 (by omega)).iln tI
      rw [show ((0 : Nat) : Int) = 0 from rfl] at g1
      by_cases he : (gr M j).length = (gr M 0).length
      · have d : (((gr M j).length : Int) != ((gr M 0).length : Int)) = false := by simp [he]
        have N2 : Hid (∀ t, t < j + 1 → (gr M t).length = (gr M 0).length) := fun t ht => by
          by_cases e : t = j
          · subst e; exact he
          · exact hN.out t (by omega)
        clear he
        go_wp2_with fail
        go_round
        case rel => exact ⟨j + 1, by omega, by go_num, N2⟩
        case measure => simp [intOf]; omega
      · have d : (((gr M j).length : Int) != ((gr M 0).length : Int)) = true := by simp; omega
        have E : Hid (sameB M = false) := sameB_f fun h => he (h j hlt)
        clear he
        go_wp2_with fail
        go_ret
        exact ⟨ret_bool E.out.symm, rfl⟩
    · have E : Hid (sameB M = true) := sameB_t fun k hk => hN.out k (by omega)
      go_wp2_with fail
      go_ret
      exact ⟨ret_bool E.out.symm, rfl⟩

set_option maxHeartbeats 2000000 in
set_option maxRecDepth 100000 in
theorem isSmallMatrix_c (va : Value) (bs : List Value) (M : List (List Int)) (w : World) (ha : RdM w va bs M) : Calls Try.prog 147 #[va, .int .i64 30, .int .i64 1000] w fun e w' => e = .returned (.bool (fitM M)) ∧ w = w' := by
  have la := ha.ln
  have ll := ha.le
  by_cases h30 : 30 < M.length
  · have E : Hid (fitM M = false) := fitM_f fun h => by have := h.1; omega
    go_enter Try.func147, Try.ntmps147
    go_wp2_with fail
    go_ret
    exact ⟨ret_bool E.out.symm, rfl⟩
  · have q30 : decide ((30 : Int) < (M.length : Int)) = false := decide_eq_false (by omega)
    cases hs : sameB M with
    | false =>
      have E : Hid (fitM M = false) := fitM_f fun h => by have := sameB_t h.2.1; rw [hs] at this; cases this
      go_enter Try.func147, Try.ntmps147
      go_wp2_with (go_at_call 146; refine (sameLengths_c _ _ M _ ha).mono ?_; rw [hs]; rintro e w' ⟨rfl, rfl⟩)
      go_ret
      exact ⟨ret_bool E.out.symm, rfl⟩
    | true =>
      have HS : Hid (Same M) := sameB_iff.1 hs
      by_cases hc : 0 < M.length ∧ 30 < (gr M 0).length
      · have E : Hid (fitM M = false) := fitM_f fun h => by have := h.2.2.1 0 hc.1; omega
        obtain ⟨hc0, hc1⟩ := hc
        have g1 := ha.ix 0 hc0
        have g2 := ha.cell 0 hc0
        have g3 := (ha.row 0 hc0).iln tI
        rw [show ((0 : Nat) : Int) = 0 from rfl] at g1
        have q0 : decide ((0 : Int) < (M.length : Int)) = true := decide_eq_true (by omega)
        have q1 : decide ((30 : Int) < ((gr M 0).length : Int)) = true := decide_eq_true (by omega)
        go_enter Try.func147, Try.ntmps147
        go_wp2_with (go_at_call 146; refine (sameLengths_c _ _ M _ ha).mono ?_; rw [hs]; rintro e w' ⟨rfl, rfl⟩)
        go_ret
        exact ⟨ret_bool E.out.symm, rfl⟩
      · have HC : Hid (∀ k, k < M.length → (gr M k).length ≤ 30) := fun k hk => by rw [HS.out k hk]; omega
        have HA := hid ha
        by_cases h0 : M.length = 0
        · have q0 : ¬ 0 < M.length := by omega
          have E : Hid (fitM M = true) := fitM_t ⟨by omega, HS.out, HC.out, fun k hk => by omega⟩
          have H0 := hid h0
          clear hc h0
          go_enter Try.func147, Try.ntmps147
          go_wp2_with (go_at_call 146; refine (sameLengths_c _ _ M _ ha).mono ?_; rw [hs]; rintro e w' ⟨rfl, rfl⟩)
          clear ha hs
          go_loop [33] (fun i => ∃ t : Nat, t ≤ M.length ∧ i = .int .i64 t) (fun _ => 0)
          case atStart => exact ⟨0, by omega, rfl⟩
          case round =>
            obtain ⟨t, ht, rfl⟩ := hrel
            have qt : decide ((t : Int) < (M.length : Int)) = false := decide_eq_false (by have := H0.out; omega)
            go_wp2_with fail
            go_ret
            exact ⟨ret_bool E.out.symm, rfl⟩
        · have g1 := ha.ix 0 (by omega)
          have g2 := ha.cell 0 (by omega)
          have g3 := (ha.row 0 (by omega)).iln tI
          rw [show ((0 : Nat) : Int) = 0 from rfl] at g1
          have q0 : 0 < M.length := by omega
          have q1 : decide ((30 : Int) < ((gr M 0).length : Int)) = false := decide_eq_false (by omega)
          clear hc h0
          go_enter Try.func147, Try.ntmps147
          go_wp2_with (go_at_call 146; refine (sameLengths_c _ _ M _ ha).mono ?_; rw [hs]; rintro e w' ⟨rfl, rfl⟩)
          clear ha hs
          clear g1 g2 g3 q1
          go_loop [33] (fun i => ∃ t : Nat, t ≤ M.length ∧ i = .int .i64 t ∧ Hid (∀ k, k < t → ∀ j, j < (gr M k).length → -1000 ≤ gi (gr M k) j ∧ gi (gr M k) j ≤ 1000)) (fun i => M.length - (intOf i).toNat)
          case atStart => exact ⟨0, by omega, rfl, fun k h => by omega⟩
          case round =>
            obtain ⟨t, ht, rfl, hN⟩ := hrel
            by_cases htl : t < M.length
            · have f1 := HA.out.ix t htl
              have f2 := HA.out.cell t htl
              have hr := HA.out.row t htl
              have f3 := hr.iln tI
              have HR := hid hr
              have h3 := HC.out t htl
              have qt : decide ((t : Int) < (M.length : Int)) = true := decide_eq_true (by omega)
              clear hr
              go_wp2_with fail
              go_loop [39] (fun i => ∃ j : Nat, j ≤ (gr M t).length ∧ i = .int .i64 j ∧ Hid (∀ s, s < j → -1000 ≤ gi (gr M t) s ∧ gi (gr M t) s ≤ 1000)) (fun i => (gr M t).length - (intOf i).toNat)
              case atStart => exact ⟨0, by omega, rfl, fun s h => by omega⟩
              case round =>
                obtain ⟨j, hj, rfl, hN2⟩ := hrel
                by_cases hjl : j < (gr M t).length
                · have b1 := HR.out.iix tI j hjl
                  have b2 := HR.out.intCell j hjl
                  by_cases hb : -1000 ≤ gi (gr M t) j ∧ gi (gr M t) j ≤ 1000
                  · obtain ⟨hb1, hb2⟩ := hb
                    have N3 : Hid (∀ s, s < j + 1 → -1000 ≤ gi (gr M t) s ∧ gi (gr M t) s ≤ 1000) := fun s hs => by
                      by_cases e : s = j
                      · subst e; exact ⟨hb1, hb2⟩
                      · exact hN2.out s (by omega)
                    go_wp2_with fail
                    go_round
                    case rel => exact ⟨j + 1, by omega, by go_num, N3⟩
                    case measure => simp [intOf]; omega
                  · have E : Hid (fitM M = false) := fitM_f fun h => hb (h.2.2.2 t htl j hjl)
                    by_cases hb1 : gi (gr M t) j < -1000
                    · clear hb
                      go_wp2_with fail
                      go_ret
                      exact ⟨ret_bool E.out.symm, rfl⟩
                    · have hb2 : 1000 < gi (gr M t) j := by omega
                      clear hb
                      go_wp2_with fail
                      go_ret
                      exact ⟨ret_bool E.out.symm, rfl⟩
                · have N3 : Hid (∀ k, k < t + 1 → ∀ j, j < (gr M k).length → -1000 ≤ gi (gr M k) j ∧ gi (gr M k) j ≤ 1000) := fun k hk s hs => by
                    by_cases e : k = t
                    · subst e; exact hN2.out s (by omega)
                    · exact hN.out k (by omega) s hs
                  go_wp2_with fail
                  go_round
                  case rel => exact ⟨t + 1, by omega, by go_num, N3⟩
                  case measure => simp [intOf]; omega
            · have E : Hid (fitM M = true) := fitM_t ⟨by omega, HS.out, HC.out, fun k hk => hN.out k (by omega)⟩
              have qt : decide ((t : Int) < (M.length : Int)) = false := decide_eq_false (by omega)
              go_wp2_with fail
              go_ret
              exact ⟨ret_bool E.out.symm, rfl⟩

set_option maxHeartbeats 2000000 in
set_option maxRecDepth 100000 in
theorem l13Fits_c (va : Value) (bs : List Value) (M : List (List Int)) (w : World) (ha : RdM w va bs M) : Calls Try.prog 148 #[va] w fun e w' => e = .returned (.bool (fitM M)) ∧ ∃ m, w' = w.drewN m := by
  have la := ha.ln
  have ll := ha.le
  have HA := hid ha
  clear ha
  go_enter Try.func148, Try.ntmps148
  go_wp2_with fail
  go_loopw [3] (fun i wr => ∃ (t m : Nat), t ≤ M.length ∧ i = .int .i64 t ∧ wr = w.drewN m ∧ Hid (∀ k, k < t → (gr M k).length = (gr M 0).length ∧ (gr M k).length ≤ 30 ∧ ∀ j, j < (gr M k).length → -1000 ≤ gi (gr M k) j ∧ gi (gr M k) j ≤ 1000)) (fun i _ => M.length - (intOf i).toNat)
  case atStart => exact ⟨0, 0, by omega, rfl, rfl, fun k h => by omega⟩
  case round =>
    obtain ⟨t, m, ht, rfl, hw, hN⟩ := hrel
    have HW := hid hw
    have ha2 : RdM wr va bs M := by rw [hw]; exact HA.out.drew m
    clear hw
    by_cases htl : t < M.length
    · have f1 := ha2.ix t htl
      have f2 := ha2.cell t htl
      have hr := ha2.row t htl
      have f3 := hr.iln tI
      have g1 := ha2.ix 0 (by omega)
      have g2 := ha2.cell 0 (by omega)
      have g3 := (ha2.row 0 (by omega)).iln tI
      rw [show ((0 : Nat) : Int) = 0 from rfl] at g1
      have HA2 := hid ha2
      clear ha2 hr
      by_cases he : (gr M t).length = (gr M 0).length
      · by_cases h3 : 30 < (gr M t).length
        · have d : (((gr M t).length : Int) != ((gr M 0).length : Int)) = false := by simp [he]
          have d3 : decide ((30 : Int) < ((gr M t).length : Int)) = true := decide_eq_true (by omega)
          have E : Hid (fitM M = false) := fitM_f fun h => by have := h.2.2.1 t htl; omega
          clear he
          go_wp2_with fail
          go_region
          all_goals
            go_wp2_with fail
            go_ret
            exact ⟨ret_bool E.out.symm, m + 1, by rw [HW.out]; rfl⟩
        · have d : (((gr M t).length : Int) != ((gr M 0).length : Int)) = false := by simp [he]
          have d3 : decide ((30 : Int) < ((gr M t).length : Int)) = false := decide_eq_false (by omega)
          have HE := hid he
          clear he
          go_wp2_with fail
          go_region
          all_goals
            obtain ⟨wo, hwo⟩ : ∃ wo : World, wo = wr.drew := ⟨_, rfl⟩
            rw [← hwo]
            have HWo := hid hwo
            have f2' : wo.cell? (adr va t) = some (gv bs t) := by rw [hwo]; exact f2
            have HR : Hid (Rd wo (gv bs t) (ints (gr M t))) := by rw [hwo]; exact (HA2.out.row t htl).drew 1
            clear f2 g1 g2 g3 hwo
            go_wp2_with fail
            go_loop [4] (fun i => ∃ j : Nat, j ≤ (gr M t).length ∧ i = .int .i64 j ∧ Hid (∀ s, s < j → -1000 ≤ gi (gr M t) s ∧ gi (gr M t) s ≤ 1000)) (fun i => (gr M t).length - (intOf i).toNat)
            case atStart => exact ⟨0, by omega, rfl, fun s h => by omega⟩
            case round =>
              obtain ⟨j, hj, rfl, hN2⟩ := hrel
              by_cases hjl : j < (gr M t).length
              · have b1 := HR.out.iix tI j hjl
                have b2 := HR.out.intCell j hjl
                by_cases hb : -1000 ≤ gi (gr M t) j ∧ gi (gr M t) j ≤ 1000
                · have q := inB_t hb.1 hb.2
                  have N3 : Hid (∀ s, s < j + 1 → -1000 ≤ gi (gr M t) s ∧ gi (gr M t) s ≤ 1000) := fun s hs => by
                    by_cases e : s = j
                    · subst e; exact hb
                    · exact hN2.out s (by omega)
                  clear hb
                  go_wp2_with (go_at_call 112; refine (l1In_c _ _ _ _).mono ?_; rintro e w' ⟨rfl, rfl⟩)
                  go_round
                  case rel => exact ⟨j + 1, by omega, by go_num, N3⟩
                  case measure => simp [intOf]; omega
                · have q := inB_f hb
                  have E : Hid (fitM M = false) := fitM_f fun h => hb (h.2.2.2 t htl j hjl)
                  clear hb
                  go_wp2_with (go_at_call 112; refine (l1In_c _ _ _ _).mono ?_; rintro e w' ⟨rfl, rfl⟩)
                  go_ret
                  exact ⟨ret_bool E.out.symm, m + 1, by rw [HWo.out, HW.out]; rfl⟩
              · have N3 : Hid (∀ k, k < t + 1 → (gr M k).length = (gr M 0).length ∧ (gr M k).length ≤ 30 ∧ ∀ j, j < (gr M k).length → -1000 ≤ gi (gr M k) j ∧ gi (gr M k) j ≤ 1000) := fun k hk => by
                  by_cases e : k = t
                  · subst e; exact ⟨HE.out, by omega, fun s hs => hN2.out s (by omega)⟩
                  · exact hN.out k (by omega)
                go_wp2_with fail
                go_roundw
                case rel => exact ⟨t + 1, m + 1, by omega, by go_num, by rw [HWo.out, HW.out]; rfl, N3⟩
                case measure => simp [intOf]; omega
      · have d : (((gr M t).length : Int) != ((gr M 0).length : Int)) = true := by simp; omega
        have E : Hid (fitM M = false) := fitM_f fun h => he (h.2.1 t htl)
        clear he
        go_wp2_with fail
        go_region
        all_goals
          go_wp2_with fail
          go_ret
          exact ⟨ret_bool E.out.symm, m + 1, by rw [HW.out]; rfl⟩
    · have E : Hid (fitM M = decide ((M.length : Int) ≤ 30)) := by
        show _ = _
        by_cases h30 : (M.length : Int) ≤ 30
        · rw [decide_eq_true h30]
          exact fitM_t ⟨by omega, fun k hk => (hN.out k (by omega)).1, fun k hk => (hN.out k (by omega)).2.1, fun k hk => (hN.out k (by omega)).2.2⟩
        · rw [decide_eq_false h30]
          exact fitM_f fun h => by have := h.1; omega
      clear ha2
      go_wp2_with fail
      go_ret
      exact ⟨ret_bool E.out.symm, m, HW.out⟩

end Go.Proofs.Ytjaofbdfhcgmeaa
