/-
  Which lists are counts of faces, or of monomials.
-/
import Derived.Test.YtjaofbdfhcgmeaaCasc
namespace Go.Proofs.Ytjaofbdfhcgmeaa
open Go.RowKit

/-- The bound at place j + 1. -/
def afStep (xs : List Int) (j : Nat) : Prop := shaB (gi xs (j + 1)) ((j : Int) + 1) ≤ gi xs j
def amStep (xs : List Int) (j : Nat) : Prop := 1 ≤ j → gi xs (j + 1) ≤ powB (gi xs j) (j : Int)
instance (xs : List Int) (j : Nat) : Decidable (afStep xs j) := by unfold afStep; exact inferInstance
instance (xs : List Int) (j : Nat) : Decidable (amStep xs j) := by unfold amStep; exact inferInstance
def Poss (lo : Int) (step : List Int → Nat → Prop) (xs : List Int) : Prop := 1 ≤ xs.length ∧ xs.length ≤ 7 ∧ gi xs 0 = 1 ∧ (∀ j, j < xs.length → lo ≤ gi xs j ∧ gi xs j ≤ 1000) ∧ ∀ j, j + 1 < xs.length → step xs j
open Classical in
noncomputable def possB (lo : Int) (step : List Int → Nat → Prop) (xs : List Int) : Bool := decide (Poss lo step xs)
theorem possB_t {lo : Int} {step : List Int → Nat → Prop} {xs : List Int} (h : Poss lo step xs) : possB lo step xs = true := by simp [possB, h]
theorem possB_f {lo : Int} {step : List Int → Nat → Prop} {xs : List Int} (h : ¬ Poss lo step xs) : possB lo step xs = false := by simp [possB, h]

theorem Rd.iix1 {w : World} {v : Value} {xs : List Int} (h : Rd w v (ints xs)) {P : Program} {t e : TypeId} {z : Value} (T : SlT P t e z) (k : Nat) (hk : k + 1 < xs.length) (w' : World) :
    (Instr.indexAt t v (.int .i64 ((k : Int) + 1))).run P w' = .ok (.pointer (some (adr v (k + 1)))) w' := by
  have := h.iix T (k + 1) hk w'
  rwa [Int.natCast_add, Int.cast_ofNat_Int] at this

theorem af0 {xs : List Int} : ∀ t, t < 0 → afStep xs t := fun t h => by omega
theorem am0 {xs : List Int} : ∀ t, t < 1 → amStep xs t := fun t h h1 => by omega

set_option maxHeartbeats 2000000 in
set_option maxRecDepth 100000 in
theorem AreFaceCounts_c (va : Value) (xs : List Int) (w : World) (ha : Rd w va (ints xs)) : Calls Try.prog 24 #[va] w fun e w' => e = .returned (.bool (possB 1 afStep xs)) ∧ Below w.heap.size w w' := by
  have la := ha.iln tI
  have ll := ha.ile
  by_cases h1 : 1 ≤ xs.length ∧ xs.length ≤ 7
  · obtain ⟨h1, h7⟩ := h1
    have f0 := ha.iix tI 0 (by omega)
    have c0 := ha.intCell 0 (by omega)
    simp only [Int.cast_ofNat_Int] at f0
    by_cases hx : gi xs 0 = 1
    · have hx' : (gi xs 0 != 1) = false := by simp [hx]
      have HX := hid hx
      clear hx
      go_enter Try.func24, Try.ntmps24
      go_wp2_with fail
      go_loop [22] (fun i => ∃ j : Nat, j ≤ xs.length ∧ i = .int .i64 j ∧ ∀ t, t < j → 1 ≤ gi xs t ∧ gi xs t ≤ 1000) (fun i => xs.length - (intOf i).toNat)
      case atStart => exact ⟨0, Nat.zero_le _, rfl, fun t ht => by omega⟩
      case round =>
        obtain ⟨j, hj, rfl, hR⟩ := hrel
        have HR := hid hR; clear hR
        by_cases hlt : j < xs.length
        · have f1 := ha.iix tI j hlt
          have f2 := ha.intCell j hlt
          by_cases hr : 1 ≤ gi xs j ∧ gi xs j ≤ 1000
          · obtain ⟨r0, r1⟩ := hr
            have E : Hid (∀ t, t < j + 1 → 1 ≤ gi xs t ∧ gi xs t ≤ 1000) := by
              intro t ht
              rcases Nat.lt_or_ge t j with h' | h'
              · exact HR.out t h'
              · have : t = j := by omega
                subst this
                exact ⟨r0, r1⟩
            clear f0 c0
            go_wp2_with fail
            go_round
            case rel => exact ⟨j + 1, by omega, by go_num, E.out⟩
            case measure => simp [intOf]; omega
          · have E : Hid (possB 1 afStep xs = false) := possB_f (fun h => hr (h.2.2.2.1 j hlt))
            clear f0 c0
            by_cases r0 : gi xs j < 1
            · clear hr
              go_wp2_with fail
              go_ret
              exact ⟨ret_bool E.out.symm, Below.refl _ _⟩
            · have r1 : 1000 < gi xs j := by omega
              clear hr
              go_wp2_with fail
              go_ret
              exact ⟨ret_bool E.out.symm, Below.refl _ _⟩
        · have HA : Hid (∀ t, t < xs.length → 1 ≤ gi xs t ∧ gi xs t ≤ 1000) := fun t ht => HR.out t (by omega)
          clear f0 c0
          go_wp2_with fail
          go_loopw [5] (fun i wr => ∃ j : Nat, j ≤ xs.length ∧ 0 ≤ j ∧ i = .int .i64 ((j : Int) + 1) ∧ (∀ t, t < j → afStep xs t) ∧ Below w.heap.size w wr) (fun i _ => xs.length + 2 - (intOf i).toNat)
          case atStart => exact ⟨0, by omega, by omega, rfl, af0, Below.refl _ _⟩
          case round =>
            obtain ⟨j, hj, hj1, rfl, hS, hb⟩ := hrel
            have HS := hid hS
            have ha' := ha.below hb
            have HB := hid hb
            clear hS hb
            by_cases hlt2 : j + 1 < xs.length
            · have f1 := ha.iix1 tI j hlt2
              have f2 := ha'.laterCell (j + 1) hlt2
              have f3 := ha.iix tI j (by omega)
              have f4 := ha'.laterCell j (by omega)
              have g1 : IntKind.i64.wrap (j : Int) = (j : Int) := IntWalk.i64_in _ (by omega)
              by_cases ht : gi xs j < shaB (gi xs (j + 1)) ((j : Int) + 1)
              · have E : Hid (possB 1 afStep xs = false) := possB_f (fun h => (Int.not_lt.2 (h.2.2.2.2 j hlt2)) ht)
                go_wp2_with fail
                refine wp_region_later (by kernel_rfl) (by kernel_rfl) ?_
                repeat (go_big_quiet_step ((go_at_call 19; exact later_below (ShadowBound_c _ _ _))))
                refine wpQuiet_nil ?_
                intro _ hlw
                obtain ⟨⟨w2, hb2⟩, hlw⟩ := hlw
                dsimp only at hlw
                subst hlw
                clear g1
                go_wp2_with fail
                go_ret
                exact ⟨ret_bool E.out.symm, HB.out.trans (hb2.mono HB.out.size)⟩
              · have E : Hid (∀ t, t < j + 1 → afStep xs t) := by
                  intro t h
                  rcases Nat.lt_or_ge t j with h' | h'
                  · exact HS.out t h'
                  · have e : t = j := by omega
                    subst e
                    exact Int.not_lt.1 ht
                have ht' := Int.not_lt.1 ht
                clear ht
                go_wp2_with fail
                refine wp_region_later (by kernel_rfl) (by kernel_rfl) ?_
                repeat (go_big_quiet_step ((go_at_call 19; exact later_below (ShadowBound_c _ _ _))))
                refine wpQuiet_nil ?_
                intro _ hlw
                obtain ⟨⟨w2, hb2⟩, hlw⟩ := hlw
                dsimp only at hlw
                subst hlw
                clear g1
                go_wp2_with fail
                go_roundw
                case rel => exact ⟨j + 1, by omega, by omega, by go_num, E.out, HB.out.trans (hb2.mono HB.out.size)⟩
                case measure => simp [intOf]; omega
            · have E : Hid (possB 1 afStep xs = true) := possB_t ⟨h1, h7, HX.out, HA.out, fun t ht => HS.out t (by omega)⟩
              go_wp2_with fail
              go_ret
              exact ⟨ret_bool E.out.symm, HB.out⟩
    · have hx' : (gi xs 0 != 1) = true := by simp [hx]
      have E : Hid (possB 1 afStep xs = false) := possB_f (fun h => hx h.2.2.1)
      clear hx
      go_enter Try.func24, Try.ntmps24
      go_wp2_with fail
      go_ret
      exact ⟨ret_bool E.out.symm, Below.refl _ _⟩
  · have E : Hid (possB 1 afStep xs = false) := possB_f (fun h => h1 ⟨h.1, h.2.1⟩)
    by_cases h2 : xs.length < 1
    · clear h1
      go_enter Try.func24, Try.ntmps24
      go_wp2_with fail
      go_ret
      exact ⟨ret_bool E.out.symm, Below.refl _ _⟩
    · have h3 : 7 < xs.length := by omega
      clear h1
      go_enter Try.func24, Try.ntmps24
      go_wp2_with fail
      go_ret
      exact ⟨ret_bool E.out.symm, Below.refl _ _⟩


theorem poss_end {lo : Int} {step : List Int → Nat → Prop} {xs : List Int} (h1 : 1 ≤ xs.length) (h7 : xs.length ≤ 7) (h0 : 0 < xs.length → gi xs 0 = 1) (hr : ∀ t, t < xs.length → lo ≤ gi xs t ∧ gi xs t ≤ 1000) (hs : ∀ t, t + 1 < xs.length → step xs t) : possB lo step xs = true :=
  possB_t ⟨h1, h7, h0 h1, hr, hs⟩

set_option maxHeartbeats 2000000 in
set_option maxRecDepth 100000 in
theorem sAreFaceCounts_c (va : Value) (xs : List Int) (w : World) (ha : Rd w va (ints xs)) : Calls Try.prog 25 #[va] w fun e w' => e = .returned (.bool (possB 1 afStep xs)) ∧ Below w.heap.size w w' := by
  have la := ha.iln tI
  have ll := ha.ile
  by_cases h1 : 1 ≤ (xs.length : Int) ∧ (xs.length : Int) ≤ 7
  · have q1 := inB_t h1.1 h1.2
    have hl1 : 1 ≤ xs.length := by omega
    have hl7 : xs.length ≤ 7 := by omega
    clear h1
    go_enter Try.func25, Try.ntmps25
    go_wp2_with (go_at_call 112; refine (l1In_c _ _ _ _).mono ?_; rintro e w' ⟨rfl, rfl⟩)
    go_loopw [3] (fun i wr => ∃ k : Nat, k ≤ xs.length ∧ i = .int .i64 (k : Int) ∧ (∀ t, t < k → 1 ≤ gi xs t ∧ gi xs t ≤ 1000) ∧ (0 < k → gi xs 0 = 1) ∧ (∀ t, t + 1 < k → afStep xs t) ∧ Below w.heap.size w wr) (fun i _ => xs.length - (intOf i).toNat)
    case atStart => exact ⟨0, by omega, rfl, fun t ht => by omega, fun h => by omega, fun t ht => by omega, Below.refl _ _⟩
    case round =>
      obtain ⟨k, hk, rfl, hR, h0, hS, hb⟩ := hrel
      have HR := hid hR
      have H0 := hid h0
      have HS := hid hS
      have ha' := ha.below hb
      have HB := hid hb
      clear hR h0 hS hb
      by_cases hlt : k < xs.length
      · by_cases hr : 1 ≤ gi xs k ∧ gi xs k ≤ 1000
        · have q2 := inB_t hr.1 hr.2
          have E1 : Hid (∀ t, t < k + 1 → 1 ≤ gi xs t ∧ gi xs t ≤ 1000) := by
            intro t ht
            rcases Nat.lt_or_ge t k with h' | h'
            · exact HR.out t h'
            · have : t = k := by omega
              subst this
              exact hr
          clear hr
          rcases k with _ | j
          · have f1 := ha.iix tI 0 hlt
            have f2 := ha'.laterCell 0 hlt
            simp only [Int.cast_ofNat_Int] at f1
            have z1 : ((0 : Int) == 0) = true := rfl
            by_cases hx : gi xs 0 = 1
            · have hx' : (gi xs 0 != 1) = false := by simp [hx]
              have E2 : Hid (gi xs 0 = 1) := hx
              clear hx
              go_wp2_with fail
              refine wp_region_later (by kernel_rfl) (by kernel_rfl) ?_
              repeat (go_big_quiet_step ((go_at_call 112; exact later_same (l1In_c _ _ _ _))))
              refine wpQuiet_nil ?_
              intro _ hlw
              obtain ⟨⟨w2, hb2⟩, hlw⟩ := hlw
              dsimp only at hlw
              subst hlw
              clear z1
              go_wp2_with fail
              go_roundw
              case rel => exact ⟨1, by omega, by go_num, E1.out, fun _ => E2.out, fun t ht => by omega, HB.out.trans (hb2.mono HB.out.size)⟩
              case measure => simp [intOf]; omega
            · have hx' : (gi xs 0 != 1) = true := by simp [hx]
              have E : Hid (possB 1 afStep xs = false) := possB_f (fun h => hx h.2.2.1)
              clear hx
              go_wp2_with fail
              refine wp_region_later (by kernel_rfl) (by kernel_rfl) ?_
              repeat (go_big_quiet_step ((go_at_call 112; exact later_same (l1In_c _ _ _ _))))
              refine wpQuiet_nil ?_
              intro _ hlw
              obtain ⟨⟨w2, hb2⟩, hlw⟩ := hlw
              dsimp only at hlw
              subst hlw
              clear z1
              go_wp2_with fail
              go_ret
              exact ⟨ret_bool E.out.symm, HB.out.trans (hb2.mono HB.out.size)⟩
          · have f1 := ha.iix1 tI j hlt
            have f2 := ha'.laterCell (j + 1) hlt
            have f3 := ha.iix tI j (by omega)
            have f4 := ha'.laterCell j (by omega)
            have g1 : IntKind.i64.wrap (j : Int) = (j : Int) := IntWalk.i64_in _ (by omega)
            have z1 : ((j : Int) + 1 == 0) = false := by rw [beq_eq_false_iff_ne]; omega
            have E0 : Hid (0 < j + 1 + 1 → gi xs 0 = 1) := fun _ => H0.out (by omega)
            by_cases ht : gi xs j < shaB (gi xs (j + 1)) ((j : Int) + 1)
            · have E : Hid (possB 1 afStep xs = false) := possB_f (fun h => (Int.not_lt.2 (h.2.2.2.2 j hlt)) ht)
              have z2 : decide ((0 : Int) < (j : Int) + 1) = true := by rw [decide_eq_true_eq]; omega
              go_wp2_with fail
              refine wp_region_later (by kernel_rfl) (by kernel_rfl) ?_
              repeat (go_big_quiet_step ((first | (go_at_call 112; exact later_same (l1In_c _ _ _ _)) | (go_at_call 20; exact later_below (sShadowBound_c _ _ _)))))
              refine wpQuiet_nil ?_
              intro _ hlw
              obtain ⟨⟨w2, hb2⟩, hlw⟩ := hlw
              dsimp only at hlw
              subst hlw
              clear g1 z1 z2
              go_wp2_with fail
              go_ret
              exact ⟨ret_bool E.out.symm, HB.out.trans (hb2.mono HB.out.size)⟩
            · have E : Hid (∀ t, t + 1 < j + 1 + 1 → afStep xs t) := by
                intro t h
                rcases Nat.lt_or_ge t j with h' | h'
                · exact HS.out t (by omega)
                · have e : t = j := by omega
                  subst e
                  exact Int.not_lt.1 ht
              have ht' := Int.not_lt.1 ht
              have z2 : decide ((0 : Int) < (j : Int) + 1) = true := by rw [decide_eq_true_eq]; omega
              clear ht
              go_wp2_with fail
              refine wp_region_later (by kernel_rfl) (by kernel_rfl) ?_
              repeat (go_big_quiet_step ((first | (go_at_call 112; exact later_same (l1In_c _ _ _ _)) | (go_at_call 20; exact later_below (sShadowBound_c _ _ _)))))
              refine wpQuiet_nil ?_
              intro _ hlw
              obtain ⟨⟨w2, hb2⟩, hlw⟩ := hlw
              dsimp only at hlw
              subst hlw
              clear g1 z1 z2
              go_wp2_with fail
              go_roundw
              case rel => exact ⟨j + 1 + 1, by omega, by go_num, E1.out, E0.out, E.out, HB.out.trans (hb2.mono HB.out.size)⟩
              case measure => simp [intOf]; omega
        · have q2 := inB_f hr
          have E : Hid (possB 1 afStep xs = false) := possB_f (fun h => hr (h.2.2.2.1 k hlt))
          have f1 := ha.iix tI k hlt
          have f2 := ha'.laterCell k hlt
          clear hr
          go_wp2_with fail
          refine wp_region_later (by kernel_rfl) (by kernel_rfl) ?_
          repeat (go_big_quiet_step ((go_at_call 112; exact later_same (l1In_c _ _ _ _))))
          refine wpQuiet_nil ?_
          intro _ hlw
          obtain ⟨⟨w2, hb2⟩, hlw⟩ := hlw
          dsimp only at hlw
          subst hlw
          go_wp2_with fail
          go_ret
          exact ⟨ret_bool E.out.symm, HB.out.trans (hb2.mono HB.out.size)⟩
      · have E : Hid (possB 1 afStep xs = true) := by
          have e : k = xs.length := by omega
          subst e
          exact poss_end hl1 hl7 H0.out HR.out HS.out
        go_wp2_with fail
        go_ret
        exact ⟨ret_bool E.out.symm, HB.out⟩
  · have q1 := inB_f h1
    have E : Hid (possB 1 afStep xs = false) := possB_f (fun h => h1 (by have := h.1; have := h.2.1; omega))
    clear h1
    go_enter Try.func25, Try.ntmps25
    go_wp2_with (go_at_call 112; refine (l1In_c _ _ _ _).mono ?_; rintro e w' ⟨rfl, rfl⟩)
    go_ret
    exact ⟨ret_bool E.out.symm, Below.refl _ _⟩




end Go.Proofs.Ytjaofbdfhcgmeaa
