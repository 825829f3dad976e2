/-
  RankMod.
-/
import Derived.Test.YtjaofbdfhcgmeaaRed5
import Derived.Test.YtjaofbdfhcgmeaaFits
namespace Go.Proofs.Ytjaofbdfhcgmeaa
open Go.RowKit

noncomputable def rankB (M : List (List Int)) (p : Int) : Int := if primeB p = true ∧ fitM M = true then rankR p M else -1
theorem Fit.even {M : List (List Int)} (h : Fit M) : Even (gr M 0).length M := h.2.1
theorem Fit.w {M : List (List Int)} (h : Fit M) : (gr M 0).length ≤ 1000 := by
  by_cases h0 : 0 < M.length
  · have := h.2.2.1 0 h0; omega
  · rw [gr_nil (by omega)]; simp
theorem rankB_f {M : List (List Int)} {p : Int} (h : ¬ (primeB p = true ∧ fitM M = true)) : rankB M p = -1 := if_neg h
theorem same_drew {P : Program} {f : FuncId} {args : Array Value} {w : World} {v : Value} (h : Calls P f args w fun e w' => e = .returned v ∧ w = w') : Calls P f args w fun e w' => e = .returned v ∧ ∃ m, w' = w.drewN m :=
  h.mono fun _ _ ⟨he, hm⟩ => ⟨he, 0, by rw [← hm]; rfl⟩
set_option maxHeartbeats 1000000 in
theorem RankMod_c (va : Value) (bs : List Value) (M : List (List Int)) (p : Int) (w : World) (ha : RdM w va bs M) : Calls Try.prog 76 #[va, .int .i64 p] w fun e w' => e = .returned (.int .i64 (rankB M p)) ∧ Below w.heap.size w w' := by
  have HA := hid ha
  clear ha
  cases hq : primeB p with
  | false =>
    have E := hid (rankB_f (M := M) (p := p) (by rw [hq]; simp))
    go_enter Try.func76, Try.ntmps76
    go_wp2_with (go_at_call 81; refine (IsFieldPrime_c _ _).mono ?_; rw [hq]; rintro e w' ⟨rfl, rfl⟩)
    go_ret
    exact ⟨by rw [E.out]; rfl, Below.refl _ _⟩
  | true =>
    have HP : Hid (PrimeP p) := primeB_iff.1 hq
    have HH := hid (same_drew (isSmallMatrix_c _ _ M _ HA.out))
    cases hf : fitM M with
    | false =>
      have E := hid (rankB_f (M := M) (p := p) (by rw [hf]; simp))
      go_enter Try.func76, Try.ntmps76
      go_wp2_with (go_at_call 81; refine (IsFieldPrime_c _ _).mono ?_; rw [hq]; rintro e w' ⟨rfl, rfl⟩)
      refine HH.out.mono ?_
      rw [hf]
      rintro e w1 ⟨rfl, m, hw⟩
      have HB : Hid (Below w.heap.size w w1) := by rw [hw]; exact below_drewN (Below.refl _ _) m
      clear hw
      go_wp2_with fail
      go_ret
      exact ⟨by rw [E.out]; rfl, HB.out⟩
    | true =>
      have E : Hid (rankB M p = rankR p M) := if_pos ⟨hq, hf⟩
      have HF : Hid (Fit M) := fitM_iff.1 hf
      have h30 := HF.out.1
      go_enter Try.func76, Try.ntmps76
      go_wp2_with (go_at_call 81; refine (IsFieldPrime_c _ _).mono ?_; rw [hq]; rintro e w' ⟨rfl, rfl⟩)
      refine HH.out.mono ?_
      rw [hf]
      rintro e w1 ⟨rfl, m, hw⟩
      have HB : Hid (Below w.heap.size w w1) := by rw [hw]; exact below_drewN (Below.refl _ _) m
      have HA1 : Hid (RdM w1 va bs M) := by rw [hw]; exact HA.out.drew m
      clear hw
      go_wp2_with fail
      refine (rankOf_c _ _ M _ p _ HA1.out HP.out HF.out.even (by omega) HF.out.w).mono ?_
      rintro e w2 ⟨rfl, hB⟩
      have HB2 := hid (HB.out.trans (hB.mono HB.out.size))
      clear hB
      go_wp2_with fail
      go_ret
      exact ⟨by rw [E.out]; rfl, HB2.out⟩

set_option maxHeartbeats 1000000 in
theorem sRankMod_c (va : Value) (bs : List Value) (M : List (List Int)) (p : Int) (w : World) (ha : RdM w va bs M) : Calls Try.prog 77 #[va, .int .i64 p] w fun e w' => e = .returned (.int .i64 (rankB M p)) ∧ Below w.heap.size w w' := by
  have HA := hid ha
  clear ha
  cases hq : primeB p with
  | false =>
    have E := hid (rankB_f (M := M) (p := p) (by rw [hq]; simp))
    go_enter Try.func77, Try.ntmps77
    go_wp2_with (go_at_call 82; refine (sIsFieldPrime_c _ _).mono ?_; rw [hq]; rintro e w' ⟨rfl, rfl⟩)
    go_ret
    exact ⟨by rw [E.out]; rfl, Below.refl _ _⟩
  | true =>
    have HP : Hid (PrimeP p) := primeB_iff.1 hq
    have HH := hid (l13Fits_c _ _ M _ HA.out)
    cases hf : fitM M with
    | false =>
      have E := hid (rankB_f (M := M) (p := p) (by rw [hf]; simp))
      go_enter Try.func77, Try.ntmps77
      go_wp2_with (go_at_call 82; refine (sIsFieldPrime_c _ _).mono ?_; rw [hq]; rintro e w' ⟨rfl, rfl⟩)
      refine HH.out.mono ?_
      rw [hf]
      rintro e w1 ⟨rfl, m, hw⟩
      have HB : Hid (Below w.heap.size w w1) := by rw [hw]; exact below_drewN (Below.refl _ _) m
      clear hw
      go_wp2_with fail
      go_ret
      exact ⟨by rw [E.out]; rfl, HB.out⟩
    | true =>
      have E : Hid (rankB M p = rankR p M) := if_pos ⟨hq, hf⟩
      have HF : Hid (Fit M) := fitM_iff.1 hf
      have h30 := HF.out.1
      go_enter Try.func77, Try.ntmps77
      go_wp2_with (go_at_call 82; refine (sIsFieldPrime_c _ _).mono ?_; rw [hq]; rintro e w' ⟨rfl, rfl⟩)
      refine HH.out.mono ?_
      rw [hf]
      rintro e w1 ⟨rfl, m, hw⟩
      have HB : Hid (Below w.heap.size w w1) := by rw [hw]; exact below_drewN (Below.refl _ _) m
      have HA1 : Hid (RdM w1 va bs M) := by rw [hw]; exact HA.out.drew m
      clear hw
      go_wp2_with fail
      refine (l13Rank_c _ _ M _ p _ HA1.out HP.out HF.out.even (by omega) HF.out.w).mono ?_
      rintro e w2 ⟨rfl, hB⟩
      have HB2 := hid (HB.out.trans (hB.mono HB.out.size))
      clear hB
      go_wp2_with fail
      go_ret
      exact ⟨by rw [E.out]; rfl, HB2.out⟩


end Go.Proofs.Ytjaofbdfhcgmeaa
