/-
  The matrix of a border: the two functions.
-/
import Derived.Test.YtjaofbdfhcgmeaaBord2
namespace Go.Proofs.Ytjaofbdfhcgmeaa
open Go.RowKit

def bmB (n : Int) (xs : List Int) (k : Int) : List (List Int) := if isC n xs = true ∧ 1 ≤ k ∧ k ≤ 6 then bordM (fosB n xs (k - 1)) (fosB n xs k) else []
theorem bmB_f {n : Int} {xs : List Int} {k : Int} (h : ¬ (isC n xs = true ∧ 1 ≤ k ∧ k ≤ 6)) : bmB n xs k = [] := if_neg h

set_option maxHeartbeats 4000000 in
set_option maxRecDepth 100000 in
theorem BorderMatrix_c (n : Int) (va : Value) (xs : List Int) (k : Int) (w : World) (ha : Rd w va (ints xs)) : Calls Try.prog 65 #[cx n va, .int .i64 k] w fun e w' => ∃ v vs, e = .returned v ∧ vs.length = (bmB n xs k).length ∧ St w w' (⟨v, 26, vs⟩ :: rowsOn vs (bmB n xs k) []) := by
  obtain ⟨p1, l1, k1, rfl⟩ := ha.form
  have hS := (St.start w).box n (.slice p1 l1 k1) 30
  have ha' := hS.old ha
  have HS := hid hS
  clear hS
  cases h1 : isC n xs with
  | false =>
    have E := hid (bmB_f (n := n) (xs := xs) (k := k) (by rw [h1]; simp))
    unfold cx
    go_enter Try.func65, Try.ntmps65
    go_wp2_with fail
    refine (IsComplex_c n _ xs _ ha').mono ?_
    rw [h1]
    rintro e w1 ⟨rfl, hB⟩
    have HS1 := hid (HS.out.quiet hB)
    clear hB
    go_wp2_with fail
    go_ret
    rw [E.out]
    exact ⟨.slice none 0 0, [], rfl, rfl, HS1.out.tail.nilRow _⟩
  | true =>
    by_cases hk1 : k < 1
    · have E := hid (bmB_f (n := n) (xs := xs) (k := k) (by omega))
      unfold cx
      go_enter Try.func65, Try.ntmps65
      go_wp2_with fail
      refine (IsComplex_c n _ xs _ ha').mono ?_
      rw [h1]
      rintro e w1 ⟨rfl, hB⟩
      have HS1 := hid (HS.out.quiet hB)
      clear hB
      go_wp2_with fail
      go_ret
      rw [E.out]
      exact ⟨.slice none 0 0, [], rfl, rfl, HS1.out.tail.nilRow _⟩
    · by_cases hk6 : 6 < k
      · have E := hid (bmB_f (n := n) (xs := xs) (k := k) (by omega))
        unfold cx
        go_enter Try.func65, Try.ntmps65
        go_wp2_with fail
        refine (IsComplex_c n _ xs _ ha').mono ?_
        rw [h1]
        rintro e w1 ⟨rfl, hB⟩
        have HS1 := hid (HS.out.quiet hB)
        clear hB
        go_wp2_with fail
        go_ret
        rw [E.out]
        exact ⟨.slice none 0 0, [], rfl, rfl, HS1.out.tail.nilRow _⟩
      · have E : Hid (bmB n xs k = bordM (fosB n xs (k - 1)) (fosB n xs k)) := if_pos ⟨h1, by omega, by omega⟩
        have lr := fosB_len n xs (k - 1)
        have lc := fosB_len n xs k
        have HR := hid (fosB_rng n xs (k - 1))
        have HC := hid (fosB_rng n xs k)
        have u1 : IntKind.i64.wrap (k - 1) = k - 1 := IntWalk.i64_in _ (by omega)
        unfold cx
        go_enter Try.func65, Try.ntmps65
        go_wp2_with fail
        refine (IsComplex_c n _ xs _ ha').mono ?_
        rw [h1]
        rintro e w1 ⟨rfl, hB⟩
        have HS1 := hid (HS.out.quiet hB)
        have d0 := HS1.out.hd.c0
        have d1 := HS1.out.hd.c1
        clear hB h1
        go_wp2_with fail
        go_region_with (first | (go_at_call 144; refine (FacesOfSize_c n _ xs _ _ (HSa.out.old ha)).mono ?_; rintro e w3 ⟨v3, rfl, hS3⟩; have HSb := hid (HSa.out.call1 hS3); have i0 := HSb.out.hd3.c0; have i1 := HSb.out.hd3.c1; clear hS3) | (go_at_call 144; refine (FacesOfSize_c n _ xs _ _ ((HS1.out.drewN 1).old ha)).mono ?_; rintro e w2 ⟨v2, rfl, hS2⟩; have HSa := hid ((HS1.out.drewN 1).call1 hS2); have g0 := HSa.out.hd2.c0; have g1 := HSa.out.hd2.c1; clear hS2) | (go_at_call 143; refine (borderOf_c _ _ _ _ k _ HSb.out.hd2 HSb.out.hd HR.out HC.out lr lc).mono ?_; rintro e w5 ⟨v5, vs5, rfl, hl5, hS5⟩; have HL := hid hl5; have HSc := hid (HSb.out.callM hS5); clear hl5 hS5) | (go_at_call 143; refine (borderOf_c _ _ _ _ k _ HSb.out.hd HSb.out.hd2 HR.out HC.out lr lc).mono ?_; rintro e w5 ⟨v5, vs5, rfl, hl5, hS5⟩; have HL := hid hl5; have HSc := hid (HSb.out.callM hS5); clear hl5 hS5))
        all_goals
          go_wp2_with fail
          go_ret
          rw [E.out]
          have h10 := HSc.out.sub (env' := _ :: rowsOn _ _ []) (.cons_cons _ (List.Sublist.append_left (List.nil_sublist _) _))
          first | exact ⟨_, _, rfl, HL.out, h10⟩ | exact ⟨_, rfl, _, HL.out, h10⟩

set_option maxHeartbeats 4000000 in
theorem sBorderMatrix_c (n : Int) (va : Value) (xs : List Int) (k : Int) (w : World) (ha : Rd w va (ints xs)) : Calls Try.prog 75 #[cx n va, .int .i64 k] w fun e w' => ∃ v vs, e = .returned v ∧ vs.length = (bmB n xs k).length ∧ St w w' (⟨v, 26, vs⟩ :: rowsOn vs (bmB n xs k) []) := by
  obtain ⟨p1, l1, k1, rfl⟩ := ha.form
  have hS := (St.start w).box n (.slice p1 l1 k1) 30
  have ha' := hS.old ha
  have HS := hid hS
  clear hS
  cases h1 : isC n xs with
  | false =>
    have E := hid (bmB_f (n := n) (xs := xs) (k := k) (by rw [h1]; simp))
    unfold cx
    go_enter Try.func75, Try.ntmps75
    go_wp2_with fail
    refine (sIsComplex_c n _ xs _ ha').mono ?_
    rw [h1]
    rintro e w1 ⟨rfl, hB⟩
    have HS1 := hid (HS.out.quiet hB)
    clear hB
    go_wp2_with fail
    go_ret
    rw [E.out]
    exact ⟨_, [], rfl, rfl, (HS1.out.newAt #[] 26 (by simp) rfl).sub (.cons_cons _ (.cons _ .slnil))⟩
  | true =>
    by_cases hk : 1 ≤ k ∧ k ≤ 6
    · have E : Hid (bmB n xs k = bordM (fosB n xs (k - 1)) (fosB n xs k)) := if_pos ⟨h1, hk⟩
      have q := inB_t hk.1 hk.2
      obtain ⟨k0, k6⟩ := hk
      unfold cx
      go_enter Try.func75, Try.ntmps75
      go_wp2_with fail
      refine (sIsComplex_c n _ xs _ ha').mono ?_
      rw [h1]
      rintro e w1 ⟨rfl, hB⟩
      have HS1 := hid (HS.out.quiet hB)
      have d0 := HS1.out.hd.c0
      have d1 := HS1.out.hd.c1
      have ha1 := HS1.out.old ha
      clear hB h1
      go_wp2_with (go_at_call 112; refine (l1In_c _ _ _ _).mono ?_; rintro e w' ⟨rfl, rfl⟩)
      refine (l13Border_c n _ xs k _ ha1 (by omega) (by omega)).mono ?_
      rintro e w2 ⟨v5, vs5, rfl, hl5, hS5⟩
      have HL := hid hl5
      have HSc := hid (HS1.out.callM hS5)
      clear hl5 hS5
      go_wp2_with fail
      go_ret
      rw [E.out]
      have h10 := HSc.out.sub (env' := _ :: rowsOn _ _ []) (.cons_cons _ (List.Sublist.append_left (List.nil_sublist _) _))
      first | exact ⟨_, _, rfl, HL.out, h10⟩ | exact ⟨_, rfl, _, HL.out, h10⟩
    · have E := hid (bmB_f (n := n) (xs := xs) (k := k) (by omega))
      have q := inB_f hk
      clear hk
      unfold cx
      go_enter Try.func75, Try.ntmps75
      go_wp2_with fail
      refine (sIsComplex_c n _ xs _ ha').mono ?_
      rw [h1]
      rintro e w1 ⟨rfl, hB⟩
      have HS1 := hid (HS.out.quiet hB)
      clear hB h1
      go_wp2_with (go_at_call 112; refine (l1In_c _ _ _ _).mono ?_; rintro e w' ⟨rfl, rfl⟩)
      go_ret
      rw [E.out]
      exact ⟨_, [], rfl, rfl, (HS1.out.newAt #[] 26 (by simp) rfl).sub (.cons_cons _ (.cons _ .slnil))⟩

end Go.Proofs.Ytjaofbdfhcgmeaa
