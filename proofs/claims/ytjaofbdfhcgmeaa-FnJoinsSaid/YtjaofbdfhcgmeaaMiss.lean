/-
  The least sets that are no faces.
-/
import Derived.Test.YtjaofbdfhcgmeaaCy
namespace Go.Proofs.Ytjaofbdfhcgmeaa
open Go.RowKit

/-- The numbers below k with Q, in the order of numbers. -/
def numTo (Q : Int → Bool) : Nat → List Int
  | 0 => []
  | k + 1 => if Q (k : Int) = true then numTo Q k ++ [(k : Int)] else numTo Q k
theorem numTo_len (Q : Int → Bool) (k : Nat) : (numTo Q k).length ≤ k := by
  induction k with
  | zero => simp [numTo]
  | succ k ih => rw [numTo]; split <;> (try simp) <;> omega
theorem mem_numTo {Q : Int → Bool} {k : Nat} {x : Int} : x ∈ numTo Q k ↔ 0 ≤ x ∧ x < k ∧ Q x = true := by
  induction k with
  | zero => simp only [numTo, List.not_mem_nil, false_iff]; omega
  | succ k ih =>
    rw [numTo]
    by_cases h : Q (k : Int) = true
    · rw [if_pos h, List.mem_append, ih, List.mem_singleton]
      constructor
      · rintro (⟨a, b, c⟩ | rfl)
        · exact ⟨a, by omega, c⟩
        · exact ⟨by omega, by omega, h⟩
      · rintro ⟨a, b, c⟩
        by_cases hx : x = k
        · exact .inr hx
        · exact .inl ⟨a, by omega, c⟩
    · rw [if_neg h, ih]
      constructor
      · rintro ⟨a, b, c⟩; exact ⟨a, by omega, c⟩
      · rintro ⟨a, b, c⟩
        have hx : x ≠ k := by rintro rfl; exact h c
        exact ⟨a, by omega, c⟩
theorem numTo_rng {Q : Int → Bool} : ∀ x ∈ numTo Q 64, 0 ≤ x ∧ x < 64 := fun x h => by have := mem_numTo.1 h; omega
theorem mem_numTo64 (Q : Int → Bool) {s : Int} (h0 : 0 ≤ s) (h1 : s < 64) : mem (numTo Q 64) s = Q s := bool_ext (by
  rw [mem_iff, mem_numTo]
  exact ⟨fun h => h.2.2, fun h => ⟨h0, by omega, h⟩⟩)
def notP (P : Int → Bool) (s : Int) : Bool := !P s
def missB (n : Int) (xs : List Int) : List Int := if IsC n xs then minL (upToP (pw n) (notP (dn (mem xs)))) else []
theorem missB_len (n : Int) (xs : List Int) : (missB n xs).length ≤ 448 := by
  unfold missB; split
  · exact minL_len _
  · simp
theorem missB_rng {n : Int} {xs : List Int} : ∀ x ∈ missB n xs, 0 ≤ x ∧ x < 64 := by
  unfold missB; split
  · exact fun x h => minL_rng h
  · simp



set_option maxHeartbeats 1000000 in
theorem sMissingSets_c (n : Int) (v : Value) (xs : List Int) (w : World) (hv : Rd w v (ints xs)) : Calls Try.prog 117 #[cx n v] w fun e w' => ∃ u, e = .returned u ∧ St w w' [⟨u, 3, ints (missB n xs)⟩] := by
  have hS := (St.start w).box n v 30
  obtain ⟨pv, lv, cv, rfl⟩ := hv.form
  have HS := hid hS
  clear hS
  by_cases hc : IsC n xs
  · have hb : isC n xs = true := isC_iff.2 hc
    have E : Hid (missB n xs = minL (upToP (pw n) (notP (dn (mem xs))))) := by show _ = _; rw [missB, if_pos hc]
    have HR := hid hc.rng
    have n0 : 0 ≤ n := by have := hc.1; omega
    have n6 := hc.2.1
    obtain ⟨Q, hQ⟩ : ∃ Q, Q = upToP (pw n) (notP (dn (mem xs))) := ⟨_, rfl⟩
    have HQ : Hid (∀ s, Q s = (decide (s < pw n) && !(dn (mem xs) s))) := by intro s; rw [hQ]; rfl
    rw [← hQ] at E
    have HI : Hid (∀ s, 0 ≤ s → isSetB n s = decide (s < pw n)) := fun s hs => bool_ext (by
      rw [isSet_pw, decide_eq_true_eq]
      exact ⟨fun h => h.2.2.2, fun h => ⟨n0, n6, hs, h⟩⟩)
    clear hc hQ
    unfold cx
    go_enter Try.func117, Try.ntmps117
    go_wp2_with fail
    go_loopw [3, 4] (fun o i wr => ∃ (s : Nat) (u : Value), s ≤ 64 ∧ i = .int .i64 s ∧ o = u ∧ St w wr [⟨u, 3, ints (numTo Q s)⟩, ⟨bx w.heap.size, 30, [.int .i64 n, .slice pv lv cv]⟩]) (fun _ i _ => 64 - (intOf i).toNat)
    case atStart => exact ⟨0, _, by omega, rfl, rfl, HS.out.newAt #[] _ (by simp) (by simp)⟩
    case round =>
      obtain ⟨s, u, hs, rfl, rfl, hS⟩ := hrel
      have HS1 := hid hS
      have c0 := hS.hd2.c0
      have c1 := hS.hd2.c1
      have hv1 := hS.old hv
      have hl := numTo_len Q s
      clear hS
      by_cases hlt : s < 64
      · have e1 := HI.out s (by omega)
        have e2 := HQ.out s
        by_cases hp : (s : Int) < pw n
        · have dp : decide ((s : Int) < pw n) = true := by simp [hp]
          rw [dp] at e1 e2
          cases hd : dn (mem xs) (s : Int) with
          | false =>
            have E2 : Hid (numTo Q (s + 1) = numTo Q s ++ [(s : Int)]) := by show _ = _; rw [numTo, if_pos (by rw [e2, hd]; rfl)]
            clear e2 hp
            go_wp2_with fail
            refine (sIsComplex_c n _ xs _ hv1).mono ?_
            rintro e w2 ⟨rfl, hB2⟩
            have HS2 := hid (HS1.out.quiet hB2)
            have d0 := HS2.out.hd2.c0
            have d1 := HS2.out.hd2.c1
            have hv2 := HS2.out.old hv
            clear hB2
            go_wp2_with (go_at_call 126; refine (sIsSet_c _ _ _).mono ?_; rintro e w' ⟨rfl, rfl⟩)
            refine (l3Has_c n _ xs s _ hv2 HR.out (by omega) (by omega)).mono ?_
            rintro e w3 ⟨rfl, hB3⟩
            have HS3 := hid (HS2.out.quiet hB3)
            clear hB3
            go_wp2_with (at_builtin; refine wpList_push rfl _ _ rfl tI HS3.out.own (.int .i64 (s : Int)) rfl (by simp; omega) rfl rfl ?_)
            intro v2 w4 hO2 hb2
            go_wp2_with fail
            go_roundw
            case rel => exact ⟨s + 1, v2, by omega, by go_num, rfl, by rw [E2.out, ints_append]; exact HS3.out.mut hO2 hb2⟩
            case measure => simp [intOf]; omega
          | true =>
            have E2 : Hid (numTo Q (s + 1) = numTo Q s) := by show _ = _; rw [numTo, if_neg (by rw [e2, hd]; simp)]
            clear e2 hp
            go_wp2_with fail
            refine (sIsComplex_c n _ xs _ hv1).mono ?_
            rintro e w2 ⟨rfl, hB2⟩
            have HS2 := hid (HS1.out.quiet hB2)
            have d0 := HS2.out.hd2.c0
            have d1 := HS2.out.hd2.c1
            have hv2 := HS2.out.old hv
            clear hB2
            go_wp2_with (go_at_call 126; refine (sIsSet_c _ _ _).mono ?_; rintro e w' ⟨rfl, rfl⟩)
            refine (l3Has_c n _ xs s _ hv2 HR.out (by omega) (by omega)).mono ?_
            rintro e w3 ⟨rfl, hB3⟩
            have HS3 := hid (HS2.out.quiet hB3)
            clear hB3
            go_wp2_with fail
            go_roundw
            case rel => exact ⟨s + 1, _, by omega, by go_num, rfl, by rw [E2.out]; exact HS3.out⟩
            case measure => simp [intOf]; omega
        · have dp : decide ((s : Int) < pw n) = false := by simp [hp]
          rw [dp] at e1 e2
          have E2 : Hid (numTo Q (s + 1) = numTo Q s) := by show _ = _; rw [numTo, if_neg (by rw [e2]; simp)]
          clear e2 hp
          go_wp2_with fail
          refine (sIsComplex_c n _ xs _ hv1).mono ?_
          rintro e w2 ⟨rfl, hB2⟩
          have HS2 := hid (HS1.out.quiet hB2)
          have d0 := HS2.out.hd2.c0
          have d1 := HS2.out.hd2.c1
          clear hB2
          go_wp2_with (go_at_call 126; refine (sIsSet_c _ _ _).mono ?_; rintro e w' ⟨rfl, rfl⟩)
          go_roundw
          case rel => exact ⟨s + 1, _, by omega, by go_num, rfl, by rw [E2.out]; exact HS2.out⟩
          case measure => simp [intOf]; omega
      · have es : s = 64 := by omega
        subst es
        have EM : Hid (minL (mem (numTo Q 64)) = minL Q) := minL_congr fun s h0 h1 => mem_numTo64 Q h0 h1
        go_wp2_with fail
        refine (l2Min_c _ _ _ HS1.out.hd numTo_rng).mono ?_
        rintro e w2 ⟨u2, rfl, hS2⟩
        have HS2 := hid (HS1.out.call1 hS2)
        clear hS2
        go_wp2_with fail
        go_ret
        exact ⟨_, rfl, by rw [E.out, ← EM.out]; exact HS2.out.sub (.cons_cons _ (.cons _ (.cons _ .slnil)))⟩
  · have hb : isC n xs = false := isC_not hc
    have E : Hid (missB n xs = minL (mem [])) := by
      show _ = _
      rw [missB, if_neg hc]
      decide +kernel
    have c0 := HS.out.hd.c0
    have c1 := HS.out.hd.c1
    clear hc
    unfold cx
    go_enter Try.func117, Try.ntmps117
    go_wp2_with fail
    go_loopw [3, 4] (fun o i wr => i = .int .i64 0 ∧ St w wr [⟨o, 3, ints []⟩, ⟨bx w.heap.size, 30, [.int .i64 n, .slice pv lv cv]⟩]) (fun _ i _ => 64 - (intOf i).toNat)
    case atStart => exact ⟨rfl, HS.out.newAt #[] _ (by simp) (by simp)⟩
    case round =>
      obtain ⟨rfl, hS⟩ := hrel
      have HS1 := hid hS
      have c0 := hS.hd2.c0
      have c1 := hS.hd2.c1
      have hv1 := hS.old hv
      clear hS
      go_wp2_with fail
      refine (sIsComplex_c n _ xs _ hv1).mono ?_
      rintro e w2 ⟨rfl, hB2⟩
      have HS2 := hid (HS1.out.quiet hB2)
      clear hB2
      go_wp2_with fail
      refine (l2Min_c _ _ _ HS2.out.hd (by simp)).mono ?_
      rintro e w3 ⟨u2, rfl, hS3⟩
      have HS3 := hid (HS2.out.call1 hS3)
      clear hS3
      go_wp2_with fail
      go_ret
      exact ⟨_, rfl, by rw [E.out]; exact HS3.out.sub (.cons_cons _ (.cons _ (.cons _ .slnil)))⟩

end Go.Proofs.Ytjaofbdfhcgmeaa
