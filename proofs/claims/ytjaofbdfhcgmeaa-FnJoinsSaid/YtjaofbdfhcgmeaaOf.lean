/-
  Lists of sets of n points: the complex of them, their covers, the complex of what avoids them.
-/
import Derived.Test.YtjaofbdfhcgmeaaMiss
namespace Go.Proofs.Ytjaofbdfhcgmeaa
open Go.RowKit

def AreS (n : Int) (xs : List Int) : Prop := 1 ≤ n ∧ n ≤ 6 ∧ xs.length ≤ 64 ∧ ∀ x ∈ xs, 0 ≤ x ∧ x < pw n
instance (n : Int) (xs : List Int) : Decidable (AreS n xs) := by unfold AreS; exact inferInstance
def areB (n : Int) (xs : List Int) : Bool := decide (AreS n xs)
theorem areB_t {n : Int} {xs : List Int} (h : AreS n xs) : areB n xs = true := by simp [areB, h]
theorem areB_f {n : Int} {xs : List Int} (h : ¬ AreS n xs) : areB n xs = false := by simp [areB, h]
theorem areB_iff {n : Int} {xs : List Int} : areB n xs = true ↔ AreS n xs := by simp [areB]
theorem AreS.rng {n : Int} {xs : List Int} (h : AreS n xs) : ∀ x ∈ xs, 0 ≤ x ∧ x < 64 := fun x hx => by
  have h1 := h.2.2.2 x hx
  have h2 := pw_rng (by have := h.1; omega) h.2.1
  omega
theorem not_are_set {n : Int} {xs : List Int} {j : Nat} (hj : j < xs.length) (h : isSetB n (gi xs j) = false) : areB n xs = false := areB_f fun hc => by
  have h1 := hc.2.2.2 _ (gi_mem hj)
  rw [isSet_pw.2 ⟨by have := hc.1; omega, hc.2.1, h1.1, h1.2⟩] at h
  cases h
/-- The number of points, the sets of an answer that may be none. -/
def resN (b : Bool) (n : Int) : Int := if b = true then n else 0
def resL (b : Bool) (L : List Int) : List Int := if b = true then L else []
theorem resL_len (b : Bool) (L : List Int) (h : L.length ≤ 448) : (resL b L).length ≤ 1000000 := by
  unfold resL
  split
  · omega
  · simp

set_option maxHeartbeats 1000000 in
theorem areSetsOf_c (n : Int) (va : Value) (xs : List Int) (w : World) (ha : Rd w va (ints xs)) : Calls Try.prog 121 #[.int .i64 n, va] w fun e w' => e = .returned (.bool (areB n xs)) ∧ w = w' := by
  have la := ha.iln tI
  have ll := ha.ile
  by_cases h1 : n < 1
  · have E : Hid (areB n xs = false) := areB_f fun h => by have := h.1; omega
    go_enter Try.func121, Try.ntmps121
    go_wp2_with fail
    go_ret
    exact ⟨ret_bool E.out.symm, rfl⟩
  · by_cases h6 : 6 < n
    · have E : Hid (areB n xs = false) := areB_f fun h => by have := h.2.1; omega
      go_enter Try.func121, Try.ntmps121
      go_wp2_with fail
      go_ret
      exact ⟨ret_bool E.out.symm, rfl⟩
    · by_cases h64 : 64 < xs.length
      · have E : Hid (areB n xs = false) := areB_f fun h => by have := h.2.2.1; omega
        go_enter Try.func121, Try.ntmps121
        go_wp2_with fail
        go_ret
        exact ⟨ret_bool E.out.symm, rfl⟩
      · go_enter Try.func121, Try.ntmps121
        go_wp2_with fail
        go_loop [20] (fun i => ∃ (j : Nat), j ≤ xs.length ∧ i = .int .i64 j ∧ Hid (∀ t, t < j → 0 ≤ gi xs t ∧ gi xs t < pw n)) (fun i => xs.length - (intOf i).toNat)
        case atStart => exact ⟨0, by omega, rfl, fun t h => by omega⟩
        case round =>
          obtain ⟨j, hj, rfl, hN⟩ := hrel
          by_cases hlt : j < xs.length
          · have f1 := ha.iix tI j hlt
            have f2 := ha.intCell j hlt
            cases hs : isSetB n (gi xs j) with
            | false =>
              have E := hid (not_are_set hlt hs)
              go_wp2_with (go_at_call 125; refine (IsSet_c _ _ _).mono ?_; rintro e w' ⟨rfl, rfl⟩)
              go_ret
              exact ⟨ret_bool E.out.symm, rfl⟩
            | true =>
              have N2 : Hid (∀ t, t < j + 1 → 0 ≤ gi xs t ∧ gi xs t < pw n) := by
                intro t ht
                by_cases e : t = j
                · subst e; exact (isSet_pw.1 hs).2.2
                · exact hN.out t (by omega)
              go_wp2_with (go_at_call 125; refine (IsSet_c _ _ _).mono ?_; rintro e w' ⟨rfl, rfl⟩)
              go_round
              case rel => exact ⟨j + 1, by omega, by go_num, N2⟩
              case measure => simp [intOf]; omega
          · have E : Hid (areB n xs = true) := areB_t ⟨by omega, by omega, by omega, fun x hx => by
              obtain ⟨i, hi, rfl⟩ := mem_gi hx
              exact hN.out i (by omega)⟩
            go_wp2_with fail
            go_ret
            exact ⟨ret_bool E.out.symm, rfl⟩

set_option maxHeartbeats 2000000 in
theorem sMakeComplex_c (n : Int) (va : Value) (xs : List Int) (w : World) (ha : Rd w va (ints xs)) : Calls Try.prog 129 #[.int .i64 n, va] w fun e w' =>
    ∃ v, e = .returned (.tuple #[cx (resN (areB n xs) n) v, .bool (areB n xs)]) ∧ St w w' [⟨v, 3, ints (resL (areB n xs) (maxL (mem xs)))⟩] := by
  have la := ha.iln tI
  have ll := ha.ile
  have hB := (St.start w).box 0 (.slice none 0 0) 30
  have ha' := hB.old ha
  have c0 := hB.hd.c0
  have c1 := hB.hd.c1
  have r0 : (w.alloc (.cells #[.int .i64 0, .slice none 0 0] 30)).frozen? ⟨w.heap.size, 0, none⟩ = false := hB.own.free (v := bx w.heap.size) (.head _) 0 (by simp)
  have r1 : (w.alloc (.cells #[.int .i64 0, .slice none 0 0] 30)).frozen? ⟨w.heap.size, 1, none⟩ = false := hB.own.free (v := bx w.heap.size) (.head _) 1 (by simp)
  have HB := hid hB
  clear hB
  go_enter Try.func129, Try.ntmps129
  go_wp2_with fail
  go_loop [6] (fun i => ∃ (j : Nat), j ≤ xs.length ∧ i = .int .i64 j ∧ Hid (∀ t, t < j → isSetB n (gi xs t) = true)) (fun i => xs.length - (intOf i).toNat)
  case atStart => exact ⟨0, by omega, rfl, fun t h => by omega⟩
  case round =>
    obtain ⟨j, hj, rfl, hN⟩ := hrel
    by_cases hlt : j < xs.length
    · have f1 := ha'.iix tI j hlt
      have f2 := ha'.intCell j hlt
      cases hs : isSetB n (gi xs j) with
      | false =>
        have E := hid (not_are_set hlt hs)
        go_wp2_with (go_at_call 126; refine (sIsSet_c _ _ _).mono ?_; rintro e w' ⟨rfl, rfl⟩)
        have hS2 := HB.out
        refine bodyPost_ret (ret_cx2 rfl rfl rfl hS2.hd) rfl ⟨.slice none 0 0, ?_, ?_⟩
        · rw [E.out]; rfl
        · rw [E.out]; exact hS2.tail.nilRow _
      | true =>
        have N2 : Hid (∀ t, t < j + 1 → isSetB n (gi xs t) = true) := by
          intro t ht
          by_cases e : t = j
          · subst e; exact hs
          · exact hN.out t (by omega)
        go_wp2_with (go_at_call 126; refine (sIsSet_c _ _ _).mono ?_; rintro e w' ⟨rfl, rfl⟩)
        go_round
        case rel => exact ⟨j + 1, by omega, by go_num, N2⟩
        case measure => simp [intOf]; omega
    · by_cases h1 : 1 ≤ n ∧ n ≤ 6
      · have q := inB_t h1.1 h1.2
        by_cases h64 : 64 < xs.length
        · have E : Hid (areB n xs = false) := areB_f fun h => by have := h.2.2.1; omega
          clear h1
          go_wp2_with (go_at_call 112; refine (l1In_c _ _ _ _).mono ?_; rintro e w' ⟨rfl, rfl⟩)
          have hS2 := HB.out
          refine bodyPost_ret (ret_cx2 rfl rfl rfl hS2.hd) rfl ⟨.slice none 0 0, ?_, ?_⟩
          · rw [E.out]; rfl
          · rw [E.out]; exact hS2.tail.nilRow _
        · have hA : AreS n xs := ⟨h1.1, h1.2, by omega, fun x hx => by
            obtain ⟨i, hi, rfl⟩ := mem_gi hx
            exact (isSet_pw.1 (hN.out i (by omega))).2.2⟩
          have E := hid (areB_t hA)
          have HR := hid hA.rng
          clear h1 hA
          go_wp2_with (go_at_call 112; refine (l1In_c _ _ _ _).mono ?_; rintro e w' ⟨rfl, rfl⟩)
          refine (l3Make_c n va xs _ ha' HR.out).mono ?_
          rintro e w1 ⟨v, rfl, hS1⟩
          have hS := HB.out.call1 hS1
          obtain ⟨p, l, c, rfl⟩ := hS.hd.form
          have d0 := hS.hd2.c0
          have d1 := hS.hd2.c1
          have s0 : w1.frozen? ⟨w.heap.size, 0, none⟩ = false := hS.own.free (v := bx w.heap.size) (.tail _ (.head _)) 0 (by simp)
          have s1 : w1.frozen? ⟨w.heap.size, 1, none⟩ = false := hS.own.free (v := bx w.heap.size) (.tail _ (.head _)) 1 (by simp)
          have HS := hid hS
          clear hS hS1
          unfold cx
          go_wp2_with fail
          have hS2 := (HS.out.swap.set 0 (by simp) (.int .i64 n)).set 1 (by simp) (.slice p l c)
          refine bodyPost_ret (ret_cx2 rfl rfl rfl hS2.hd) rfl ⟨.slice p l c, ?_, ?_⟩
          · rw [E.out]; rfl
          · rw [E.out]; exact hS2.tail
      · have q := inB_f h1
        have E : Hid (areB n xs = false) := areB_f fun h => h1 ⟨h.1, h.2.1⟩
        clear h1
        go_wp2_with (go_at_call 112; refine (l1In_c _ _ _ _).mono ?_; rintro e w' ⟨rfl, rfl⟩)
        have hS2 := HB.out
        refine bodyPost_ret (ret_cx2 rfl rfl rfl hS2.hd) rfl ⟨.slice none 0 0, ?_, ?_⟩
        · rw [E.out]; rfl
        · rw [E.out]; exact hS2.tail.nilRow _

/-! ### Covers -/

def coverP (xs : List Int) (s : Int) : Bool := xs.all fun t => bits .and .i64 s t != 0
def covB (n : Int) (xs : List Int) : List Int := if AreS n xs then minL (upToP (pw n) (coverP xs)) else []
theorem covB_len (n : Int) (xs : List Int) : (covB n xs).length ≤ 448 := by
  unfold covB; split
  · exact minL_len _
  · simp
theorem mem_numTo_pw {n : Int} (Q : Int → Bool) {s : Int} (h0 : 0 ≤ s) (n0 : 0 ≤ n) (n6 : n ≤ 6) : mem (numTo Q (pw n).toNat) s = upToP (pw n) Q s := bool_ext (by
  have := pw_rng n0 n6
  rw [mem_iff, mem_numTo]
  simp only [upToP, Bool.and_eq_true, decide_eq_true_eq]
  constructor
  · rintro ⟨_, b, c⟩; exact ⟨by omega, c⟩
  · rintro ⟨b, c⟩; exact ⟨h0, by omega, c⟩)
theorem numTo_pw_rng {n : Int} {Q : Int → Bool} (n0 : 0 ≤ n) (n6 : n ≤ 6) : ∀ x ∈ numTo Q (pw n).toNat, 0 ≤ x ∧ x < 64 := fun x h => by
  have := mem_numTo.1 h
  have := pw_rng n0 n6
  omega

set_option maxHeartbeats 1000000 in
theorem covers1_c (b : Nat) (va : Value) (xs : List Int) (s : Int) (w : World) (hc : w.cell? ⟨b, 0, none⟩ = some va) (ha : Rd w va (ints xs)) : Calls Try.prog 124 #[.int .i64 s, .pointer (some ⟨b, 0, none⟩)] w fun e w' => e = .returned (.bool (coverP xs s)) ∧ w = w' := by
  have la := ha.iln tI
  have ll := ha.ile
  go_enter Try.func124, Try.ntmps124
  go_wp2_with fail
  go_loop [8] (fun i => ∃ (j : Nat), j ≤ xs.length ∧ i = .int .i64 j ∧ Hid (∀ t, t < j → (bits .and .i64 s (gi xs t) == 0) = false)) (fun i => xs.length - (intOf i).toNat)
  case atStart => exact ⟨0, by omega, rfl, fun t h => by omega⟩
  case round =>
    obtain ⟨j, hj, rfl, hN⟩ := hrel
    by_cases hlt : j < xs.length
    · have f1 := ha.iix tI j hlt
      have f2 := ha.intCell j hlt
      cases hs : (bits .and .i64 s (gi xs j) == 0) with
      | true =>
        have E : Hid (coverP xs s = false) := by
          show _ = _
          rw [coverP, ← Bool.not_eq_true, List.all_eq_true]
          intro h
          have := h _ (gi_mem hlt)
          simp at this hs
          exact this hs
        go_wp2_with fail
        go_ret
        exact ⟨ret_bool E.out.symm, rfl⟩
      | false =>
        have N2 : Hid (∀ t, t < j + 1 → (bits .and .i64 s (gi xs t) == 0) = false) := by
          intro t ht
          by_cases e : t = j
          · subst e; exact hs
          · exact hN.out t (by omega)
        go_wp2_with fail
        go_round
        case rel => exact ⟨j + 1, by omega, by go_num, N2⟩
        case measure => simp [intOf]; omega
    · have E : Hid (coverP xs s = true) := by
        show _ = _
        rw [coverP, List.all_eq_true]
        intro t ht
        obtain ⟨i, hi, rfl⟩ := mem_gi ht
        have := hN.out i (by omega)
        simpa using this
      go_wp2_with fail
      go_ret
      exact ⟨ret_bool E.out.symm, rfl⟩
set_option maxHeartbeats 1000000 in
set_option maxRecDepth 100000 in
theorem CoversOf_c (n : Int) (va : Value) (xs : List Int) (w : World) (ha : Rd w va (ints xs)) : Calls Try.prog 33 #[.int .i64 n, va] w fun e w' => ∃ u, e = .returned u ∧ St w w' [⟨u, 3, ints (covB n xs)⟩] := by
  obtain ⟨pv, lv, cv, rfl⟩ := ha.form
  have hS := (St.start w).new #[.slice pv lv cv] 26 (by simp [maxLen])
  have hc : (w.alloc (.cells #[.slice pv lv cv] 26)).cell? ⟨w.heap.size, 0, none⟩ = some (.slice pv lv cv) := hS.hd.cell 0 (by simp)
  have ha' := hS.old ha
  have HS := hid hS
  clear hS
  by_cases hA : AreS n xs
  · have hb := areB_t hA
    have E : Hid (covB n xs = minL (upToP (pw n) (coverP xs))) := by show _ = _; rw [covB, if_pos hA]
    have h0 : 0 ≤ n := by have := hA.1; omega
    have h6 := hA.2.1
    have hwant : Wants 124 (.pointer (some ⟨w.heap.size, 0, none⟩)) n (coverP xs) (w.alloc (.cells #[.slice pv lv cv] 26)) := fun s w' s0 s1 hB =>
      (covers1_c w.heap.size _ xs s w' ((hB.cell (World.block_lt_of_cell? _ _ hc)).trans hc) (ha'.below hB)).mono fun e w'' ⟨he, hw⟩ => ⟨he, by rw [← hw]; exact Below.refl _ _⟩
    have HW := hid hwant
    clear hwant hA
    go_enter Try.func33, Try.ntmps33
    go_wp2_with (go_at_call 121; refine (areSetsOf_c n _ xs _ ha').mono ?_; rintro e w' ⟨rfl, rfl⟩)
    refine (covers_pick _ n (coverP xs) _ h0 h6 HW.out).mono ?_
    rintro e w1 ⟨rfl, hB1⟩
    have HB1 := hid (HS.out.quiet hB1)
    clear hB1
    go_wp2_with fail
    refine (minimalIn_c _ _).mono ?_
    rintro e w2 ⟨v, rfl, hS2⟩
    have HS2 := hid (HB1.out.call1 hS2)
    clear hS2
    go_wp2_with fail
    go_ret
    exact ⟨v, rfl, by rw [E.out]; exact HS2.out.sub (.cons_cons _ (.cons _ .slnil))⟩
  · have hb := areB_f hA
    have E : Hid (covB n xs = []) := by show _ = _; rw [covB, if_neg hA]
    clear hA
    go_enter Try.func33, Try.ntmps33
    go_wp2_with (go_at_call 121; refine (areSetsOf_c n _ xs _ ha').mono ?_; rintro e w' ⟨rfl, rfl⟩)
    go_ret
    exact ⟨_, rfl, by rw [E.out]; exact HS.out.tail.nilRow _⟩
set_option maxHeartbeats 2000000 in
theorem l8Covers_c (n : Int) (va : Value) (xs : List Int) (w : World) (ha : Rd w va (ints xs)) (n0 : 0 ≤ n) (n6 : n ≤ 6) : Calls Try.prog 130 #[.int .i64 n, va] w fun e w' => ∃ u, e = .returned u ∧ St w w' [⟨u, 3, ints (minL (upToP (pw n) (coverP xs)))⟩] := by
  have la := ha.iln tI
  have ll := ha.ile
  obtain ⟨p0, p1⟩ := pw_rng n0 n6
  have e1 := pw_wrap n0 n6
  go_enter Try.func130, Try.ntmps130
  go_wp2_with fail
  go_loopw [5, 6] (fun o i wr => ∃ (s : Nat) (u : Value), (s : Int) ≤ pw n ∧ i = .int .i64 s ∧ o = u ∧ St w wr [⟨u, 3, ints (numTo (coverP xs) s)⟩]) (fun _ i _ => 64 - (intOf i).toNat)
  case atStart => exact ⟨0, _, by omega, rfl, rfl, (St.start w).new #[] _ (by simp)⟩
  case round =>
    obtain ⟨s, u, hs, rfl, rfl, hS⟩ := hrel
    have HS := hid hS
    have ha' := hS.old ha
    have hl := numTo_len (coverP xs) s
    clear hS
    by_cases hlt : (s : Int) < pw n
    · have ds : decide ((s : Int) < pw n) = true := by simp [hlt]
      go_wp2_with fail
      go_loop [7, 8] (fun b i => ∃ (j : Nat), j ≤ xs.length ∧ b = .bool ((xs.take j).all fun t => bits .and .i64 (s : Int) t != 0) ∧ i = .int .i64 j) (fun _ i => xs.length - (intOf i).toNat)
      case atStart => exact ⟨0, by omega, rfl, rfl⟩
      case round =>
        obtain ⟨j, hj, rfl, rfl⟩ := hrel
        by_cases hjl : j < xs.length
        · have f1 := ha'.iix tI j hjl
          have f2 := ha'.intCell j hjl
          have N2 : Hid (((xs.take (j + 1)).all fun t => bits .and .i64 (s : Int) t != 0) = (((xs.take j).all fun t => bits .and .i64 (s : Int) t != 0) && bits .and .i64 (s : Int) (gi xs j) != 0)) := by
            show _ = _
            rw [take_succ_gi hjl, List.all_append]; simp
          cases hq : (xs.take j).all fun t => bits .and .i64 (s : Int) t != 0 with
          | true =>
            have HQ := hid hq; clear hq
            go_wp2_with fail
            go_round
            case rel => exact ⟨j + 1, by omega, by rw [N2.out, HQ.out, Bool.true_and], by go_num⟩
            case measure => simp [intOf]; omega
          | false =>
            have HQ := hid hq; clear hq
            go_wp2_with fail
            go_round
            case rel => exact ⟨j + 1, by omega, by rw [N2.out, HQ.out, Bool.false_and], by go_num⟩
            case measure => simp [intOf]; omega
        · have et : ((xs.take j).all fun t => bits .and .i64 (s : Int) t != 0) = coverP xs (s : Int) := by rw [List.take_of_length_le (by omega)]; rfl
          rw [et]
          cases hb : coverP xs (s : Int) with
          | true =>
            have E2 : Hid (numTo (coverP xs) (s + 1) = numTo (coverP xs) s ++ [(s : Int)]) := by show _ = _; rw [numTo, if_pos hb]
            clear hb et
            go_wp2_with (at_builtin; refine wpList_push rfl _ _ rfl tI HS.out.own (.int .i64 (s : Int)) rfl (by simp; omega) rfl rfl ?_)
            intro v2 w2 hO2 hb2
            go_wp2_with fail
            go_roundw
            case rel => exact ⟨s + 1, v2, by omega, by go_num, rfl, by rw [E2.out, ints_append]; exact HS.out.mut hO2 hb2⟩
            case measure => simp [intOf]; omega
          | false =>
            have E2 : Hid (numTo (coverP xs) (s + 1) = numTo (coverP xs) s) := by show _ = _; rw [numTo, if_neg (by rw [hb]; simp)]
            clear hb et
            go_wp2_with fail
            go_roundw
            case rel => exact ⟨s + 1, _, by omega, by go_num, rfl, by rw [E2.out]; exact HS.out⟩
            case measure => simp [intOf]; omega
    · have es : s = (pw n).toNat := by omega
      have EM : Hid (minL (mem (numTo (coverP xs) s)) = minL (upToP (pw n) (coverP xs))) := by
        show _ = _
        rw [es]
        exact minL_congr fun t h0 _ => mem_numTo_pw _ h0 n0 n6
      have HN : Hid (∀ x ∈ numTo (coverP xs) s, 0 ≤ x ∧ x < 64) := by rw [es]; exact numTo_pw_rng n0 n6
      clear es
      go_wp2_with fail
      refine (l2Min_c _ _ _ HS.out.hd HN.out).mono ?_
      rintro e w2 ⟨u2, rfl, hS2⟩
      have HS2 := hid (HS.out.call1 hS2)
      clear hS2
      go_wp2_with fail
      go_ret
      exact ⟨_, rfl, by rw [← EM.out]; exact HS2.out.sub (.cons_cons _ (.cons _ .slnil))⟩
set_option maxHeartbeats 2000000 in
theorem sCoversOf_c (n : Int) (va : Value) (xs : List Int) (w : World) (ha : Rd w va (ints xs)) : Calls Try.prog 38 #[.int .i64 n, va] w fun e w' => ∃ u, e = .returned u ∧ St w w' [⟨u, 3, ints (covB n xs)⟩] := by
  by_cases hA : AreS n xs
  · have hb := areB_t hA
    have E : Hid (covB n xs = minL (upToP (pw n) (coverP xs))) := by show _ = _; rw [covB, if_pos hA]
    have h0 : 0 ≤ n := by have := hA.1; omega
    have h6 := hA.2.1
    clear hA
    go_enter Try.func38, Try.ntmps38
    go_wp2_with fail
    refine (sMakeComplex_c n va xs _ ha).mono ?_
    rintro e w1 ⟨v, rfl, hS1⟩
    obtain ⟨p, l, c, rfl⟩ := hS1.hd.form
    have hS2 := hS1.box (resN (areB n xs) n) (.slice p l c) 30
    have HS2 := hid hS2
    have ha2 := hS2.old ha
    clear hS1 hS2
    unfold cx
    rw [hb] at *
    go_wp2_with fail
    refine (l8Covers_c n va xs _ ha2 h0 h6).mono ?_
    rintro e w2 ⟨u, rfl, hS3⟩
    have HS3 := hid (HS2.out.call1 hS3)
    clear hS3
    go_wp2_with fail
    go_ret
    exact ⟨u, rfl, by rw [E.out]; exact HS3.out.sub (.cons_cons _ (.cons _ (.cons _ .slnil)))⟩
  · have hb := areB_f hA
    have E : Hid (covB n xs = []) := by show _ = _; rw [covB, if_neg hA]
    clear hA
    go_enter Try.func38, Try.ntmps38
    go_wp2_with fail
    refine (sMakeComplex_c n va xs _ ha).mono ?_
    rintro e w1 ⟨v, rfl, hS1⟩
    obtain ⟨p, l, c, rfl⟩ := hS1.hd.form
    have hS2 := hS1.box (resN (areB n xs) n) (.slice p l c) 30
    have HS2 := hid hS2
    clear hS1 hS2
    unfold cx
    rw [hb] at *
    go_wp2_with fail
    go_ret
    exact ⟨_, rfl, by rw [E.out]; exact (HS2.out.newAt #[] _ (by simp) (by simp)).sub (.cons_cons _ (.cons _ (.cons _ .slnil)))⟩

end Go.Proofs.Ytjaofbdfhcgmeaa
