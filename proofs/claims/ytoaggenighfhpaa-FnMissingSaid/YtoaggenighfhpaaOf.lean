/-
  Lists of sets of n points: the complex of them, their covers, the complex of what avoids them.
-/
import Derived.Test.YtoaggenighfhpaaMiss
namespace Go.Proofs.Ytoaggenighfhpaa
open Go.RowKit

def AreS (n : Int) (xs : List Int) : Prop := 1 ≤ n ∧ n ≤ 6 ∧ xs.length ≤ 64 ∧ ∀ x ∈ xs, 0 ≤ x ∧ x < pw n
instance (n : Int) (xs : List Int) : Decidable (AreS n xs) := by unfold AreS; exact inferInstance
def areB (n : Int) (xs : List Int) : Bool := decide (AreS n xs)
theorem areB_t {n : Int} {xs : List Int} (h : AreS n xs) : areB n xs = true := by simp [areB, h]
theorem areB_f {n : Int} {xs : List Int} (h : ¬ AreS n xs) : areB n xs = false := by simp [areB, h]
theorem areB_iff {n : Int} {xs : List Int} : areB n xs = true ↔ AreS n xs := by simp [areB]
theorem AreS.rng {n : Int} {xs : List Int} (h : AreS n xs) : ∀ x ∈ xs, 0 ≤ x ∧ x < 64 := fun x hx => by
  have h1 := h.2.2.2 x hx
  have h2 := pw_rng (by have := h.1; omega) h.2.1
  omega
theorem not_are_set {n : Int} {xs : List Int} {j : Nat} (hj : j < xs.length) (h : isSetB n (gi xs j) = false) : areB n xs = false := areB_f fun hc => by
  have h1 := hc.2.2.2 _ (gi_mem hj)
  rw [isSet_pw.2 ⟨by have := hc.1; omega, hc.2.1, h1.1, h1.2⟩] at h
  cases h
/-- The number of points, the sets of an answer that may be none. -/
def resN (b : Bool) (n : Int) : Int := if b = true then n else 0
def resL (b : Bool) (L : List Int) : List Int := if b = true then L else []
theorem resL_len (b : Bool) (L : List Int) (h : L.length ≤ 448) : (resL b L).length ≤ 1000000 := by
  unfold resL
  split
  · omega
  · simp

set_option maxHeartbeats 1000000 in
theorem areSetsOf_c (n : Int) (va : Value) (xs : List Int) (w : World) (ha : Rd w va (ints xs)) : Calls Try.prog 75 #[.int .i64 n, va] w fun e w' => e = .returned (.bool (areB n xs)) ∧ w = w' := by
  have la := ha.iln tI
  have ll := ha.ile
  by_cases h1 : n < 1
  · have E : Hid (areB n xs = false) := areB_f fun h => by have := h.1; omega
    go_enter Try.func75, Try.ntmps75
    go_wp2_with fail
    go_ret
    exact ⟨ret_bool E.out.symm, rfl⟩
  · by_cases h6 : 6 < n
    · have E : Hid (areB n xs = false) := areB_f fun h => by have := h.2.1; omega
      go_enter Try.func75, Try.ntmps75
      go_wp2_with fail
      go_ret
      exact ⟨ret_bool E.out.symm, rfl⟩
    · by_cases h64 : 64 < xs.length
      · have E : Hid (areB n xs = false) := areB_f fun h => by have := h.2.2.1; omega
        go_enter Try.func75, Try.ntmps75
        go_wp2_with fail
        go_ret
        exact ⟨ret_bool E.out.symm, rfl⟩
      · go_enter Try.func75, Try.ntmps75
        go_wp2_with fail
        go_loop [20] (fun i => ∃ (j : Nat), j ≤ xs.length ∧ i = .int .i64 j ∧ Hid (∀ t, t < j → 0 ≤ gi xs t ∧ gi xs t < pw n)) (fun i => xs.length - (intOf i).toNat)
        case atStart => exact ⟨0, by omega, rfl, fun t h => by omega⟩
        case round =>
          obtain ⟨j, hj, rfl, hN⟩ := hrel
          by_cases hlt : j < xs.length
          · have f1 := ha.iix tI j hlt
            have f2 := ha.intCell j hlt
            cases hs : isSetB n (gi xs j) with
            | false =>
              have E := hid (not_are_set hlt hs)
              go_wp2_with (go_at_call 113; refine (IsSet_c _ _ _).mono ?_; rintro e w' ⟨rfl, rfl⟩)
              go_ret
              exact ⟨ret_bool E.out.symm, rfl⟩
            | true =>
              have N2 : Hid (∀ t, t < j + 1 → 0 ≤ gi xs t ∧ gi xs t < pw n) := by
                intro t ht
                by_cases e : t = j
                · subst e; exact (isSet_pw.1 hs).2.2
                · exact hN.out t (by omega)
              go_wp2_with (go_at_call 113; refine (IsSet_c _ _ _).mono ?_; rintro e w' ⟨rfl, rfl⟩)
              go_round
              case rel => exact ⟨j + 1, by omega, by go_num, N2⟩
              case measure => simp [intOf]; omega
          · have E : Hid (areB n xs = true) := areB_t ⟨by omega, by omega, by omega, fun x hx => by
              obtain ⟨i, hi, rfl⟩ := mem_gi hx
              exact hN.out i (by omega)⟩
            go_wp2_with fail
            go_ret
            exact ⟨ret_bool E.out.symm, rfl⟩

set_option maxHeartbeats 2000000 in
theorem sMakeComplex_c (n : Int) (va : Value) (xs : List Int) (w : World) (ha : Rd w va (ints xs)) : Calls Try.prog 80 #[.int .i64 n, va] w fun e w' =>
    ∃ v, e = .returned (.tuple #[cx (resN (areB n xs) n) v, .bool (areB n xs)]) ∧ St w w' [⟨v, 3, ints (resL (areB n xs) (maxL (mem xs)))⟩] := by
  have la := ha.iln tI
  have ll := ha.ile
  have hB := (St.start w).box 0 (.slice none 0 0) 26
  have ha' := hB.old ha
  have c0 := hB.hd.c0
  have c1 := hB.hd.c1
  have r0 : (w.alloc (.cells #[.int .i64 0, .slice none 0 0] 26)).frozen? ⟨w.heap.size, 0, none⟩ = false := hB.own.free (v := bx w.heap.size) (.head _) 0 (by simp)
  have r1 : (w.alloc (.cells #[.int .i64 0, .slice none 0 0] 26)).frozen? ⟨w.heap.size, 1, none⟩ = false := hB.own.free (v := bx w.heap.size) (.head _) 1 (by simp)
  have HB := hid hB
  clear hB
  go_enter Try.func80, Try.ntmps80
  go_wp2_with fail
  go_loop [6] (fun i => ∃ (j : Nat), j ≤ xs.length ∧ i = .int .i64 j ∧ Hid (∀ t, t < j → isSetB n (gi xs t) = true)) (fun i => xs.length - (intOf i).toNat)
  case atStart => exact ⟨0, by omega, rfl, fun t h => by omega⟩
  case round =>
    obtain ⟨j, hj, rfl, hN⟩ := hrel
    by_cases hlt : j < xs.length
    · have f1 := ha'.iix tI j hlt
      have f2 := ha'.intCell j hlt
      cases hs : isSetB n (gi xs j) with
      | false =>
        have E := hid (not_are_set hlt hs)
        go_wp2_with (go_at_call 86; refine (sIsSet_c _ _ _).mono ?_; rintro e w' ⟨rfl, rfl⟩)
        have hS2 := HB.out
        refine bodyPost_ret (ret_cx2 rfl rfl rfl hS2.hd) rfl ⟨.slice none 0 0, ?_, ?_⟩
        · rw [E.out]; rfl
        · rw [E.out]; exact hS2.tail.nilRow _
      | true =>
        have N2 : Hid (∀ t, t < j + 1 → isSetB n (gi xs t) = true) := by
          intro t ht
          by_cases e : t = j
          · subst e; exact hs
          · exact hN.out t (by omega)
        go_wp2_with (go_at_call 86; refine (sIsSet_c _ _ _).mono ?_; rintro e w' ⟨rfl, rfl⟩)
        go_round
        case rel => exact ⟨j + 1, by omega, by go_num, N2⟩
        case measure => simp [intOf]; omega
    · by_cases h1 : 1 ≤ n ∧ n ≤ 6
      · have q := inB_t h1.1 h1.2
        by_cases h64 : 64 < xs.length
        · have E : Hid (areB n xs = false) := areB_f fun h => by have := h.2.2.1; omega
          clear h1
          go_wp2_with (go_at_call 64; refine (l1In_c _ _ _ _).mono ?_; rintro e w' ⟨rfl, rfl⟩)
          have hS2 := HB.out
          refine bodyPost_ret (ret_cx2 rfl rfl rfl hS2.hd) rfl ⟨.slice none 0 0, ?_, ?_⟩
          · rw [E.out]; rfl
          · rw [E.out]; exact hS2.tail.nilRow _
        · have hA : AreS n xs := ⟨h1.1, h1.2, by omega, fun x hx => by
            obtain ⟨i, hi, rfl⟩ := mem_gi hx
            exact (isSet_pw.1 (hN.out i (by omega))).2.2⟩
          have E := hid (areB_t hA)
          have HR := hid hA.rng
          clear h1 hA
          go_wp2_with (go_at_call 64; refine (l1In_c _ _ _ _).mono ?_; rintro e w' ⟨rfl, rfl⟩)
          refine (l3Make_c n va xs _ ha' HR.out).mono ?_
          rintro e w1 ⟨v, rfl, hS1⟩
          have hS := HB.out.call1 hS1
          obtain ⟨p, l, c, rfl⟩ := hS.hd.form
          have d0 := hS.hd2.c0
          have d1 := hS.hd2.c1
          have s0 : w1.frozen? ⟨w.heap.size, 0, none⟩ = false := hS.own.free (v := bx w.heap.size) (.tail _ (.head _)) 0 (by simp)
          have s1 : w1.frozen? ⟨w.heap.size, 1, none⟩ = false := hS.own.free (v := bx w.heap.size) (.tail _ (.head _)) 1 (by simp)
          have HS := hid hS
          clear hS hS1
          unfold cx
          go_wp2_with fail
          have hS2 := (HS.out.swap.set 0 (by simp) (.int .i64 n)).set 1 (by simp) (.slice p l c)
          refine bodyPost_ret (ret_cx2 rfl rfl rfl hS2.hd) rfl ⟨.slice p l c, ?_, ?_⟩
          · rw [E.out]; rfl
          · rw [E.out]; exact hS2.tail
      · have q := inB_f h1
        have E : Hid (areB n xs = false) := areB_f fun h => h1 ⟨h.1, h.2.1⟩
        clear h1
        go_wp2_with (go_at_call 64; refine (l1In_c _ _ _ _).mono ?_; rintro e w' ⟨rfl, rfl⟩)
        have hS2 := HB.out
        refine bodyPost_ret (ret_cx2 rfl rfl rfl hS2.hd) rfl ⟨.slice none 0 0, ?_, ?_⟩
        · rw [E.out]; rfl
        · rw [E.out]; exact hS2.tail.nilRow _

/-! ### Covers -/

def coverP (xs : List Int) (s : Int) : Bool := xs.all fun t => bits .and .i64 s t != 0
def covB (n : Int) (xs : List Int) : List Int := if AreS n xs then minL (upToP (pw n) (coverP xs)) else []
theorem covB_len (n : Int) (xs : List Int) : (covB n xs).length ≤ 448 := by
  unfold covB; split
  · exact minL_len _
  · simp
theorem mem_numTo_pw {n : Int} (Q : Int → Bool) {s : Int} (h0 : 0 ≤ s) (n0 : 0 ≤ n) (n6 : n ≤ 6) : mem (numTo Q (pw n).toNat) s = upToP (pw n) Q s := bool_ext (by
  have := pw_rng n0 n6
  rw [mem_iff, mem_numTo]
  simp only [upToP, Bool.and_eq_true, decide_eq_true_eq]
  constructor
  · rintro ⟨_, b, c⟩; exact ⟨by omega, c⟩
  · rintro ⟨b, c⟩; exact ⟨h0, by omega, c⟩)
theorem numTo_pw_rng {n : Int} {Q : Int → Bool} (n0 : 0 ≤ n) (n6 : n ≤ 6) : ∀ x ∈ numTo Q (pw n).toNat, 0 ≤ x ∧ x < 64 := fun x h => by
  have := mem_numTo.1 h
  have := pw_rng n0 n6
  omega


end Go.Proofs.Ytoaggenighfhpaa
