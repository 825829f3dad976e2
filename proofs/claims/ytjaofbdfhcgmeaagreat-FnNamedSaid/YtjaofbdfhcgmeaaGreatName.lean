/-
  Names of points: lists of names, sets under new names.
-/
import Derived.Test.YtjaofbdfhcgmeaaGreatNum
import Derived.Test.YtjaofbdfhcgmeaaGreatBits
namespace Go.Proofs.YtjaofbdfhcgmeaaGreat
open Go.RowKit

def hasB (xs : List Int) (n : Int) : Bool := decide (n ∈ xs)
set_option maxHeartbeats 400000 in
theorem l2Has_c (va : Value) (xs : List Int) (n : Int) (w : World) (ha : Rd w va (ints xs)) : Calls Tryz.prog 71 #[va, .int .i64 n] w fun e w' => e = .returned (.bool (hasB xs n)) ∧ w = w' := by
  have la := ha.iln tI
  have ll := ha.ile
  go_enter Tryz.func71, Tryz.ntmps71
  go_wp2_with fail
  go_loop [5] (fun i => ∃ j : Nat, j ≤ xs.length ∧ i = .int .i64 j ∧ ¬ n ∈ xs.take j) (fun i => xs.length - (intOf i).toNat)
  case atStart => exact ⟨0, Nat.zero_le _, rfl, by simp⟩
  case round =>
    obtain ⟨j, hj, rfl, hn⟩ := hrel
    have HN := hid hn; clear hn
    by_cases hlt : j < xs.length
    · have f1 := ha.iix tI j hlt
      have f2 := ha.intCell j hlt
      by_cases he : gi xs j = n
      · have e1 : (gi xs j == n) = true := by simp [he]
        have e2 : hasB xs n = true := by
          have : n ∈ xs := by rw [← he, gi_eq xs j hlt]; exact List.getElem_mem _
          simpa [hasB] using this
        have E := hid e2; clear e2 he
        go_wp2_with fail
        go_ret
        exact ⟨ret_bool E.out.symm, rfl⟩
      · have e1 : (gi xs j == n) = false := by simp [he]
        have e2 : ¬ n ∈ xs.take (j + 1) := by
          rw [List.take_succ_eq_append_getElem hlt, List.mem_append]
          rintro (h | h)
          · exact HN.out h
          · exact he (by rw [gi_eq xs j hlt]; simpa [eq_comm] using h)
        have E := hid e2; clear e2 he
        go_wp2_with fail
        go_round
        case rel => exact ⟨j + 1, by omega, by go_num, E.out⟩
        case measure => simp [intOf]; omega
    · have e2 : hasB xs n = false := by
        have := HN.out
        rw [List.take_of_length_le (by omega)] at this
        simpa [hasB] using this
      have E := hid e2; clear e2
      go_wp2_with fail
      go_ret
      exact ⟨ret_bool E.out.symm, rfl⟩

/-- Names for n points: each number less than n once. -/
def Names (n : Int) (xs : List Int) : Prop := 1 ≤ n ∧ n ≤ 6 ∧ (xs.length : Int) = n ∧ (∀ x ∈ xs, 0 ≤ x ∧ x < n) ∧ xs.Nodup
instance (n : Int) (xs : List Int) : Decidable (Names n xs) := by unfold Names; exact inferInstance
def namesB (n : Int) (xs : List Int) : Bool := decide (Names n xs)
theorem namesB_iff {n : Int} {xs : List Int} : namesB n xs = true ↔ Names n xs := by simp [namesB]

/-- The points gathered so far. -/
def Seen (s : Int) (ys : List Int) : Prop := 0 ≤ s ∧ s < 64 ∧ ∀ m : Nat, m < 6 → (bitP s m = true ↔ (m : Int) ∈ ys)
theorem seen_nil : Seen 0 [] := ⟨by omega, by omega, fun m hm => by simp [bit_zero hm]⟩
theorem seen_snoc {s : Int} {ys : List Int} (h : Seen s ys) {x : Int} (h0 : 0 ≤ x) (h5 : x ≤ 5) : Seen (orP s x.toNat) (ys ++ [x]) := by
  obtain ⟨a, b, c⟩ := h
  have hr := orP_rng a b (k := x.toNat) (by omega)
  refine ⟨hr.1, hr.2, fun m hm => ?_⟩
  rw [bit_or a b (by omega) hm, Bool.or_eq_true, c m hm, List.mem_append, List.mem_singleton]
  have : (m == x.toNat) = true ↔ (m : Int) = x := by simp; omega
  rw [this]
  exact Or.comm

theorem take_snoc_gi {xs : List Int} {j : Nat} (h : j < xs.length) : xs.take (j + 1) = xs.take j ++ [gi xs j] := by
  rw [List.take_succ_eq_append_getElem h, gi_eq xs j h]

theorem not_names_rng {n : Int} {xs : List Int} {j : Nat} (hj : j < xs.length) (h : ¬ (0 ≤ gi xs j ∧ gi xs j < n)) : namesB n xs = false := by
  rw [← Bool.not_eq_true, namesB_iff]
  intro hN
  have := hN.2.2.2.1 (gi xs j) (by rw [gi_eq xs j hj]; exact List.getElem_mem _)
  exact h this
theorem not_names_dup {n : Int} {xs : List Int} {j : Nat} (hj : j < xs.length) (h : gi xs j ∈ xs.take j) : namesB n xs = false := by
  rw [← Bool.not_eq_true, namesB_iff]
  intro hN
  have hd := hN.2.2.2.2
  rw [← List.take_append_drop (j + 1) xs, take_snoc_gi hj] at hd
  have := (List.nodup_append.1 (List.nodup_append.1 hd).1).2.2
  exact this _ h _ (List.mem_singleton_self _) rfl
theorem nodup_snoc {ys : List Int} {x : Int} (h : ys.Nodup) (hx : ¬ x ∈ ys) : (ys ++ [x]).Nodup := by
  rw [List.nodup_append]
  exact ⟨h, by simp, fun a ha b hb e => hx (by rw [List.mem_singleton] at hb; rw [← hb, ← e]; exact ha)⟩

set_option maxHeartbeats 1000000 in
theorem areNames_c (n : Int) (va : Value) (xs : List Int) (w : World) (ha : Rd w va (ints xs)) : Calls Tryz.prog 36 #[.int .i64 n, va] w fun e w' => e = .returned (.bool (namesB n xs)) ∧ w = w' := by
  have la := ha.iln tI
  have fin : ∀ {P : Prop}, ¬ P → (Names n xs → P) → namesB n xs = false := fun h1 h2 => by rw [← Bool.not_eq_true, namesB_iff]; exact fun h => h1 (h2 h)
  by_cases h1 : n < 1
  · have E := hid (fin (P := 1 ≤ n) (by omega) (fun h => h.1)); clear fin
    go_enter Tryz.func36, Tryz.ntmps36
    go_wp2_with fail
    go_ret
    exact ⟨ret_bool E.out.symm, rfl⟩
  · by_cases h2 : 6 < n
    · have E := hid (fin (P := n ≤ 6) (by omega) (fun h => h.2.1)); clear fin
      go_enter Tryz.func36, Tryz.ntmps36
      go_wp2_with fail
      go_ret
      exact ⟨ret_bool E.out.symm, rfl⟩
    · by_cases h3 : (xs.length : Int) = n
      · have hne : ((xs.length : Int) != n) = false := by simp [h3]
        have H3 := hid h3
        clear h3 fin
        go_enter Tryz.func36, Tryz.ntmps36
        go_wp2_with fail
        go_loop [5, 22] (fun o i => ∃ (j : Nat) (s : Int), j ≤ xs.length ∧ i = .int .i64 j ∧ o = .int .i64 s ∧ Seen s (xs.take j) ∧ (∀ x ∈ xs.take j, 0 ≤ x ∧ x < n) ∧ (xs.take j).Nodup) (fun _ i => xs.length - (intOf i).toNat)
        case atStart => exact ⟨0, 0, Nat.zero_le _, rfl, rfl, seen_nil, by simp, by simp⟩
        case round =>
          obtain ⟨j, s, hj, rfl, rfl, hS, hR, hD⟩ := hrel
          have HS := hid hS
          have HR := hid hR
          have HD := hid hD
          obtain ⟨s0, s1, hS⟩ := hS
          have HS3 := hid hS
          clear hR hD hS
          by_cases hlt : j < xs.length
          · have f1 := ha.iix tI j hlt
            have f2 := ha.intCell j hlt
            have hj6 : j < 6 := by have := H3.out; omega
            by_cases hr : 0 ≤ gi xs j ∧ gi xs j < n
            · obtain ⟨r0, r1⟩ := hr
              cases hb : bitP s (gi xs j).toNat with
              | true =>
                have E : Hid (namesB n xs = false) := not_names_dup hlt (by
                  have := (HS3.out (gi xs j).toNat (by omega)).1 hb
                  rwa [Int.toNat_of_nonneg r0] at this)
                have hb' : (bits BinOp.and IntKind.i64 (s / 2 ^ (gi xs j).toNat) 1 == 1) = true := hb
                clear hb
                go_wp2_with fail
                go_ret
                exact ⟨ret_bool E.out.symm, rfl⟩
              | false =>
                have hb' : (bits BinOp.and IntKind.i64 (s / 2 ^ (gi xs j).toNat) 1 == 1) = false := hb
                have hn : ¬ gi xs j ∈ xs.take j := by
                  intro h
                  have := (HS3.out (gi xs j).toNat (by omega)).2 (by rwa [Int.toNat_of_nonneg r0])
                  rw [hb] at this
                  cases this
                have E1 : Hid (Seen (orP s (gi xs j).toNat) (xs.take (j + 1))) := by
                  show Seen _ _
                  rw [take_snoc_gi hlt]
                  exact seen_snoc HS.out r0 (by omega)
                have E2 : Hid (∀ x ∈ xs.take (j + 1), 0 ≤ x ∧ x < n) := by
                  intro x hx
                  rw [take_snoc_gi hlt, List.mem_append, List.mem_singleton] at hx
                  rcases hx with hx | rfl
                  · exact HR.out x hx
                  · exact ⟨r0, r1⟩
                have E3 : Hid ((xs.take (j + 1)).Nodup) := by
                  show List.Nodup _
                  rw [take_snoc_gi hlt]
                  exact nodup_snoc HD.out hn
                clear hb hn
                go_wp2_with fail
                go_round
                case rel => exact ⟨j + 1, _, by omega, by go_num, rfl, E1.out, E2.out, E3.out⟩
                case measure => simp [intOf]; omega
            · have E : Hid (namesB n xs = false) := not_names_rng hlt hr
              by_cases r0 : gi xs j < 0
              · clear hr
                go_wp2_with fail
                go_ret
                exact ⟨ret_bool E.out.symm, rfl⟩
              · have r1 : n ≤ gi xs j := by omega
                clear hr
                go_wp2_with fail
                go_ret
                exact ⟨ret_bool E.out.symm, rfl⟩
          · have e : namesB n xs = true := by
              have a := HR.out
              have b := HD.out
              rw [List.take_of_length_le (by omega)] at a b
              exact namesB_iff.2 ⟨by omega, by omega, H3.out, a, b⟩
            have E := hid e; clear e
            go_wp2_with fail
            go_ret
            exact ⟨ret_bool E.out.symm, rfl⟩
      · have hne : ((xs.length : Int) != n) = true := by simp [h3]
        have E := hid (fin (P := (xs.length : Int) = n) h3 (fun h => h.2.2.1)); clear fin h3
        go_enter Tryz.func36, Tryz.ntmps36
        go_wp2_with fail
        go_ret
        exact ⟨ret_bool E.out.symm, rfl⟩

set_option maxHeartbeats 1000000 in
theorem l9Names_c (n : Int) (va : Value) (xs : List Int) (w : World) (ha : Rd w va (ints xs)) (hn : -9223372036854775807 ≤ n) (hn' : n ≤ 9223372036854775807) : Calls Tryz.prog 38 #[va, .int .i64 n] w fun e w' => e = .returned (.bool (namesB n xs)) ∧ ∃ m, w' = w.drewN m := by
  have la := ha.iln tI
  have ll := ha.ile
  go_enter Tryz.func38, Tryz.ntmps38
  go_wp2_with fail
  go_loopw [5] (fun i wr => ∃ (j m : Nat), j ≤ xs.length ∧ i = .int .i64 j ∧ (∀ x ∈ xs.take j, 0 ≤ x ∧ x < n) ∧ (xs.take j).Nodup ∧ wr = w.drewN m) (fun i _ => xs.length - (intOf i).toNat)
  case atStart => exact ⟨0, 0, Nat.zero_le _, rfl, by simp, by simp, rfl⟩
  case round =>
    obtain ⟨j, m, hj, rfl, hR, hD, hw⟩ := hrel
    have ha' : Rd wr va (ints xs) := by rw [hw]; exact ha.drew m
    have HW := hid hw
    have HR := hid hR
    have HD := hid hD
    clear hR hD hw
    by_cases hlt : j < xs.length
    · have f1 := ha.iix tI j hlt
      have f2 := ha'.intCell j hlt
      have f3 := ha.runUpTo tI j (by simp; omega)
      have hv := ha'.iupTo (h := j) (by omega)
      have hw1 : IntKind.i64.wrap (n - 1) = n - 1 := IntWalk.i64_in _ (by omega)
      by_cases hr : 0 ≤ gi xs j ∧ gi xs j ≤ n - 1
      · have r1 := inB_t hr.1 hr.2
        cases hb : hasB (xs.take j) (gi xs j) with
        | true =>
          have E : Hid (namesB n xs = false) := not_names_dup hlt (by simpa [hasB] using hb)
          clear hr
          go_wp2_with fail
          go_quiet (first | (go_at_call 65; exact quiet_same (l1In_c _ _ _ _)) | (go_at_call 71; exact quiet_same (l2Has_c _ _ _ _ (hv.drew _))))
          clear hw1
          go_wp2_with fail
          go_ret
          exact ⟨ret_bool E.out.symm, m + nq, by rw [HW.out, World.drewN_drewN]⟩
        | false =>
          have hn : ¬ gi xs j ∈ xs.take j := by simpa [hasB] using hb
          have E2 : Hid (∀ x ∈ xs.take (j + 1), 0 ≤ x ∧ x < n) := by
            intro x hx
            rw [take_snoc_gi hlt, List.mem_append, List.mem_singleton] at hx
            rcases hx with hx | rfl
            · exact HR.out x hx
            · exact ⟨hr.1, by omega⟩
          have E3 : Hid ((xs.take (j + 1)).Nodup) := by
            show List.Nodup _
            rw [take_snoc_gi hlt]
            exact nodup_snoc HD.out hn
          clear hr hn
          go_wp2_with fail
          go_quiet (first | (go_at_call 65; exact quiet_same (l1In_c _ _ _ _)) | (go_at_call 71; exact quiet_same (l2Has_c _ _ _ _ (hv.drew _))))
          clear hw1
          go_wp2_with fail
          go_roundw
          case rel => exact ⟨j + 1, m + nq, by omega, by go_num, E2.out, E3.out, by rw [HW.out, World.drewN_drewN]⟩
          case measure => simp [intOf]; omega
      · have r1 := inB_f hr
        have E : Hid (namesB n xs = false) := not_names_rng hlt (by omega)
        clear hr
        go_wp2_with fail
        go_quiet ((go_at_call 65; exact quiet_same (l1In_c _ _ _ _)))
        clear hw1
        go_wp2_with fail
        go_ret
        exact ⟨ret_bool E.out.symm, m + nq, by rw [HW.out, World.drewN_drewN]⟩
    · have a := HR.out
      have b := HD.out
      rw [List.take_of_length_le (by omega)] at a b
      have A := hid a
      have B := hid b
      clear a b
      by_cases hl : (xs.length : Int) = n
      · have hq : ((xs.length : Int) == n) = true := by simp [hl]
        have E : Hid (namesB n xs = inB n 1 6) := by
          show _ = _
          rw [Bool.eq_iff_iff, namesB_iff]
          simp only [inB, decide_eq_true_eq]
          exact ⟨fun h => ⟨h.1, h.2.1⟩, fun h => ⟨h.1, h.2, hl, A.out, B.out⟩⟩
        clear hl
        go_wp2_with (go_at_call 65; refine (l1In_c _ _ _ _).mono ?_; rintro e w' ⟨rfl, rfl⟩)
        go_ret
        exact ⟨ret_bool E.out.symm, m, HW.out⟩
      · have hq : ((xs.length : Int) == n) = false := by simp [hl]
        have E : Hid (namesB n xs = false) := by
          show _ = _
          rw [← Bool.not_eq_true, namesB_iff]
          exact fun h => hl h.2.2.1
        clear hl
        go_wp2_with fail
        go_ret
        exact ⟨ret_bool E.out.symm, m, HW.out⟩

/-! ### A set under new names -/

def rnTo (s : Int) (xs : List Int) : Nat → Int
  | 0 => 0
  | j + 1 => if bitP s j = true then orP (rnTo s xs j) (gi xs j).toNat else rnTo s xs j
def rnB (s : Int) (xs : List Int) : Int := rnTo s xs xs.length

theorem rnTo_ok {s : Int} {xs : List Int} (hx : ∀ j, j < xs.length → 0 ≤ gi xs j ∧ gi xs j ≤ 5) (j : Nat) (hj : j ≤ xs.length) :
    0 ≤ rnTo s xs j ∧ rnTo s xs j < 64 ∧ ∀ m : Nat, m < 6 → bitP (rnTo s xs j) m = true → ∃ i, i < j ∧ gi xs i = m := by
  induction j with
  | zero => exact ⟨by simp [rnTo], by simp [rnTo], fun m hm h => by rw [rnTo, bit_zero hm] at h; cases h⟩
  | succ j ih =>
    obtain ⟨a, b, c⟩ := ih (by omega)
    rw [rnTo]
    split
    · have h5 := hx j (by omega)
      have hr := orP_rng a b (k := (gi xs j).toNat) (by omega)
      refine ⟨hr.1, hr.2, fun m hm h => ?_⟩
      rw [bit_or a b (by omega) hm, Bool.or_eq_true] at h
      rcases h with h | h
      · exact ⟨j, by omega, by simp at h; omega⟩
      · obtain ⟨i, h1, h2⟩ := c m hm h
        exact ⟨i, by omega, h2⟩
    · exact ⟨a, b, fun m hm h => by obtain ⟨i, h1, h2⟩ := c m hm h; exact ⟨i, by omega, h2⟩⟩

theorem names_gi {n : Int} {xs : List Int} (h : Names n xs) : ∀ j, j < xs.length → 0 ≤ gi xs j ∧ gi xs j ≤ 5 := fun j hj => by
  have := h.2.2.2.1 (gi xs j) (by rw [gi_eq xs j hj]; exact List.getElem_mem _)
  have := h.2.1
  omega
theorem nodup_gi {xs : List Int} (h : xs.Nodup) {i j : Nat} (hi : i < j) (hj : j < xs.length) : gi xs i ≠ gi xs j := by
  rw [gi_eq xs i (by omega), gi_eq xs j hj]
  intro e
  exact (List.pairwise_iff_getElem.1 h) i j (by omega) hj hi e

set_option maxHeartbeats 1000000 in
theorem renamed_c (s : Int) (va : Value) (xs : List Int) (w : World) (ha : Rd w va (ints xs)) (_hs0 : 0 ≤ s) (hl : xs.length ≤ 6) (hx : ∀ j, j < xs.length → 0 ≤ gi xs j ∧ gi xs j ≤ 5) :
    Calls Tryz.prog 43 #[.int .i64 s, va] w fun e w' => e = .returned (.int .i64 (rnB s xs)) ∧ w = w' := by
  have la := ha.iln tI
  have HX := hid hx
  clear hx
  go_enter Tryz.func43, Tryz.ntmps43
  go_wp2_with fail
  go_loop [5, 10] (fun o i => ∃ (j : Nat), j ≤ xs.length ∧ i = .int .i64 j ∧ o = .int .i64 (rnTo s xs j)) (fun _ i => xs.length - (intOf i).toNat)
  case atStart => exact ⟨0, Nat.zero_le _, rfl, rfl⟩
  case round =>
    obtain ⟨j, hj, rfl, rfl⟩ := hrel
    by_cases hlt : j < xs.length
    · have f1 := ha.iix tI j hlt
      have f2 := ha.intCell j hlt
      have f3 := (HX.out j hlt).1
      have f4 := (HX.out j hlt).2
      cases hb : bitP s j with
      | true =>
        have hb' : (bits BinOp.and IntKind.i64 (s / 2 ^ j) 1 == 1) = true := hb
        have E : Hid (rnTo s xs (j + 1) = orP (rnTo s xs j) (gi xs j).toNat) := by show _ = _; rw [rnTo, if_pos hb]
        clear hb
        go_wp2_with fail
        go_round
        case rel => exact ⟨j + 1, by omega, by go_num, by rw [E.out]; rfl⟩
        case measure => simp [intOf]; omega
      | false =>
        have hb' : (bits BinOp.and IntKind.i64 (s / 2 ^ j) 1 == 1) = false := hb
        have E : Hid (rnTo s xs (j + 1) = rnTo s xs j) := by show _ = _; rw [rnTo, if_neg (by simp [hb])]
        clear hb
        go_wp2_with fail
        go_round
        case rel => exact ⟨j + 1, by omega, by go_num, by rw [E.out]⟩
        case measure => simp [intOf]; omega
    · have e : j = xs.length := by omega
      subst e
      go_wp2_with fail
      go_ret
      exact ⟨rfl, rfl⟩
set_option maxHeartbeats 1000000 in
theorem l9Set_c (s : Int) (va : Value) (xs : List Int) (w : World) (ha : Rd w va (ints xs)) (hs0 : 0 ≤ s) (hs1 : s < 64) (hl : xs.length ≤ 6) (hx : ∀ j, j < xs.length → 0 ≤ gi xs j ∧ gi xs j ≤ 5) (hd : xs.Nodup) :
    Calls Tryz.prog 45 #[.int .i64 s, va] w fun e w' => e = .returned (.int .i64 (rnB s xs)) ∧ w = w' := by
  have la := ha.iln tI
  have HX := hid hx
  have HD := hid hd
  clear hx hd
  go_enter Tryz.func45, Tryz.ntmps45
  go_wp2_with fail
  go_loop [5, 6] (fun o i => ∃ (j : Nat), j ≤ xs.length ∧ i = .int .i64 j ∧ o = .int .i64 (rnTo s xs j)) (fun _ i => xs.length - (intOf i).toNat)
  case atStart => exact ⟨0, Nat.zero_le _, rfl, rfl⟩
  case round =>
    obtain ⟨j, hj, rfl, rfl⟩ := hrel
    by_cases hlt : j < xs.length
    · have f1 := ha.iix tI j hlt
      have f2 := ha.intCell j hlt
      have f3 := (HX.out j hlt).1
      have f4 := (HX.out j hlt).2
      have ok := rnTo_ok (s := s) HX.out j hj
      have E : Hid (rnTo s xs (j + 1) = wrap64 (rnTo s xs j + wrap64 (bits .and .i64 (s / 2 ^ j) 1 * 2 ^ (gi xs j).toNat))) := by
        show _ = _
        rw [rnTo, and1 hs0 hs1 (by omega)]
        cases hb : bitP s j with
        | true =>
          rw [if_pos rfl, if_pos rfl]
          refine (add_or ok.1 ok.2.1 (by omega) ?_).symm
          rw [← Bool.not_eq_true]
          intro h
          obtain ⟨i, h1, h2⟩ := ok.2.2 _ (by omega) h
          exact nodup_gi HD.out h1 hlt (by rw [h2]; omega)
        | false =>
          rw [if_neg (by simp), if_neg (by simp)]
          have h0 : wrap64 (0 * 2 ^ (gi xs j).toNat) = 0 := by rw [Int.zero_mul]; exact IntWalk.wrap64_in _ (by omega)
          rw [h0, Int.add_zero]
          have := ok.1
          have := ok.2.1
          rw [IntWalk.wrap64_in _ (by omega)]
      clear ok
      go_wp2_with fail
      go_round
      case rel => exact ⟨j + 1, by omega, by go_num, by rw [E.out]⟩
      case measure => simp [intOf]; omega
    · have e : j = xs.length := by omega
      subst e
      go_wp2_with fail
      go_ret
      exact ⟨rfl, rfl⟩

/-- What RenameSet gives. -/
def rsOk (s : Int) (xs : List Int) : Bool := namesB xs.length xs && isSetB xs.length s
def rsB (s : Int) (xs : List Int) : Int := if rsOk s xs = true then rnB s xs else 0

set_option maxHeartbeats 1000000 in
theorem RenameSet_c (s : Int) (va : Value) (xs : List Int) (w : World) (ha : Rd w va (ints xs)) :
    Calls Tryz.prog 9 #[.int .i64 s, va] w fun e w' => e = .returned (.tuple #[.int .i64 (rsB s xs), .bool (rsOk s xs)]) ∧ w = w' := by
  have la := ha.iln tI
  cases h1 : namesB xs.length xs with
  | true =>
    have hN := namesB_iff.1 h1
    cases h2 : isSetB xs.length s with
    | true =>
      have hs := isSetB_iff.1 h2
      have E1 : Hid (rsOk s xs = true) := by show _ = _; simp [rsOk, h1, h2]
      have E2 : Hid (rsB s xs = rnB s xs) := by show _ = _; rw [rsB, if_pos E1.out]
      have hc : Hid (∀ w, Rd w va (ints xs) → Calls Tryz.prog 43 #[.int .i64 s, va] w fun e w' => e = .returned (.int .i64 (rnB s xs)) ∧ w = w') := fun w h => renamed_c s va xs w h hs.2.2.1 (by have := hN.2.1; omega) (names_gi hN)
      clear hN hs
      go_enter Tryz.func9, Tryz.ntmps9
      go_wp2_with (first | (go_at_call 36; refine (areNames_c _ _ _ _ ha).mono ?_; rintro e w' ⟨rfl, rfl⟩) | (go_at_call 42; refine (IsSet_c _ _ _).mono ?_; rintro e w' ⟨rfl, rfl⟩) | (go_at_call 43; refine (hc.out _ ha).mono ?_; rintro e w' ⟨rfl, rfl⟩))
      go_ret2
      exact ⟨by rw [E1.out, E2.out]; rfl, rfl⟩
    | false =>
      have E1 : Hid (rsOk s xs = false) := by show _ = _; simp [rsOk, h2]
      have E2 : Hid (rsB s xs = 0) := by show _ = _; rw [rsB, if_neg (by rw [E1.out]; simp)]
      clear hN
      go_enter Tryz.func9, Tryz.ntmps9
      go_wp2_with (first | (go_at_call 36; refine (areNames_c _ _ _ _ ha).mono ?_; rintro e w' ⟨rfl, rfl⟩) | (go_at_call 42; refine (IsSet_c _ _ _).mono ?_; rintro e w' ⟨rfl, rfl⟩))
      go_ret2
      exact ⟨by rw [E1.out, E2.out]; rfl, rfl⟩
  | false =>
    have E1 : Hid (rsOk s xs = false) := by show _ = _; simp [rsOk, h1]
    have E2 : Hid (rsB s xs = 0) := by show _ = _; rw [rsB, if_neg (by rw [E1.out]; simp)]
    go_enter Tryz.func9, Tryz.ntmps9
    go_wp2_with (first | (go_at_call 36; refine (areNames_c _ _ _ _ ha).mono ?_; rintro e w' ⟨rfl, rfl⟩))
    go_ret2
    exact ⟨by rw [E1.out, E2.out]; rfl, rfl⟩

set_option maxHeartbeats 1000000 in
theorem sRenameSet_c (s : Int) (va : Value) (xs : List Int) (w : World) (ha : Rd w va (ints xs)) :
    Calls Tryz.prog 10 #[.int .i64 s, va] w fun e w' => e = .returned (.tuple #[.int .i64 (rsB s xs), .bool (rsOk s xs)]) ∧ ∃ m, w' = w.drewN m := by
  have la := ha.iln tI
  have ll := ha.ile
  cases h1 : namesB xs.length xs with
  | true =>
    have hN := namesB_iff.1 h1
    cases h2 : isSetB xs.length s with
    | true =>
      have hs := isSetB_iff.1 h2
      have E1 : Hid (rsOk s xs = true) := by show _ = _; simp [rsOk, h1, h2]
      have E2 : Hid (rsB s xs = rnB s xs) := by show _ = _; rw [rsB, if_pos E1.out]
      have hs64 : s < 64 := by
        obtain ⟨a, b, c, d⟩ := hs
        rcases six a b with h | h | h | h | h | h | h <;> rw [h] at d <;> simp at d <;> omega
      have hc : Hid (∀ w, Rd w va (ints xs) → Calls Tryz.prog 45 #[.int .i64 s, va] w fun e w' => e = .returned (.int .i64 (rnB s xs)) ∧ w = w') := fun w h => l9Set_c s va xs w h hs.2.2.1 hs64 (by have := hN.2.1; omega) (names_gi hN) hN.2.2.2.2
      clear hN hs hs64
      go_enter Tryz.func10, Tryz.ntmps10
      go_wp2_with (first | (go_at_call 38; refine (l9Names_c _ _ _ _ ha (by omega) (by omega)).mono ?_; rintro e w' ⟨rfl, n1, rfl⟩) | (go_at_call 44; refine (sIsSet_c _ _ _).mono ?_; rintro e w' ⟨rfl, rfl⟩) | (go_at_call 45; refine (hc.out _ (ha.drew _)).mono ?_; rintro e w' ⟨rfl, rfl⟩))
      go_ret2
      exact ⟨by rw [E1.out, E2.out]; rfl, n1, rfl⟩
    | false =>
      have E1 : Hid (rsOk s xs = false) := by show _ = _; simp [rsOk, h2]
      have E2 : Hid (rsB s xs = 0) := by show _ = _; rw [rsB, if_neg (by rw [E1.out]; simp)]
      clear hN
      go_enter Tryz.func10, Tryz.ntmps10
      go_wp2_with (first | (go_at_call 38; refine (l9Names_c _ _ _ _ ha (by omega) (by omega)).mono ?_; rintro e w' ⟨rfl, n1, rfl⟩) | (go_at_call 44; refine (sIsSet_c _ _ _).mono ?_; rintro e w' ⟨rfl, rfl⟩))
      go_ret2
      exact ⟨by rw [E1.out, E2.out]; rfl, n1, rfl⟩
  | false =>
    have E1 : Hid (rsOk s xs = false) := by show _ = _; simp [rsOk, h1]
    have E2 : Hid (rsB s xs = 0) := by show _ = _; rw [rsB, if_neg (by rw [E1.out]; simp)]
    go_enter Tryz.func10, Tryz.ntmps10
    go_wp2_with (go_at_call 38; refine (l9Names_c _ _ _ _ ha (by omega) (by omega)).mono ?_; rintro e w' ⟨rfl, n1, rfl⟩)
    go_ret2
    exact ⟨by rw [E1.out, E2.out]; rfl, n1, rfl⟩

end Go.Proofs.YtjaofbdfhcgmeaaGreat
