/-
  Texts read as numbers.
-/
import Derived.Test.YtjaofbdfhcgmeaaStr2
namespace Go.Proofs.Ytjaofbdfhcgmeaa
open Go.RowKit

/-- A number, and whether it was fine. -/
def readRet (e : Ending) : Prop := ∃ x b, e = .returned (.tuple #[.int .i64 x, .bool b])
theorem ten_step {x d : Int} {k : Nat} (x0 : 0 ≤ x) (x1 : x < 10 ^ k) (d0 : 0 ≤ d) (d1 : d ≤ 9) : 0 ≤ 10 * x + d ∧ 10 * x + d < 10 ^ (k + 1) := by
  rw [Int.pow_succ]
  generalize (10 : Int) ^ k = p at *
  omega
theorem ten_le {x : Int} {k : Nat} (hk : k ≤ 12) (x1 : x < 10 ^ k) : x ≤ 999999999999 := by
  have : (10 : Nat) ^ k ≤ 10 ^ 12 := Nat.pow_le_pow_right (by omega) hk
  have h2 : ((10 : Int) ^ k) = ((10 ^ k : Nat) : Int) := by simp
  have h3 : (10 : Nat) ^ 12 = 1000000000000 := rfl
  omega
theorem run_from1 (s : ByteArray) (h : 1 ≤ s.size) (w : World) : (Instr.slice 9 (.string s) (some (.int .i64 1)) none none).run Try.prog w = .ok (.string (s.extract 1 s.size)) w := by
  have := run_slice_string_l (P := Try.prog) (w := w) (t := 9) (s := s) uT .i64 1 (by omega) (by omega)
  simpa using this

set_option maxHeartbeats 4000000 in
set_option maxRecDepth 100000 in
theorem l1Read_c (s : ByteArray) (hs : s.size ≤ 1000) (w : World) : Calls Try.prog 185 #[.string s, .int .i64 12] w fun e w' => readRet e ∧ Below w.heap.size w w' := by
  by_cases h0 : 0 < s.size
  · by_cases hb : ((s[0].toNat : Nat) : Int) = 45
    · have q1 : (((s[0].toNat : Nat) : Int) == 45) = true := by simp [hb]
      have hcut := run_from1 s (by omega)
      obtain ⟨t, ht⟩ : ∃ t, t = s.extract 1 s.size := ⟨_, rfl⟩
      rw [← ht] at hcut
      clear ht hb
      by_cases h1 : t.size < 1
      · go_enter Try.func185, Try.ntmps185
        go_wp2_with fail
        all_goals (go_ret2; exact ⟨⟨0, _, rfl⟩, Below.refl _ _⟩)
      · by_cases h2 : 12 < t.size
        · go_enter Try.func185, Try.ntmps185
          go_wp2_with fail
          all_goals (go_ret2; exact ⟨⟨0, _, rfl⟩, Below.refl _ _⟩)
        · go_enter Try.func185, Try.ntmps185
          go_wp2_with fail
          go_loop [8, 9] (fun o c => ∃ (k : Nat) (x : Int), k ≤ t.size ∧ c = .int .i64 k ∧ o = .int .i64 x ∧ 0 ≤ x ∧ x < 10 ^ k) (fun _ c => t.size - (intOf c).toNat)
          case atStart => exact ⟨0, 0, Nat.zero_le _, rfl, rfl, by omega, by simp⟩
          case round =>
            obtain ⟨k, x, hk, rfl, rfl, hx0, hx1⟩ := hrel
            have HX1 := hid hx1
            have hx2 := ten_le (by omega) hx1
            clear hx1
            by_cases hlt : k < t.size
            · obtain ⟨c, hc⟩ : ∃ c : Int, (t[k].toNat : Int) = c := ⟨_, rfl⟩
              have c0 : 0 ≤ c := by omega
              have c1 : c ≤ 255 := by have := t[k].toNat_lt; omega
              by_cases h48 : c < 48
              · have q48 : decide (c < 48) = true := decide_eq_true h48
                go_wp2_with fail
                go_ret2
                exact ⟨⟨0, _, rfl⟩, Below.refl _ _⟩
              · have q48 : decide (c < 48) = false := decide_eq_false h48
                by_cases h57 : 57 < c
                · have q57 : decide (57 < c) = true := decide_eq_true h57
                  go_wp2_with fail
                  go_ret2
                  exact ⟨⟨0, _, rfl⟩, Below.refl _ _⟩
                · have q57 : decide (57 < c) = false := decide_eq_false h57
                  have HT := hid (ten_step hx0 HX1.out (d := c - 48) (by omega) (by omega))
                  go_wp2_with fail
                  go_round
                  case rel => exact ⟨k + 1, _, by omega, by go_num, rfl, HT.out.1, HT.out.2⟩
                  case measure => simp [intOf]; omega
            · go_wp2_with fail
              refine (FormatInt_c _ (by omega) (by omega) _).mono ?_
              rintro e w1 ⟨rfl, hB⟩
              have HB := hid hB
              clear hB
              go_wp2_with fail
              all_goals
                go_ret2
                exact ⟨⟨_, _, rfl⟩, HB.out⟩
    · have q1 : (((s[0].toNat : Nat) : Int) == 45) = false := by simp [hb]
      clear hb
      by_cases h1 : s.size < 1
      · go_enter Try.func185, Try.ntmps185
        go_wp2_with fail
        all_goals (go_ret2; exact ⟨⟨0, _, rfl⟩, Below.refl _ _⟩)
      · by_cases h2 : 12 < s.size
        · go_enter Try.func185, Try.ntmps185
          go_wp2_with fail
          all_goals (go_ret2; exact ⟨⟨0, _, rfl⟩, Below.refl _ _⟩)
        · go_enter Try.func185, Try.ntmps185
          go_wp2_with fail
          go_loop [8, 9] (fun o c => ∃ (k : Nat) (x : Int), k ≤ s.size ∧ c = .int .i64 k ∧ o = .int .i64 x ∧ 0 ≤ x ∧ x < 10 ^ k) (fun _ c => s.size - (intOf c).toNat)
          case atStart => exact ⟨0, 0, Nat.zero_le _, rfl, rfl, by omega, by simp⟩
          case round =>
            obtain ⟨k, x, hk, rfl, rfl, hx0, hx1⟩ := hrel
            have HX1 := hid hx1
            have hx2 := ten_le (by omega) hx1
            clear hx1
            by_cases hlt : k < s.size
            · obtain ⟨c, hc⟩ : ∃ c : Int, (s[k].toNat : Int) = c := ⟨_, rfl⟩
              have c0 : 0 ≤ c := by omega
              have c1 : c ≤ 255 := by have := s[k].toNat_lt; omega
              by_cases h48 : c < 48
              · have q48 : decide (c < 48) = true := decide_eq_true h48
                go_wp2_with fail
                go_ret2
                exact ⟨⟨0, _, rfl⟩, Below.refl _ _⟩
              · have q48 : decide (c < 48) = false := decide_eq_false h48
                by_cases h57 : 57 < c
                · have q57 : decide (57 < c) = true := decide_eq_true h57
                  go_wp2_with fail
                  go_ret2
                  exact ⟨⟨0, _, rfl⟩, Below.refl _ _⟩
                · have q57 : decide (57 < c) = false := decide_eq_false h57
                  have HT := hid (ten_step hx0 HX1.out (d := c - 48) (by omega) (by omega))
                  go_wp2_with fail
                  go_round
                  case rel => exact ⟨k + 1, _, by omega, by go_num, rfl, HT.out.1, HT.out.2⟩
                  case measure => simp [intOf]; omega
            · go_wp2_with fail
              refine (FormatInt_c _ (by omega) (by omega) _).mono ?_
              rintro e w1 ⟨rfl, hB⟩
              have HB := hid hB
              clear hB
              go_wp2_with fail
              all_goals
                go_ret2
                exact ⟨⟨_, _, rfl⟩, HB.out⟩
  · have h1 : s.size < 1 := by omega
    go_enter Try.func185, Try.ntmps185
    go_wp2_with fail
    go_ret2
    exact ⟨⟨0, _, rfl⟩, Below.refl _ _⟩

set_option maxHeartbeats 1000000 in
theorem ParseInt_c (s : ByteArray) (hs : s.size ≤ 1000) (w : World) : Calls Try.prog 166 #[.string s] w fun e w' => readRet e ∧ Below w.heap.size w w' := by
  have HK := hid (l1Read_c s hs w)
  go_enter Try.func166, Try.ntmps166
  go_wp2_with fail
  refine HK.out.mono ?_
  rintro e w1 ⟨⟨x, b, rfl⟩, hB⟩
  have HB := hid hB
  clear hB
  go_wp2_with fail
  go_ret2
  exact ⟨⟨_, _, rfl⟩, HB.out⟩

end Go.Proofs.Ytjaofbdfhcgmeaa
