/-
  Cascades of binomial coefficients, and the bounds that are reckoned from them.
-/
import Derived.Test.YtjaofbdfhcgmeaaNum
namespace Go.Proofs.Ytjaofbdfhcgmeaa
open Go.RowKit

def fitsB (m k : Int) : Bool := decide (0 ≤ m ∧ m ≤ 1000 ∧ 1 ≤ k ∧ k ≤ 6)
theorem fitsB_iff {m k : Int} : fitsB m k = true ↔ 0 ≤ m ∧ m ≤ 1000 ∧ 1 ≤ k ∧ k ≤ 6 := by simp [fitsB]

theorem cascadeFits_c (m k : Int) (w : World) : Calls Try.prog 99 #[.int .i64 m, .int .i64 k] w fun e w' => e = .returned (.bool (fitsB m k)) ∧ w = w' := by
  go_enter Try.func99, Try.ntmps99
  go_wp2_with fail
  all_goals (go_ret; exact ⟨ret_bool (by rw [Bool.eq_iff_iff]; simp [fitsB]; omega), rfl⟩)
theorem l11Fine_c (m k : Int) (w : World) : Calls Try.prog 108 #[.int .i64 m, .int .i64 k] w fun e w' => e = .returned (.bool (fitsB m k)) ∧ w = w' := by
  by_cases h1 : 0 ≤ m ∧ m ≤ 1000
  · have e1 := inB_t h1.1 h1.2
    have e2 : fitsB m k = inB k 1 6 := by rw [Bool.eq_iff_iff]; simp [fitsB, inB]; omega
    have E := hid e2; clear e2 h1
    go_enter Try.func108, Try.ntmps108
    go_wp2_with (go_at_call 112; refine (l1In_c _ _ _ _).mono ?_; rintro e w' ⟨rfl, rfl⟩)
    all_goals (go_ret; exact ⟨ret_bool E.out.symm, rfl⟩)
  · have e1 := inB_f h1
    have e2 : fitsB m k = false := by rw [← Bool.not_eq_true, fitsB_iff]; omega
    have E := hid e2; clear e2 h1
    go_enter Try.func108, Try.ntmps108
    go_wp2_with (go_at_call 112; refine (l1In_c _ _ _ _).mono ?_; rintro e w' ⟨rfl, rfl⟩)
    all_goals (go_ret; exact ⟨ret_bool E.out.symm, rfl⟩)

/-- The greatest a, from where one begins, whose coefficient is at most m. -/
def casF (m i : Int) : Nat → Int → Int
  | 0, a => a
  | n + 1, a => if chW (a + 1) i ≤ m then casF m i n (a + 1) else a
def casA (m i a : Int) : Int := casF m i (1000 - a).toNat a
def casc (m : Int) : Nat → List Int
  | 0 => []
  | i + 1 => if 0 < m then casA m (i + 1) (i + 1) :: casc (m - chW (casA m (i + 1) (i + 1)) (i + 1)) i else []

theorem ch_top : ∀ i : Fin 6, 1000 < chTo 1001 (i.val + 1) := by decide +kernel
theorem ch_pos : ∀ a : Fin 1002, ∀ i : Fin 7, 0 ≤ chTo a.val i.val := by decide +kernel
theorem ch_diag : ∀ i : Fin 7, chTo i.val i.val = 1 := by decide +kernel

theorem chW_top {i : Int} (h1 : 1 ≤ i) (h6 : i ≤ 6) : 1000 < chW 1001 i := by
  have h := ch_top ⟨i.toNat - 1, by omega⟩
  rw [chW, if_neg (by omega)]
  have : i.toNat - 1 + 1 = i.toNat := by omega
  simpa [this] using h
theorem chW_pos {a i : Int} (h0 : 0 ≤ a) (h1 : a ≤ 1001) (h2 : i ≤ 6) : 0 ≤ chW a i := by
  unfold chW
  split
  · omega
  · have h := ch_pos ⟨a.toNat, by omega⟩ ⟨i.toNat, by omega⟩
    simpa [Int.toNat_of_nonneg h0] using h
theorem chW_diag {i : Int} (h1 : 1 ≤ i) (h6 : i ≤ 6) : chW i i = 1 := by
  have h := ch_diag ⟨i.toNat, by omega⟩
  rw [chW, if_neg (by omega)]
  simpa [Int.toNat_of_nonneg (show 0 ≤ i by omega)] using h

theorem casA_go {m i a : Int} (h1 : a < 1000) (h : chW (a + 1) i ≤ m) : casA m i a = casA m i (a + 1) := by
  unfold casA
  rw [show (1000 - a).toNat = (1000 - (a + 1)).toNat + 1 by omega, casF, if_pos h]
theorem casA_stop {m i a : Int} (h : ¬ chW (a + 1) i ≤ m) : casA m i a = a := by
  unfold casA
  generalize (1000 - a).toNat = n
  cases n with
  | zero => rfl
  | succ n => rw [casF, if_neg h]

theorem casF_bd (m i : Int) (n : Nat) : ∀ a : Int, a + n ≤ 1000 → a ≤ casF m i n a ∧ casF m i n a ≤ 1000 := by
  induction n with
  | zero => intro a h; exact ⟨Int.le_refl _, by simpa [casF] using h⟩
  | succ n ih =>
    intro a h
    rw [casF]
    split
    · have := ih (a + 1) (by omega); omega
    · exact ⟨Int.le_refl _, by omega⟩
theorem casA_bd {m i a : Int} (h : a ≤ 1000) : a ≤ casA m i a ∧ casA m i a ≤ 1000 := by
  have hn : a + ((1000 - a).toNat : Int) ≤ 1000 := by omega
  exact casF_bd m i (1000 - a).toNat a hn
theorem casc_go {r q : Int} (hq : 1 ≤ q) (hr : 0 < r) : casc r q.toNat = casA r q q :: casc (r - chW (casA r q q) q) (q - 1).toNat := by
  obtain ⟨n, hn⟩ : ∃ n, q.toNat = n + 1 := ⟨q.toNat - 1, by omega⟩
  have e1 : ((n : Int) + 1) = q := by omega
  rw [hn, casc, if_pos hr, e1, show (q - 1).toNat = n by omega]
theorem casc_bd (m : Int) (n : Nat) (hn : n ≤ 6) : ∀ x ∈ casc m n, 1 ≤ x ∧ x ≤ 1000 := by
  induction n generalizing m with
  | zero => intro x hx; simp [casc] at hx
  | succ n ih =>
    intro x hx
    rw [casc] at hx
    split at hx
    · rcases List.mem_cons.1 hx with hx' | hx
      · have h1 : ((n : Int) + 1) ≤ 1000 := by omega
        have h2 := casA_bd (m := m) (i := (n : Int) + 1) h1
        omega
      · exact ih _ (by omega) x hx
    · simp at hx
theorem casc_len (m : Int) (n : Nat) : (casc m n).length ≤ n := by
  induction n generalizing m with
  | zero => simp [casc]
  | succ n ih =>
    rw [casc]
    split
    · have := ih (m - chW (casA m (n + 1) (n + 1)) (n + 1)); simp; omega
    · simp
theorem casc_nil {m : Int} (h : ¬ 0 < m) (n : Nat) : casc m n = [] := by
  cases n with
  | zero => rfl
  | succ n => rw [casc, if_neg h]

def cascB (m k : Int) : List Int := if fitsB m k = true then casc m k.toNat else []

theorem casc_len2 {r q : Int} : (casc r q.toNat).length ≤ q.toNat := casc_len _ _

set_option maxHeartbeats 1000000 in
set_option maxRecDepth 100000 in
theorem casLoop_c (m k : Int) (w : World) (h0 : 0 ≤ m) (h1 : m ≤ 1000) (h2 : 1 ≤ k) (h3 : k ≤ 6) : Calls Try.prog 10 #[.int .i64 m, .int .i64 k] w fun e w' => ∃ v, e = .returned v ∧ St w w' [⟨v, 3, ints (casc m k.toNat)⟩] := by
  have hf : fitsB m k = true := fitsB_iff.2 ⟨h0, h1, h2, h3⟩
  go_enter Try.func10, Try.ntmps10
  go_wp2_with (go_at_call 99; refine (cascadeFits_c _ _ _).mono ?_; rintro e w' ⟨rfl, rfl⟩)
  go_loopw [0, 5, 6] (fun c o i wr => ∃ (q r : Int) (v : Value) (L : List Int), 0 ≤ q ∧ q ≤ k ∧ 0 ≤ r ∧ r ≤ 1000 ∧ i = .int .i64 q ∧ c = .int .i64 r ∧ o = v ∧ casc m k.toNat = L ++ casc r q.toNat ∧ L.length + q.toNat = k.toNat ∧ Owns w.heap.size wr [⟨v, 3, ints L⟩] ∧ Below w.heap.size w wr) (fun _ _ i _ => (intOf i).toNat)
  case atStart => exact ⟨k, m, _, [], by omega, Int.le_refl _, h0, h1, rfl, rfl, rfl, by simp, by simp, (Owns.start w).nilRow _, Below.refl _ _⟩
  case round =>
    obtain ⟨q, r, v, L, hq0, hq1, hr0, hr1, rfl, rfl, rfl, hc, hl, hO, hb⟩ := hrel
    have HC := hid hc; clear hc
    have HL := hid hl; clear hl
    by_cases hg : 1 ≤ q
    · by_cases hg2 : 0 < r
      · have hlen : L.length < 1099511627776 := by have := HL.out; omega
        go_wp2_with fail
        go_loop [7] (fun a => ∃ x : Int, q ≤ x ∧ x ≤ 1000 ∧ a = .int .i64 x ∧ chW x q ≤ r ∧ casA r q q = casA r q x) (fun a => (1000 - intOf a).toNat)
        case atStart => exact ⟨_, Int.le_refl _, by omega, rfl, by rw [chW_diag (by omega) (by omega)]; omega, rfl⟩
        case round =>
          obtain ⟨x, hx0, hx1, rfl, hx2, hx3⟩ := hrel
          have HX := hid hx3; clear hx3
          by_cases ht : chW (x + 1) q ≤ r
          · have hx : x < 1000 := by
              rcases Int.lt_or_eq_of_le hx1 with h | h
              · exact h
              · subst h
                have := chW_top (i := q) (by omega) (by omega)
                have ht' : chW 1001 q ≤ r := ht
                omega
            have HX2 := hid (HX.out.trans (casA_go hx ht))
            go_wp2_with (go_at_call 100; refine (chooseAny_c _ _ _ (by omega)).mono ?_; rintro e w' ⟨rfl, rfl⟩)
            go_round
            case rel => exact ⟨x + 1, by omega, by omega, rfl, ht, HX2.out⟩
            case measure => simp [intOf]; omega
          · have HX2 := hid (HX.out.trans (casA_stop ht))
            have hp := chW_pos (a := x) (i := q) (by omega) (by omega) (by omega)
            have HT := hid ht
            go_wp2_with (first | (go_at_call 100; refine (chooseAny_c _ _ _ (by omega)).mono ?_; rintro e w' ⟨rfl, rfl⟩) | (at_builtin; refine wpList_push rfl _ _ rfl tI hO (.int .i64 x) rfl (by simpa using hlen) rfl rfl ?_))
            intro v2 w2 hO2 hb2
            go_wp2_with (go_at_call 100; refine (chooseAny_c _ _ _ (by omega)).mono ?_; rintro e w' ⟨rfl, rfl⟩)
            go_roundw
            case rel => exact ⟨q - 1, r - chW x q, v2, L ++ [x], by omega, by omega, by omega, by omega, rfl, rfl, rfl, by rw [HC.out, casc_go hg hg2, HX2.out]; simp, by have := HL.out; simp; omega, by rw [ints_append]; exact hO2, hb.trans hb2⟩
            case measure => simp [intOf]; omega
      · have e1 : casc r q.toNat = [] := casc_nil hg2 _
        have E1 := hid e1; clear e1
        have hrz : r = 0 := by omega
        subst hrz
        clear hg2
        go_wp2_with fail
        go_ret
        exact ⟨_, rfl, by rw [HC.out, E1.out, List.append_nil]; exact hO, hb⟩
    · have e1 : casc r q.toNat = [] := by rw [show q.toNat = 0 by omega]; rfl
      have E1 := hid e1; clear e1
      go_wp2_with fail
      go_ret
      exact ⟨_, rfl, by rw [HC.out, E1.out, List.append_nil]; exact hO, hb⟩

set_option maxHeartbeats 1000000 in
set_option maxRecDepth 100000 in
theorem scasLoop_c (m k : Int) (w : World) (h0 : 0 ≤ m) (h1 : m ≤ 1000) (h2 : 1 ≤ k) (h3 : k ≤ 6) : Calls Try.prog 109 #[.int .i64 m, .int .i64 k] w fun e w' => ∃ v, e = .returned v ∧ St w w' [⟨v, 3, ints (casc m k.toNat)⟩] := by
  have hf : fitsB m k = true := fitsB_iff.2 ⟨h0, h1, h2, h3⟩
  go_enter Try.func109, Try.ntmps109
  go_wp2_with (go_at_call 99; refine (cascadeFits_c _ _ _).mono ?_; rintro e w' ⟨rfl, rfl⟩)
  go_loopw [0, 5, 6] (fun c o i wr => ∃ (q r : Int) (v : Value) (L : List Int), 0 ≤ q ∧ q ≤ k ∧ 0 ≤ r ∧ r ≤ 1000 ∧ i = .int .i64 q ∧ c = .int .i64 r ∧ o = v ∧ casc m k.toNat = L ++ casc r q.toNat ∧ L.length + q.toNat = k.toNat ∧ Owns w.heap.size wr [⟨v, 3, ints L⟩] ∧ Below w.heap.size w wr) (fun _ _ i _ => (intOf i).toNat)
  case atStart => exact ⟨k, m, _, [], by omega, Int.le_refl _, h0, h1, rfl, rfl, rfl, by simp, by simp, (Owns.start w).new #[] _ (by simp), (Below.refl _ _).alloc (Nat.le_refl _) _⟩
  case round =>
    obtain ⟨q, r, v, L, hq0, hq1, hr0, hr1, rfl, rfl, rfl, hc, hl, hO, hb⟩ := hrel
    have HC := hid hc; clear hc
    have HL := hid hl; clear hl
    by_cases hg : 1 ≤ q
    · by_cases hg2 : 0 < r
      · have hlen : L.length < 1099511627776 := by have := HL.out; omega
        go_wp2_with fail
        go_loop [7] (fun a => ∃ x : Int, q ≤ x ∧ x ≤ 1000 ∧ a = .int .i64 x ∧ chW x q ≤ r ∧ casA r q q = casA r q x) (fun a => (1000 - intOf a).toNat)
        case atStart => exact ⟨_, Int.le_refl _, by omega, rfl, by rw [chW_diag (by omega) (by omega)]; omega, rfl⟩
        case round =>
          obtain ⟨x, hx0, hx1, rfl, hx2, hx3⟩ := hrel
          have HX := hid hx3; clear hx3
          by_cases ht : chW (x + 1) q ≤ r
          · have hx : x < 1000 := by
              rcases Int.lt_or_eq_of_le hx1 with h | h
              · exact h
              · subst h
                have := chW_top (i := q) (by omega) (by omega)
                have ht' : chW 1001 q ≤ r := ht
                omega
            have HX2 := hid (HX.out.trans (casA_go hx ht))
            go_wp2_with (go_at_call 110; refine (l11Choose_c _ _ _ (by omega)).mono ?_; rintro e w' ⟨rfl, rfl⟩)
            go_round
            case rel => exact ⟨x + 1, by omega, by omega, rfl, ht, HX2.out⟩
            case measure => simp [intOf]; omega
          · have HX2 := hid (HX.out.trans (casA_stop ht))
            have hp := chW_pos (a := x) (i := q) (by omega) (by omega) (by omega)
            have HT := hid ht
            go_wp2_with (first | (go_at_call 110; refine (l11Choose_c _ _ _ (by omega)).mono ?_; rintro e w' ⟨rfl, rfl⟩) | (at_builtin; refine wpList_push rfl _ _ rfl tI hO (.int .i64 x) rfl (by simpa using hlen) rfl rfl ?_))
            intro v2 w2 hO2 hb2
            go_wp2_with (go_at_call 110; refine (l11Choose_c _ _ _ (by omega)).mono ?_; rintro e w' ⟨rfl, rfl⟩)
            go_roundw
            case rel => exact ⟨q - 1, r - chW x q, v2, L ++ [x], by omega, by omega, by omega, by omega, rfl, rfl, rfl, by rw [HC.out, casc_go hg hg2, HX2.out]; simp, by have := HL.out; simp; omega, by rw [ints_append]; exact hO2, hb.trans hb2⟩
            case measure => simp [intOf]; omega
      · have e1 : casc r q.toNat = [] := casc_nil hg2 _
        have E1 := hid e1; clear e1
        have hrz : r = 0 := by omega
        subst hrz
        clear hg2
        go_wp2_with fail
        go_ret
        exact ⟨_, rfl, by rw [HC.out, E1.out, List.append_nil]; exact hO, hb⟩
    · have e1 : casc r q.toNat = [] := by rw [show q.toNat = 0 by omega]; rfl
      have E1 := hid e1; clear e1
      go_wp2_with fail
      go_ret
      exact ⟨_, rfl, by rw [HC.out, E1.out, List.append_nil]; exact hO, hb⟩


set_option maxHeartbeats 1000000 in
theorem CascadeOf_c (m k : Int) (w : World) : Calls Try.prog 10 #[.int .i64 m, .int .i64 k] w fun e w' => ∃ v, e = .returned v ∧ St w w' [⟨v, 3, ints (cascB m k)⟩] := by
  by_cases h : fitsB m k = true
  · obtain ⟨h0, h1, h2, h3⟩ := fitsB_iff.1 h
    rw [cascB, if_pos h]
    exact casLoop_c m k w h0 h1 h2 h3
  · have h' : fitsB m k = false := by simpa using h
    have e : cascB m k = [] := by rw [cascB, if_neg h]
    have E := hid e; clear e h
    go_enter Try.func10, Try.ntmps10
    go_wp2_with (go_at_call 99; refine (cascadeFits_c _ _ _).mono ?_; rintro e w' ⟨rfl, rfl⟩)
    go_ret
    exact ⟨_, rfl, by rw [E.out]; exact (Owns.start w).nilRow _, Below.refl _ _⟩
set_option maxHeartbeats 1000000 in
theorem sCascadeOf_c (m k : Int) (w : World) : Calls Try.prog 18 #[.int .i64 m, .int .i64 k] w fun e w' => ∃ v, e = .returned v ∧ St w w' [⟨v, 3, ints (cascB m k)⟩] := by
  by_cases h : fitsB m k = true
  · obtain ⟨h0, h1, h2, h3⟩ := fitsB_iff.1 h
    have e : cascB m k = casc m k.toNat := by rw [cascB, if_pos h]
    have E := hid e; clear e
    go_enter Try.func18, Try.ntmps18
    go_wp2_with (first | (go_at_call 108; refine (l11Fine_c _ _ _).mono ?_; rintro e w' ⟨rfl, rfl⟩) | (go_at_call 109; refine (scasLoop_c _ _ _ h0 h1 h2 h3).mono ?_; rintro e w' ⟨v, rfl, hO, hb⟩))
    go_ret
    exact ⟨v, rfl, by rw [E.out]; exact hO, hb⟩
  · have h' : fitsB m k = false := by simpa using h
    have e : cascB m k = [] := by rw [cascB, if_neg h]
    have E := hid e; clear e h
    go_enter Try.func18, Try.ntmps18
    go_wp2_with (go_at_call 108; refine (l11Fine_c _ _ _).mono ?_; rintro e w' ⟨rfl, rfl⟩)
    go_ret
    exact ⟨_, rfl, by rw [E.out]; exact (Owns.start w).new #[] _ (by simp), (Below.refl _ _).alloc (Nat.le_refl _) _⟩

/-! ### The bounds -/

theorem casc_gi {m : Int} {n : Nat} (hn : n ≤ 6) {j : Nat} (hj : j < (casc m n).length) : 1 ≤ gi (casc m n) j ∧ gi (casc m n) j ≤ 1000 := by
  rw [gi_eq _ _ hj]
  exact casc_bd m n hn _ (List.getElem_mem _)

/-- The running sums. -/
def powTo (L : List Int) (k : Int) : Nat → Int
  | 0 => 0
  | j + 1 => wrap64 (powTo L k j + chW (gi L j + 1) (k - (j : Int) + 1))
def shaTo (L : List Int) (k : Int) : Nat → Int
  | 0 => 0
  | j + 1 => wrap64 (shaTo L k j + chW (gi L j) (k - (j : Int) - 1))
def powB (m k : Int) : Int := if fitsB m k = true then powTo (casc m k.toNat) k (casc m k.toNat).length else -1
def shaB (m k : Int) : Int := if fitsB m k = true then shaTo (casc m k.toNat) k (casc m k.toNat).length else -1

set_option maxHeartbeats 1000000 in
theorem ShadowBound_c (m k : Int) (w : World) : Calls Try.prog 19 #[.int .i64 m, .int .i64 k] w fun e w' => e = .returned (.int .i64 (shaB m k)) ∧ Below w.heap.size w w' := by
  by_cases h : fitsB m k = true
  · obtain ⟨h0, h1, h2, h3⟩ := fitsB_iff.1 h
    have e : shaB m k = shaTo (casc m k.toNat) k (casc m k.toNat).length := by rw [shaB, if_pos h]
    have E := hid e; clear e
    have hl := casc_len m k.toNat
    have hg : Hid (∀ j, j < (casc m k.toNat).length → 1 ≤ gi (casc m k.toNat) j ∧ gi (casc m k.toNat) j ≤ 1000) := fun j hj => casc_gi (by omega) hj
    have hcc : cascB m k = casc m k.toNat := by rw [cascB, if_pos h]
    have HCC := hid hcc; clear hcc
    generalize casc m k.toNat = L at *
    go_enter Try.func19, Try.ntmps19
    go_wp2_with (first | (go_at_call 99; refine (cascadeFits_c _ _ _).mono ?_; rintro e w' ⟨rfl, rfl⟩) | (go_at_call 10; refine (CascadeOf_c _ _ _).mono ?_; rw [HCC.out]; rintro e w1 ⟨v, rfl, hO, hb⟩; have la := hO.hd.iln tI))
    go_loop [5, 16] (fun s i => ∃ (j : Nat), j ≤ L.length ∧ i = .int .i64 j ∧ s = .int .i64 (shaTo L k j)) (fun _ i => L.length - (intOf i).toNat)
    case atStart => exact ⟨0, Nat.zero_le _, rfl, rfl⟩
    case round =>
      obtain ⟨j, hj, rfl, rfl⟩ := hrel
      by_cases hlt : j < L.length
      · have f1 := hO.hd.iix tI j hlt
        have f2 := hO.hd.intCell j hlt
        have f3 := (hg.out j hlt).1
        have f4 := (hg.out j hlt).2
        go_wp2_with (go_at_call 100; refine (chooseAny_c _ _ _ (by omega)).mono ?_; rintro e w' ⟨rfl, rfl⟩)
        go_round
        case rel => exact ⟨j + 1, by omega, by go_num, rfl⟩
        case measure => simp [intOf]; omega
      · have e : j = L.length := by omega
        subst e
        go_wp2_with fail
        go_ret
        exact ⟨ret_int E.out.symm, hb⟩
  · have h' : fitsB m k = false := by simpa using h
    have e : shaB m k = -1 := by rw [shaB, if_neg h]
    have E := hid e; clear e h
    go_enter Try.func19, Try.ntmps19
    go_wp2_with (go_at_call 99; refine (cascadeFits_c _ _ _).mono ?_; rintro e w' ⟨rfl, rfl⟩)
    go_ret
    exact ⟨ret_int E.out.symm, Below.refl _ _⟩

set_option maxHeartbeats 1000000 in
theorem sShadowBound_c (m k : Int) (w : World) : Calls Try.prog 20 #[.int .i64 m, .int .i64 k] w fun e w' => e = .returned (.int .i64 (shaB m k)) ∧ Below w.heap.size w w' := by
  by_cases h : fitsB m k = true
  · obtain ⟨h0, h1, h2, h3⟩ := fitsB_iff.1 h
    have e : shaB m k = shaTo (casc m k.toNat) k (casc m k.toNat).length := by rw [shaB, if_pos h]
    have E := hid e; clear e
    have hl := casc_len m k.toNat
    have hg : Hid (∀ j, j < (casc m k.toNat).length → 1 ≤ gi (casc m k.toNat) j ∧ gi (casc m k.toNat) j ≤ 1000) := fun j hj => casc_gi (by omega) hj
    have hs : Hid (Calls Try.prog 109 #[.int .i64 m, .int .i64 k] w fun e w' => ∃ v, e = .returned v ∧ St w w' [⟨v, 3, ints (casc m k.toNat)⟩]) := scasLoop_c m k w h0 h1 h2 h3
    generalize casc m k.toNat = L at *
    go_enter Try.func20, Try.ntmps20
    go_wp2_with (first | (go_at_call 108; refine (l11Fine_c _ _ _).mono ?_; rintro e w' ⟨rfl, rfl⟩) | (go_at_call 109; refine hs.out.mono ?_; rintro e w1 ⟨v, rfl, hO, hb⟩; have la := hO.hd.iln tI))
    go_loop [5, 7] (fun s i => ∃ (j : Nat), j ≤ L.length ∧ i = .int .i64 j ∧ s = .int .i64 (shaTo L k j)) (fun _ i => L.length - (intOf i).toNat)
    case atStart => exact ⟨0, Nat.zero_le _, rfl, rfl⟩
    case round =>
      obtain ⟨j, hj, rfl, rfl⟩ := hrel
      by_cases hlt : j < L.length
      · have f1 := hO.hd.iix tI j hlt
        have f2 := hO.hd.intCell j hlt
        have f3 := (hg.out j hlt).1
        have f4 := (hg.out j hlt).2
        go_wp2_with (go_at_call 110; refine (l11Choose_c _ _ _ (by omega)).mono ?_; rintro e w' ⟨rfl, rfl⟩)
        go_round
        case rel => exact ⟨j + 1, by omega, by go_num, rfl⟩
        case measure => simp [intOf]; omega
      · have e : j = L.length := by omega
        subst e
        go_wp2_with fail
        go_ret
        exact ⟨ret_int E.out.symm, hb⟩
  · have h' : fitsB m k = false := by simpa using h
    have e : shaB m k = -1 := by rw [shaB, if_neg h]
    have E := hid e; clear e h
    go_enter Try.func20, Try.ntmps20
    go_wp2_with (go_at_call 108; refine (l11Fine_c _ _ _).mono ?_; rintro e w' ⟨rfl, rfl⟩)
    go_ret
    exact ⟨ret_int E.out.symm, Below.refl _ _⟩


end Go.Proofs.Ytjaofbdfhcgmeaa
