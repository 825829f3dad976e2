/-
  The first sets of a size; which counts are possible.
-/
import Derived.Test.YtjaofbdfhcgmeaaCasc
import Derived.Test.YtjaofbdfhcgmeaaSize
namespace Go.Proofs.Ytjaofbdfhcgmeaa
open Go.RowKit

/-- The least m sets with k points among the first s numbers. -/
def fsTo (k : Int) (m : Nat) : Nat → List Int
  | 0 => []
  | s + 1 => if (fsTo k m s).length < m ∧ pc s = k then fsTo k m s ++ [(s : Int)] else fsTo k m s
def fsOk (k m : Int) : Prop := 0 ≤ k ∧ k ≤ 6 ∧ 0 ≤ m ∧ m ≤ chooseB 6 k
instance (k m : Int) : Decidable (fsOk k m) := by unfold fsOk; exact inferInstance
def fsB (k m : Int) : List Int := if fsOk k m then fsTo k m.toNat 64 else []
theorem fsTo_len (k : Int) (m s : Nat) : (fsTo k m s).length ≤ m ∧ (fsTo k m s).length ≤ s := by
  induction s with
  | zero => simp [fsTo]
  | succ s ih =>
    rw [fsTo]
    split
    · rename_i h; simp; omega
    · omega
theorem fsB_len (k m : Int) : (fsB k m).length ≤ 1000000 := by
  unfold fsB
  split
  · have := (fsTo_len k m.toNat 64).2; omega
  · simp
theorem fsTo_stop {k : Int} {m s : Nat} (h : ¬ (fsTo k m s).length < m) (t : Nat) : fsTo k m (s + t) = fsTo k m s := by
  induction t with
  | zero => rfl
  | succ t ih =>
    rw [← Nat.add_assoc, fsTo, ih, if_neg (fun h' => h h'.1)]
theorem fsTo_stop' {k : Int} {m s : Nat} (h : ¬ (fsTo k m s).length < m) (hs : s ≤ 64) : fsTo k m 64 = fsTo k m s := by
  have := fsTo_stop h (64 - s)
  rwa [show s + (64 - s) = 64 by omega] at this

set_option maxHeartbeats 1000000 in
theorem fsLoop_c (k m : Int) (w : World) (hk : fsOk k m) : Calls Try.prog 22 #[.int .i64 k, .int .i64 m] w fun e w' => ∃ v, e = .returned v ∧ St w w' [⟨v, 3, ints (fsB k m)⟩] := by
  have E : Hid (fsB k m = fsTo k m.toNat 64) := by show _ = _; rw [fsB, if_pos hk]
  obtain ⟨k0, k6, m0, m1⟩ := hk
  have q1 := inB_t k0 k6
  have q2 := inB_t m0 m1
  go_enter Try.func22, Try.ntmps22
  go_wp2_with (first | (go_at_call 102; refine (Choose_c _ _ _).mono ?_; rintro e w' ⟨rfl, rfl⟩) | (go_at_call 26; refine (sChoose_c _ _ _).mono ?_; rintro e w' ⟨rfl, rfl⟩) | (go_at_call 112; refine (l1In_c _ _ _ _).mono ?_; rintro e w' ⟨rfl, rfl⟩))
  go_loopw [5, 6] (fun o i wr => ∃ (s : Nat) (v : Value), s ≤ 64 ∧ i = .int .i64 s ∧ o = v ∧ St w wr [⟨v, 3, ints (fsTo k m.toNat s)⟩]) (fun _ i _ => 64 - (intOf i).toNat)
  case atStart => exact ⟨0, _, by omega, rfl, rfl, (St.start w).nilRow _⟩
  case round =>
    obtain ⟨s, v, hs, rfl, rfl, hS⟩ := hrel
    have lv := hS.hd.iln tI
    have HS := hid hS
    have hl := fsTo_len k m.toNat s
    by_cases hlt : s < 64
    · by_cases hm : (fsTo k m.toNat s).length < m.toNat
      · have hm' : ((fsTo k m.toNat s).length : Int) < m := by omega
        by_cases hp : pc s = k
        · have hp' : (pc s == k) = true := by simp [hp]
          have E2 : Hid (fsTo k m.toNat (s + 1) = fsTo k m.toNat s ++ [(s : Int)]) := by show _ = _; rw [fsTo, if_pos ⟨hm, hp⟩]
          clear hp hS
          go_wp2_with (first | (go_at_call 111; refine (SizeOf_s _ _ (by omega) (by omega)).mono ?_; rintro e w' ⟨rfl, rfl⟩) | (at_builtin; refine wpList_push rfl _ _ rfl tI HS.out.own (.int .i64 (s : Int)) rfl (by simp; omega) rfl rfl ?_))
          intro v2 w2 hO2 hb2
          go_wp2_with fail
          go_roundw
          case rel => exact ⟨s + 1, v2, by omega, by go_num, rfl, by rw [E2.out, ints_append]; exact HS.out.mut hO2 hb2⟩
          case measure => simp [intOf]; omega
        · have hp' : (pc s == k) = false := by simp [hp]
          have E2 : Hid (fsTo k m.toNat (s + 1) = fsTo k m.toNat s) := by show _ = _; rw [fsTo, if_neg (fun h => hp h.2)]
          clear hp hS
          go_wp2_with (go_at_call 111; refine (SizeOf_s _ _ (by omega) (by omega)).mono ?_; rintro e w' ⟨rfl, rfl⟩)
          go_roundw
          case rel => exact ⟨s + 1, _, by omega, by go_num, rfl, by rw [E2.out]; exact HS.out⟩
          case measure => simp [intOf]; omega
      · have hm' : ¬ ((fsTo k m.toNat s).length : Int) < m := by omega
        have E2 : Hid (fsTo k m.toNat 64 = fsTo k m.toNat s) := fsTo_stop' hm hs
        clear hS hm
        go_wp2_with fail
        go_ret
        exact ⟨_, rfl, by rw [E.out, E2.out]; exact HS.out⟩
    · have es : s = 64 := by omega
      subst es
      clear hS
      go_wp2_with fail
      go_ret
      exact ⟨_, rfl, by rw [E.out]; exact HS.out⟩

set_option maxHeartbeats 1000000 in
theorem sfsLoop_c (k m : Int) (w : World) (hk : fsOk k m) : Calls Try.prog 23 #[.int .i64 k, .int .i64 m] w fun e w' => ∃ v, e = .returned v ∧ St w w' [⟨v, 3, ints (fsB k m)⟩] := by
  have E : Hid (fsB k m = fsTo k m.toNat 64) := by show _ = _; rw [fsB, if_pos hk]
  obtain ⟨k0, k6, m0, m1⟩ := hk
  have q1 := inB_t k0 k6
  have q2 := inB_t m0 m1
  go_enter Try.func23, Try.ntmps23
  go_wp2_with (first | (go_at_call 102; refine (Choose_c _ _ _).mono ?_; rintro e w' ⟨rfl, rfl⟩) | (go_at_call 26; refine (sChoose_c _ _ _).mono ?_; rintro e w' ⟨rfl, rfl⟩) | (go_at_call 112; refine (l1In_c _ _ _ _).mono ?_; rintro e w' ⟨rfl, rfl⟩))
  go_loopw [5, 6] (fun o i wr => ∃ (s : Nat) (v : Value), s ≤ 64 ∧ i = .int .i64 s ∧ o = v ∧ St w wr [⟨v, 3, ints (fsTo k m.toNat s)⟩]) (fun _ i _ => 64 - (intOf i).toNat)
  case atStart => exact ⟨0, _, by omega, rfl, rfl, (St.start w).new #[] _ (by simp)⟩
  case round =>
    obtain ⟨s, v, hs, rfl, rfl, hS⟩ := hrel
    have lv := hS.hd.iln tI
    have HS := hid hS
    have hl := fsTo_len k m.toNat s
    by_cases hlt : s < 64
    · by_cases hm : (fsTo k m.toNat s).length < m.toNat
      · have hm' : ((fsTo k m.toNat s).length : Int) < m := by omega
        by_cases hp : pc s = k
        · have hp' : (pc s == k) = true := by simp [hp]
          have E2 : Hid (fsTo k m.toNat (s + 1) = fsTo k m.toNat s ++ [(s : Int)]) := by show _ = _; rw [fsTo, if_pos ⟨hm, hp⟩]
          clear hp hS
          go_wp2_with (first | (go_at_call 106; refine (l2Size_c _ _ (by omega) (by omega)).mono ?_; rintro e w' ⟨rfl, rfl⟩) | (at_builtin; refine wpList_push rfl _ _ rfl tI HS.out.own (.int .i64 (s : Int)) rfl (by simp; omega) rfl rfl ?_))
          intro v2 w2 hO2 hb2
          go_wp2_with fail
          go_roundw
          case rel => exact ⟨s + 1, v2, by omega, by go_num, rfl, by rw [E2.out, ints_append]; exact HS.out.mut hO2 hb2⟩
          case measure => simp [intOf]; omega
        · have hp' : (pc s == k) = false := by simp [hp]
          have E2 : Hid (fsTo k m.toNat (s + 1) = fsTo k m.toNat s) := by show _ = _; rw [fsTo, if_neg (fun h => hp h.2)]
          clear hp hS
          go_wp2_with (go_at_call 106; refine (l2Size_c _ _ (by omega) (by omega)).mono ?_; rintro e w' ⟨rfl, rfl⟩)
          go_roundw
          case rel => exact ⟨s + 1, _, by omega, by go_num, rfl, by rw [E2.out]; exact HS.out⟩
          case measure => simp [intOf]; omega
      · have hm' : ¬ ((fsTo k m.toNat s).length : Int) < m := by omega
        have E2 : Hid (fsTo k m.toNat 64 = fsTo k m.toNat s) := fsTo_stop' hm hs
        clear hS hm
        go_wp2_with fail
        go_ret
        exact ⟨_, rfl, by rw [E.out, E2.out]; exact HS.out⟩
    · have es : s = 64 := by omega
      subst es
      clear hS
      go_wp2_with fail
      go_ret
      exact ⟨_, rfl, by rw [E.out]; exact HS.out⟩


set_option maxHeartbeats 1000000 in
theorem FirstSets_c (k m : Int) (w : World) : Calls Try.prog 22 #[.int .i64 k, .int .i64 m] w fun e w' => ∃ v, e = .returned v ∧ St w w' [⟨v, 3, ints (fsB k m)⟩] := by
  by_cases hk : fsOk k m
  · exact fsLoop_c k m w hk
  · have E : Hid (fsB k m = []) := by show _ = _; rw [fsB, if_neg hk]
    by_cases h1 : k < 0
    · clear hk
      go_enter Try.func22, Try.ntmps22
      go_wp2_with fail
      go_ret
      exact ⟨_, rfl, by rw [E.out]; exact (St.start w).nilRow _⟩
    · by_cases h2 : 6 < k
      · clear hk
        go_enter Try.func22, Try.ntmps22
        go_wp2_with fail
        go_ret
        exact ⟨_, rfl, by rw [E.out]; exact (St.start w).nilRow _⟩
      · by_cases h3 : m < 0
        · clear hk
          go_enter Try.func22, Try.ntmps22
          go_wp2_with fail
          go_ret
          exact ⟨_, rfl, by rw [E.out]; exact (St.start w).nilRow _⟩
        · have h4 : chooseB 6 k < m := by
            refine Int.not_le.1 fun h => hk ⟨by omega, by omega, by omega, h⟩
          clear hk
          go_enter Try.func22, Try.ntmps22
          go_wp2_with (go_at_call 102; refine (Choose_c _ _ _).mono ?_; rintro e w' ⟨rfl, rfl⟩)
          go_ret
          exact ⟨_, rfl, by rw [E.out]; exact (St.start w).nilRow _⟩
set_option maxHeartbeats 1000000 in
theorem sFirstSets_c (k m : Int) (w : World) : Calls Try.prog 23 #[.int .i64 k, .int .i64 m] w fun e w' => ∃ v, e = .returned v ∧ St w w' [⟨v, 3, ints (fsB k m)⟩] := by
  by_cases hk : fsOk k m
  · exact sfsLoop_c k m w hk
  · have E : Hid (fsB k m = []) := by show _ = _; rw [fsB, if_neg hk]
    by_cases h1 : 0 ≤ k ∧ k ≤ 6
    · have q1 := inB_t h1.1 h1.2
      have q2 : inB m 0 (chooseB 6 k) = false := inB_f (fun h => hk ⟨h1.1, h1.2, h.1, h.2⟩)
      clear hk h1
      go_enter Try.func23, Try.ntmps23
      go_wp2_with (first | (go_at_call 26; refine (sChoose_c _ _ _).mono ?_; rintro e w' ⟨rfl, rfl⟩) | (go_at_call 112; refine (l1In_c _ _ _ _).mono ?_; rintro e w' ⟨rfl, rfl⟩))
      go_ret
      exact ⟨_, rfl, by rw [E.out]; exact (St.start w).new #[] _ (by simp)⟩
    · have q1 := inB_f h1
      clear hk h1
      go_enter Try.func23, Try.ntmps23
      go_wp2_with (go_at_call 112; refine (l1In_c _ _ _ _).mono ?_; rintro e w' ⟨rfl, rfl⟩)
      go_ret
      exact ⟨_, rfl, by rw [E.out]; exact (St.start w).new #[] _ (by simp)⟩

end Go.Proofs.Ytjaofbdfhcgmeaa
