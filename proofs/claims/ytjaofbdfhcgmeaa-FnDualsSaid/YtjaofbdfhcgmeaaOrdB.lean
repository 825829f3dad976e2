/-
  Sets put in order, by the program and by the reference.
-/
import Derived.Test.YtjaofbdfhcgmeaaCy
namespace Go.Proofs.Ytjaofbdfhcgmeaa
open Go.RowKit

def fineP (xs : List Int) : Prop := ∀ x ∈ xs, 0 ≤ x ∧ x < 64
instance (xs : List Int) : Decidable (fineP xs) := by unfold fineP; exact inferInstance
def fineB (xs : List Int) : Bool := decide (fineP xs)
def ordL (xs : List Int) : List Int := if fineP xs then setsL (mem xs) else []
theorem fine_snoc {xs : List Int} {j : Nat} (h : j < xs.length) (h1 : fineP (xs.take j)) (h2 : 0 ≤ gi xs j ∧ gi xs j < 64) : fineP (xs.take (j + 1)) := by
  intro x hx
  rw [take_succ_gi h, List.mem_append, List.mem_singleton] at hx
  rcases hx with hx | rfl
  · exact h1 x hx
  · exact h2
theorem not_fine {xs : List Int} {j : Nat} (h : j < xs.length) (h2 : ¬ (0 ≤ gi xs j ∧ gi xs j < 64)) : ¬ fineP xs := fun h' => h2 (h' _ (by rw [gi_eq xs j h]; exact List.getElem_mem _))
theorem ordL_len (xs : List Int) : (ordL xs).length ≤ 448 := by
  unfold ordL
  split
  · exact setsL_len _
  · simp

set_option maxHeartbeats 1000000 in
theorem famOf_c (va : Value) (xs : List Int) (w : World) (ha : Rd w va (ints xs)) : Calls Try.prog 103 #[va] w fun e w' => (fineP xs ∧ e = .returned (.tuple #[.int .u64 (fam (mem xs)), .bool true]) ∨ ¬ fineP xs ∧ e = .returned (.tuple #[.int .u64 0, .bool false])) ∧ w = w' := by
  have la := ha.iln tI
  have ll := ha.ile
  have E0 : Hid (fam (mem (xs.take 0)) = 0) := by show _ = _; exact fam_none' fun s _ _ => by simp [mem_nil]
  go_enter Try.func103, Try.ntmps103
  go_wp2_with fail
  go_loop [4, 9] (fun f i => ∃ (j : Nat), j ≤ xs.length ∧ i = .int .i64 j ∧ f = .int .u64 (fam (mem (xs.take j))) ∧ Hid (fineP (xs.take j))) (fun _ i => xs.length - (intOf i).toNat)
  case atStart => exact ⟨0, by omega, rfl, by rw [E0.out], by show fineP _; simp [fineP]⟩
  case round =>
    obtain ⟨j, hj, rfl, rfl, HF⟩ := hrel
    by_cases hlt : j < xs.length
    · have f1 := ha.iix tI j hlt
      have f2 := ha.intCell j hlt
      by_cases hr : 0 ≤ gi xs j ∧ gi xs j < 64
      · obtain ⟨r0, r1⟩ := hr
        have HI : Hid (isSetB 6 (gi xs j) = true) := by show _ = _; rw [isSet6]; exact set64_iff.2 ⟨r0, r1⟩
        have HN := hid (fine_snoc hlt HF.out ⟨r0, r1⟩)
        have e2 : bits .or .u64 (fam (mem (xs.take j))) (IntKind.u64.wrap (2 ^ (gi xs j).toNat)) = fam (mem (xs.take (j + 1))) := by
          rw [fam_add _ r0 r1]
          exact fam_congr fun s _ _ => (mem_succ hlt s).symm
        have E2 := hid e2; clear e2
        go_wp2_with (go_at_call 125; refine (IsSet_c _ _ _).mono ?_; rw [HI.out]; rintro e w' ⟨rfl, rfl⟩)
        go_round
        case rel => exact ⟨j + 1, by omega, by go_num, by rw [← E2.out], HN⟩
        case measure => simp [intOf]; omega
      · have HI : Hid (isSetB 6 (gi xs j) = false) := by show _ = _; rw [isSet6, ← Bool.not_eq_true]; exact fun h => hr (set64_iff.1 h)
        have HN := hid (not_fine hlt hr)
        clear hr
        go_wp2_with (go_at_call 125; refine (IsSet_c _ _ _).mono ?_; rw [HI.out]; rintro e w' ⟨rfl, rfl⟩)
        go_ret2
        exact ⟨.inr ⟨HN.out, rfl⟩, rfl⟩
    · have E2 : xs.take j = xs := List.take_of_length_le (by omega)
      rw [E2] at HF ⊢
      go_wp2_with fail
      go_ret2
      exact ⟨.inl ⟨HF.out, rfl⟩, rfl⟩


set_option maxHeartbeats 1000000 in
theorem l2Fine_c (va : Value) (xs : List Int) (w : World) (ha : Rd w va (ints xs)) : Calls Try.prog 132 #[va] w fun e w' => e = .returned (.bool (fineB xs)) ∧ w = w' := by
  have la := ha.iln tI
  have ll := ha.ile
  go_enter Try.func132, Try.ntmps132
  go_wp2_with fail
  go_loop [3] (fun i => ∃ (j : Nat), j ≤ xs.length ∧ i = .int .i64 j ∧ Hid (fineP (xs.take j))) (fun i => xs.length - (intOf i).toNat)
  case atStart => exact ⟨0, by omega, rfl, by show fineP _; simp [fineP]⟩
  case round =>
    obtain ⟨j, hj, rfl, HF⟩ := hrel
    by_cases hlt : j < xs.length
    · have f1 := ha.iix tI j hlt
      have f2 := ha.intCell j hlt
      by_cases hr : 0 ≤ gi xs j ∧ gi xs j < 64
      · have HI : Hid (inB (gi xs j) 0 63 = true) := inB_t hr.1 (by omega)
        have HN := hid (fine_snoc hlt HF.out hr)
        clear hr
        go_wp2_with (go_at_call 112; refine (l1In_c _ _ _ _).mono ?_; rw [HI.out]; rintro e w' ⟨rfl, rfl⟩)
        go_round
        case rel => exact ⟨j + 1, by omega, by go_num, HN⟩
        case measure => simp [intOf]; omega
      · have HI : Hid (inB (gi xs j) 0 63 = false) := inB_f (by omega)
        have HN : Hid (fineB xs = false) := decide_eq_false (not_fine hlt hr)
        clear hr
        go_wp2_with (go_at_call 112; refine (l1In_c _ _ _ _).mono ?_; rw [HI.out]; rintro e w' ⟨rfl, rfl⟩)
        go_ret
        exact ⟨ret_bool HN.out.symm, rfl⟩
    · have E2 : xs.take j = xs := List.take_of_length_le (by omega)
      rw [E2] at HF
      have HN : Hid (fineB xs = true) := decide_eq_true HF.out
      go_wp2_with fail
      go_ret
      exact ⟨ret_bool HN.out.symm, rfl⟩

set_option maxHeartbeats 1000000 in
theorem sOrderSets_c (va : Value) (xs : List Int) (w : World) (ha : Rd w va (ints xs)) : Calls Try.prog 40 #[va] w fun e w' => ∃ v, e = .returned v ∧ St w w' [⟨v, 3, ints (ordL xs)⟩] := by
  by_cases h : fineP xs
  · have E : Hid (ordL xs = setsL (mem xs)) := if_pos h
    have HF : Hid (fineB xs = true) := decide_eq_true h
    have H := hid h
    clear h
    go_enter Try.func40, Try.ntmps40
    go_wp2_with (go_at_call 132; refine (l2Fine_c _ xs _ ha).mono ?_; rw [HF.out]; rintro e w' ⟨rfl, rfl⟩)
    refine (l2Order_c _ xs _ ha H.out).mono ?_
    rintro e w1 ⟨v, rfl, hS⟩
    have HS := hid hS
    clear hS
    go_wp2_with fail
    go_ret
    exact ⟨_, rfl, by rw [E.out]; exact HS.out⟩
  · have E : Hid (ordL xs = []) := if_neg h
    have HF : Hid (fineB xs = false) := decide_eq_false h
    have HS := hid ((St.start w).newAt #[] 3 (by simp) (H := w.heap.size) rfl)
    clear h
    go_enter Try.func40, Try.ntmps40
    go_wp2_with (go_at_call 132; refine (l2Fine_c _ xs _ ha).mono ?_; rw [HF.out]; rintro e w' ⟨rfl, rfl⟩)
    go_ret
    exact ⟨_, rfl, by rw [E.out]; exact HS.out⟩

end Go.Proofs.Ytjaofbdfhcgmeaa
