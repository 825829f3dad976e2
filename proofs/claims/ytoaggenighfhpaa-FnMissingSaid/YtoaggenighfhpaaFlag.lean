/-
  Flag complexes.
-/
import Derived.Test.YtoaggenighfhpaaFrom
namespace Go.Proofs.Ytoaggenighfhpaa
open Go.RowKit

/-- Every subset of at most two points is a face. -/
def flagP (P : Int → Bool) (s : Int) : Bool := (setsL (subP s)).all fun t => !(decide (pc t ≤ 2) && !P t)
def flagL (n : Int) (xs : List Int) : List Int := maxL (upToP (pw n) (flagP (dn (mem xs))))
theorem flagL_len (n : Int) (xs : List Int) : (flagL n xs).length ≤ 448 := maxL_len _
theorem sub_le_fin : ∀ a b : Fin 64, sub a.val b.val = true → a.val ≤ b.val := by decide +kernel
theorem sub_le {a b : Int} (a0 : 0 ≤ a) (a1 : a < 64) (b0 : 0 ≤ b) (b1 : b < 64) (h : sub a b = true) : a ≤ b := by
  obtain ⟨x, rfl⟩ := fin64 a0 a1
  obtain ⟨y, rfl⟩ := fin64 b0 b1
  have := sub_le_fin x y h
  omega
theorem sub_pc_le {a b : Int} (a0 : 0 ≤ a) (a1 : a < 64) (b0 : 0 ≤ b) (b1 : b < 64) (h : sub a b = true) : pc a ≤ pc b := by
  by_cases e : b = a
  · rw [e]; omega
  · have := sub_pc a0 a1 b0 b1 h e
    omega
def small (M : List Int) : List Int := M.filter fun t => decide (pc t ≤ 2)
theorem flag_law {n : Int} {xs : List Int} (hc : IsC n xs) : fromL n (small (missB n xs)) = flagL n xs := by
  have n0 : 0 ≤ n := by have := hc.1; omega
  have n6 := hc.2.1
  have h64 := pw_rng n0 n6
  have hM : ∀ m, m ∈ missB n xs ↔ 0 ≤ m ∧ m < 64 ∧ minP (upToP (pw n) (notP (dn (mem xs)))) m = true := fun m => by rw [missB, if_pos hc]; exact mem_setsL
  have up : ∀ m, upToP (pw n) (notP (dn (mem xs))) m = true ↔ m < pw n ∧ dn (mem xs) m = false := fun m => by simp [upToP, notP]
  refine maxL_congr fun s s0 s1 => ?_
  unfold upToP
  by_cases hs : s < pw n
  · have ds : decide (s < pw n) = true := by simp [hs]
    rw [ds, Bool.true_and, Bool.true_and]
    refine bool_ext ?_
    rw [avoidP, Bool.not_eq_true', ← Bool.not_eq_true, List.any_eq_true, flagP, List.all_eq_true]
    constructor
    · intro h t ht
      obtain ⟨t0, t1, ts⟩ := mem_setsL.1 ht
      cases hp : (decide (pc t ≤ 2) && !dn (mem xs) t) with
      | false => rfl
      | true =>
        simp only [Bool.and_eq_true, decide_eq_true_eq, Bool.not_eq_true'] at hp
        have htn : t < pw n := by have := sub_le t0 t1 s0 s1 ts; omega
        obtain ⟨m, m0, m1, mm, ms⟩ := exists_min (P := upToP (pw n) (notP (dn (mem xs)))) t0 t1 ((up t).2 ⟨htn, hp.2⟩)
        exact absurd ⟨m, List.mem_filter.2 ⟨(hM m).2 ⟨m0, m1, mm⟩, by have := sub_pc_le m0 m1 t0 t1 ms; simp; omega⟩, sub_trans ms ts⟩ h
    · rintro h ⟨m, hm, ms⟩
      obtain ⟨h1, h2⟩ := List.mem_filter.1 hm
      obtain ⟨m0, m1, mm⟩ := (hM m).1 h1
      have := h m (mem_setsL.2 ⟨m0, m1, ms⟩)
      rw [h2, ((up m).1 (minP_iff.1 mm).1).2] at this
      cases this
  · have ds : decide (s < pw n) = false := by simp [hs]
    rw [ds, Bool.false_and, Bool.false_and]

set_option maxHeartbeats 1000000 in
theorem SubsetsOf_c (s : Int) (w : World) (s0 : 0 ≤ s) (s1 : s < 64) : Calls Try.prog 83 #[.int .i64 s] w fun e w' => ∃ v, e = .returned v ∧ St w w' [⟨v, 3, ints (setsL (subP s))⟩] := by
  have i1 : isSetB 6 s = true := by rw [isSet6]; exact set64_iff.2 ⟨s0, s1⟩
  go_enter Try.func83, Try.ntmps83
  go_wp2_with (first | (go_at_call 113; refine (IsSet_c _ _ _).mono ?_; rintro e w' ⟨rfl, rfl⟩) | (go_at_call 112; refine (subsetFamily_c _ _ s0 s1).mono ?_; rintro e w' ⟨rfl, rfl⟩))
  refine (setsIn_c (subP s) _).mono ?_
  rintro e w1 ⟨v, rfl, hS⟩
  have HS := hid hS
  clear hS
  go_wp2_with fail
  go_ret
  exact ⟨v, rfl, HS.out⟩
set_option maxHeartbeats 2000000 in
theorem flag1_c (b : Nat) (P : Int → Bool) (s : Int) (w : World) (hc : w.cell? ⟨b, 0, none⟩ = some (.int .u64 (fam P))) (s0 : 0 ≤ s) (s1 : s < 64) : Calls Try.prog 82 #[.int .i64 s, .pointer (some ⟨b, 0, none⟩)] w fun e w' => e = .returned (.bool (flagP P s)) ∧ Below w.heap.size w w' := by
  have HR : Hid (∀ k, k < (setsL (subP s)).length → 0 ≤ gi (setsL (subP s)) k ∧ gi (setsL (subP s)) k < 64 ∧ subP s (gi (setsL (subP s)) k) = true) := fun k hk => setsL_rng hk
  have HF : Hid (flagP P s = (setsL (subP s)).all fun t => !(decide (pc t ≤ 2) && !P t)) := rfl
  have hl := setsL_len (subP s)
  go_enter Try.func82, Try.ntmps82
  go_wp2_with fail
  refine (SubsetsOf_c s _ s0 s1).mono ?_
  rintro e w1 ⟨v, rfl, hS⟩
  generalize setsL (subP s) = A at *
  have HS := hid hS
  have la := hS.hd.iln tI
  have hc1 : w1.cell? ⟨b, 0, none⟩ = some (.int .u64 (fam P)) := (hS.bel.cell (World.block_lt_of_cell? _ _ hc)).trans hc
  clear hS
  go_wp2_with fail
  go_loop [9] (fun i => ∃ (j : Nat), j ≤ A.length ∧ i = .int .i64 j ∧ Hid (∀ t, t < j → (decide (pc (gi A t) ≤ 2) && !P (gi A t)) = false)) (fun i => A.length - (intOf i).toNat)
  case atStart => exact ⟨0, by omega, rfl, fun t h => by omega⟩
  case round =>
    obtain ⟨j, hj, rfl, hN⟩ := hrel
    by_cases hlt : j < A.length
    · have f1 := HS.out.hd.iix tI j hlt
      have f2 := HS.out.hd.intCell j hlt
      obtain ⟨r0, r1, _⟩ := HR.out j hlt
      by_cases hq : pc (gi A j) ≤ 2
      · cases hp : P (gi A j) with
        | true =>
          have N2 : Hid (∀ t, t < j + 1 → (decide (pc (gi A t) ≤ 2) && !P (gi A t)) = false) := by
            intro t ht
            by_cases e : t = j
            · subst e; rw [hp]; simp
            · exact hN.out t (by omega)
          go_wp2_with (first | (go_at_call 84; refine (SizeOf_s _ _ r0 r1).mono ?_; rintro e w' ⟨rfl, rfl⟩) | (go_at_call 85; refine (hasSet_c P _ _ r0 r1).mono ?_; rintro e w' ⟨rfl, rfl⟩))
          go_round
          case rel => exact ⟨j + 1, by omega, by go_num, N2⟩
          case measure => simp [intOf]; omega
        | false =>
          have E : Hid (flagP P s = false) := by
            show _ = _
            rw [HF.out, ← Bool.not_eq_true, List.all_eq_true]
            intro h
            have := h _ (gi_mem hlt)
            rw [hp] at this
            simp [hq] at this
          go_wp2_with (first | (go_at_call 84; refine (SizeOf_s _ _ r0 r1).mono ?_; rintro e w' ⟨rfl, rfl⟩) | (go_at_call 85; refine (hasSet_c P _ _ r0 r1).mono ?_; rintro e w' ⟨rfl, rfl⟩))
          go_ret
          exact ⟨ret_bool E.out.symm, HS.out.bel⟩
      · have N2 : Hid (∀ t, t < j + 1 → (decide (pc (gi A t) ≤ 2) && !P (gi A t)) = false) := by
          intro t ht
          by_cases e : t = j
          · subst e; simp [hq]
          · exact hN.out t (by omega)
        go_wp2_with (first | (go_at_call 84; refine (SizeOf_s _ _ r0 r1).mono ?_; rintro e w' ⟨rfl, rfl⟩))
        go_round
        case rel => exact ⟨j + 1, by omega, by go_num, N2⟩
        case measure => simp [intOf]; omega
    · have E : Hid (flagP P s = true) := by
        show _ = _
        rw [HF.out, List.all_eq_true]
        intro t ht
        obtain ⟨i, hi, rfl⟩ := mem_gi ht
        rw [hN.out i (by omega)]
        rfl
      go_wp2_with fail
      go_ret
      exact ⟨ret_bool E.out.symm, HS.out.bel⟩

end Go.Proofs.Ytoaggenighfhpaa
