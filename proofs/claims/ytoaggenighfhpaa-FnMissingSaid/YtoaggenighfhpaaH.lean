/-
  h numbers and what is told from them.
-/
import Derived.Test.YtoaggenighfhpaaFaces
import Derived.Test.YtoaggenighfhpaaNum
namespace Go.Proofs.Ytoaggenighfhpaa
open Go.RowKit

theorem binom_fin : ∀ d : Fin 8, ∀ k : Fin 8, 0 ≤ chooseB (d.val : Int) (k.val : Int) ∧ chooseB (d.val : Int) (k.val : Int) ≤ 64 := by decide +kernel
theorem choose_small {d k : Int} (h7 : d ≤ 7) : 0 ≤ chooseB d k ∧ chooseB d k ≤ 64 := by
  by_cases h : 0 ≤ d ∧ 0 ≤ k ∧ k ≤ d
  · have := binom_fin ⟨d.toNat, by omega⟩ ⟨k.toNat, by omega⟩
    simp only [Int.toNat_of_nonneg h.1, Int.toNat_of_nonneg h.2.1] at this
    exact this
  · rw [chooseB, if_neg (by omega)]; omega
/-- The term of place k, of count i. -/
def hTerm (f : List Int) (k i : Nat) : Int := gi f i * chooseB ((f.length : Int) - 1 - (i : Int)) ((k : Int) - (i : Int))
def hSgn (k i : Nat) (x : Int) : Int := if (k - i) % 2 = 1 then -x else x
def hSum (f : List Int) (k : Nat) : Nat → Int
  | 0 => 0
  | i + 1 => hSum f k i + hSgn k i (hTerm f k i)
def hList (f : List Int) (k : Nat) : List Int := (List.range k).map fun j => hSum f j (j + 1)
theorem hList_succ (f : List Int) (k : Nat) : hList f (k + 1) = hList f k ++ [hSum f k (k + 1)] := by simp [hList, List.range_succ]
theorem hList_len (f : List Int) (k : Nat) : (hList f k).length = k := by simp [hList]
theorem hList_gi {f : List Int} {k j : Nat} (h : j < k) : gi (hList f k) j = hSum f j (j + 1) := by simp [gi, hList, List.getD, h]
def SmallF (f : List Int) : Prop := f.length ≤ 7 ∧ ∀ j, 0 ≤ gi f j ∧ gi f j ≤ 64
theorem hTerm_rng {f : List Int} (hf : SmallF f) (k i : Nat) : 0 ≤ hTerm f k i ∧ hTerm f k i ≤ 4096 := by
  have h1 := hf.2 i
  have h2 := choose_small (d := (f.length : Int) - 1 - (i : Int)) (k := (k : Int) - (i : Int)) (by have := hf.1; omega)
  unfold hTerm
  generalize gi f i = a at *
  generalize chooseB ((f.length : Int) - 1 - (i : Int)) ((k : Int) - (i : Int)) = b at *
  constructor
  · exact Int.mul_nonneg h1.1 h2.1
  · have := Int.mul_le_mul h1.2 h2.2 h2.1 (by omega)
    omega
theorem hSum_rng {f : List Int} (hf : SmallF f) (k i : Nat) : -4096 * (i : Int) ≤ hSum f k i ∧ hSum f k i ≤ 4096 * (i : Int) := by
  induction i with
  | zero => simp [hSum]
  | succ i ih =>
    have := hTerm_rng hf k i
    rw [hSum, hSgn]
    split <;> omega
def hB (n : Int) (xs : List Int) : List Int := hList (fvB n xs) (fvB n xs).length
theorem fvB_small (n : Int) (xs : List Int) : SmallF (fvB n xs) := ⟨fvB_len n xs, fvB_rng n xs⟩
theorem hB_len (n : Int) (xs : List Int) : (hB n xs).length ≤ 7 := by rw [hB, hList_len]; exact fvB_len n xs
theorem hB_rng (n : Int) (xs : List Int) (j : Nat) : -28672 ≤ gi (hB n xs) j ∧ gi (hB n xs) j ≤ 28672 := by
  have h7 := fvB_len n xs
  by_cases h : j < (fvB n xs).length
  · rw [hB, hList_gi h]
    have := hSum_rng (fvB_small n xs) j (j + 1)
    omega
  · have : gi (hB n xs) j = 0 := by
      simp only [gi, List.getD]
      rw [List.getElem?_eq_none (by rw [hB, hList_len]; omega)]; rfl
    omega
theorem sgn_t {k i : Nat} (h : (k - i) % 2 = 1) (x : Int) : hSgn k i x = -x := by rw [hSgn, if_pos h]
theorem sgn_f {k i : Nat} (h : (k - i) % 2 ≠ 1) (x : Int) : hSgn k i x = x := by rw [hSgn, if_neg h]

set_option maxHeartbeats 4000000 in
set_option maxRecDepth 100000 in
theorem hOfCounts_c (va : Value) (f : List Int) (w : World) (ha : Rd w va (ints f)) (hf : SmallF f) : Calls Try.prog 56 #[va] w fun e w' => ∃ v, e = .returned v ∧ St w w' [⟨v, 3, ints (hList f f.length)⟩] := by
  have la := ha.iln tI
  have h7 := hf.1
  have HF := hid hf
  clear hf
  go_enter Try.func56, Try.ntmps56
  go_wp2_with fail
  go_loopw [4, 5] (fun o i wr => ∃ (k : Nat) (v : Value), k ≤ f.length ∧ i = .int .i64 k ∧ o = v ∧ St w wr [⟨v, 3, ints (hList f k)⟩]) (fun _ i _ => f.length - (intOf i).toNat)
  case atStart => exact ⟨0, _, Nat.zero_le _, rfl, rfl, (St.start w).nilRow _⟩
  case round =>
    obtain ⟨k, v, hk, rfl, rfl, hS⟩ := hrel
    have HS := hid hS
    have ha1 := hS.old ha
    clear hS
    by_cases hlt : k < f.length
    · have q0 : decide ((k : Int) ≤ (f.length : Int) - 1) = true := decide_eq_true (by omega)
      go_wp2_with fail
      obtain ⟨wo, rfl⟩ : ∃ wo : World, wo = wr := ⟨_, rfl⟩
      go_loopw [6, 7] (fun s i wr => ∃ (t m : Nat), t ≤ k + 1 ∧ i = .int .i64 t ∧ s = .int .i64 (hSum f k t) ∧ wr = wo.drewN m) (fun _ i _ => k + 1 - (intOf i).toNat)
      case atStart => exact ⟨0, 0, Nat.zero_le _, rfl, rfl, rfl⟩
      case round =>
        obtain ⟨t, m, ht, rfl, rfl, hw⟩ := hrel
        have HW := hid hw
        have ha2 : Rd wr va (ints f) := by rw [hw]; exact ha1.drew m
        clear hw
        by_cases hlt3 : t ≤ k
        · have f1 := ha2.iix tI t (by omega)
          have f2 := ha2.intCell t (by omega)
          have g1 : IntKind.i64.wrap ((f.length : Int) - 1 - (t : Int)) = (f.length : Int) - 1 - (t : Int) := IntWalk.i64_in _ (by omega)
          have g2 : IntKind.i64.wrap ((k : Int) - (t : Int)) = (k : Int) - (t : Int) := IntWalk.i64_in _ (by omega)
          obtain ⟨r0, r1⟩ := hTerm_rng HF.out k t
          obtain ⟨s0, s1⟩ := hSum_rng HF.out k t
          have e1 : IntKind.i64.wrap (gi f t * chooseB ((f.length : Int) - 1 - (t : Int)) ((k : Int) - (t : Int))) = hTerm f k t := IntWalk.i64_in (hTerm f k t) (by omega)
          have e1' : wrap64 (gi f t * chooseB ((f.length : Int) - 1 - (t : Int)) ((k : Int) - (t : Int))) = hTerm f k t := IntWalk.wrap64_in (hTerm f k t) (by omega)
          have ES : Hid (hSum f k (t + 1) = hSum f k t + hSgn k t (hTerm f k t)) := rfl
          by_cases hp : (k - t) % 2 = 1
          · have q2 : Int.tmod ((k : Int) - (t : Int)) 2 = 1 := by rw [Int.tmod_eq_emod_of_nonneg (by omega)]; omega
            have EG := hid (sgn_t hp (hTerm f k t))
            clear hp
            go_wp2_with fail
            go_quiet ((go_at_call 16; exact quiet_same (Choose_c _ _ _)))
            clear g1 g2
            go_wp2_with fail
            go_roundw
            case rel => exact ⟨t + 1, m + nq, by omega, by go_num, by rw [ES.out, EG.out], by rw [HW.out, World.drewN_drewN]⟩
            case measure => simp [intOf]; omega
          · have q2 : Int.tmod ((k : Int) - (t : Int)) 2 = 0 := by rw [Int.tmod_eq_emod_of_nonneg (by omega)]; omega
            have EG := hid (sgn_f hp (hTerm f k t))
            clear hp
            go_wp2_with fail
            go_quiet ((go_at_call 16; exact quiet_same (Choose_c _ _ _)))
            clear g1 g2
            go_wp2_with fail
            go_roundw
            case rel => exact ⟨t + 1, m + nq, by omega, by go_num, by rw [ES.out, EG.out], by rw [HW.out, World.drewN_drewN]⟩
            case measure => simp [intOf]; omega
        · have et : t = k + 1 := by omega
          subst et
          have HS2 := HS.out.drewN m
          rw [← HW.out] at HS2
          have E2 := hid (hList_succ f k)
          go_wp2_with (at_builtin; refine wpList_push rfl _ _ rfl tI HS2.own (.int .i64 (hSum f k (k + 1))) rfl (by simp [hList]; omega) rfl rfl ?_)
          intro v2 w2 hO2 hb2
          go_wp2_with fail
          go_roundw
          case rel => exact ⟨k + 1, v2, by omega, by go_num, rfl, by rw [E2.out, ints_append]; exact HS2.mut hO2 hb2⟩
          case measure => simp [intOf]; omega
    · have ek : k = f.length := by omega
      subst ek
      have q0 : decide ((f.length : Int) ≤ (f.length : Int) - 1) = false := decide_eq_false (by omega)
      go_wp2_with fail
      go_ret
      exact ⟨_, rfl, HS.out⟩

set_option maxHeartbeats 1000000 in
theorem HNumbers_c (n : Int) (va : Value) (xs : List Int) (w : World) (ha : Rd w va (ints xs)) : Calls Try.prog 8 #[cx n va] w fun e w' => ∃ v, e = .returned v ∧ St w w' [⟨v, 3, ints (hB n xs)⟩] := by
  obtain ⟨p1, l1, k1, rfl⟩ := ha.form
  have hS := (St.start w).box n (.slice p1 l1 k1) 26
  have ha' := hS.old ha
  have HS := hid hS
  clear hS
  have HF := hid (fvB_small n xs)
  have E : Hid (hB n xs = hList (fvB n xs) (fvB n xs).length) := rfl
  unfold cx
  go_enter Try.func8, Try.ntmps8
  go_wp2_with fail
  refine (FaceCounts_c n _ xs _ ha').mono ?_
  rintro e w1 ⟨v, rfl, hS1⟩
  have HS1 := hid (HS.out.call1 hS1)
  clear hS1
  go_wp2_with fail
  refine (hOfCounts_c _ _ _ HS1.out.hd HF.out).mono ?_
  rintro e w2 ⟨v2, rfl, hS2⟩
  have HS2 := hid (HS1.out.call1 hS2)
  clear hS2
  go_wp2_with fail
  go_ret
  exact ⟨_, rfl, by rw [E.out]; exact HS2.out.sub (.cons_cons _ (List.nil_sublist _))⟩

set_option maxHeartbeats 4000000 in
set_option maxRecDepth 100000 in
theorem sHNumbers_c (n : Int) (va : Value) (xs : List Int) (w : World) (ha : Rd w va (ints xs)) : Calls Try.prog 13 #[cx n va] w fun e w' => ∃ v, e = .returned v ∧ St w w' [⟨v, 3, ints (hB n xs)⟩] := by
  obtain ⟨p1, l1, k1, rfl⟩ := ha.form
  have hS := ((St.start w).box n (.slice p1 l1 k1) 26).newAt #[] 3 (by simp) (H := w.heap.size + 1) (by simp)
  have ha' := hS.old ha
  have HS := hid hS
  clear hS
  have hf := fvB_small n xs
  have h7 := hf.1
  have HF := hid hf
  clear hf
  have E : Hid (hB n xs = hList (fvB n xs) (fvB n xs).length) := rfl
  unfold cx
  go_enter Try.func13, Try.ntmps13
  go_wp2_with fail
  refine (sFaceCounts_c n _ xs _ ha').mono ?_
  generalize fvB n xs = f at *
  rintro e w1 ⟨uf, rfl, hS1⟩
  have HS1 := hid (HS.out.call1 hS1)
  have la := hS1.hd.iln tI
  clear hS1
  go_wp2_with fail
  go_loopw [3, 6] (fun o i wr => ∃ (k : Nat) (v : Value), k ≤ f.length ∧ i = .int .i64 k ∧ o = v ∧ St w wr [⟨v, 3, ints (hList f k)⟩, ⟨uf, 3, ints f⟩]) (fun _ i _ => f.length - (intOf i).toNat)
  case atStart => exact ⟨0, _, Nat.zero_le _, rfl, rfl, HS1.out.swap.sub (.cons_cons _ (.cons_cons _ (List.nil_sublist _)))⟩
  case round =>
    obtain ⟨k, v, hk, rfl, rfl, hS⟩ := hrel
    have HS := hid hS
    have ha1 := hS.hd2
    clear hS
    by_cases hlt : k < f.length
    · have q0 : decide ((k : Int) ≤ (f.length : Int) - 1) = true := decide_eq_true (by omega)
      go_wp2_with fail
      obtain ⟨wo, rfl⟩ : ∃ wo : World, wo = wr := ⟨_, rfl⟩
      go_loopw [7, 8] (fun s i wr => ∃ (t m : Nat), t ≤ k + 1 ∧ i = .int .i64 t ∧ s = .int .i64 (hSum f k t) ∧ wr = wo.drewN m) (fun _ i _ => k + 1 - (intOf i).toNat)
      case atStart => exact ⟨0, 0, Nat.zero_le _, rfl, rfl, rfl⟩
      case round =>
        obtain ⟨t, m, ht, rfl, rfl, hw⟩ := hrel
        have HW := hid hw
        have ha2 : Rd wr uf (ints f) := by rw [hw]; exact ha1.drew m
        clear hw
        by_cases hlt3 : t ≤ k
        · have f1 := ha2.iix tI t (by omega)
          have f2 := ha2.intCell t (by omega)
          have g1 : IntKind.i64.wrap ((f.length : Int) - 1 - (t : Int)) = (f.length : Int) - 1 - (t : Int) := IntWalk.i64_in _ (by omega)
          have g2 : IntKind.i64.wrap ((k : Int) - (t : Int)) = (k : Int) - (t : Int) := IntWalk.i64_in _ (by omega)
          obtain ⟨r0, r1⟩ := hTerm_rng HF.out k t
          obtain ⟨s0, s1⟩ := hSum_rng HF.out k t
          obtain ⟨z0, z1⟩ := HF.out.2 t
          have ES : Hid (hSum f k (t + 1) = hSum f k t + hSgn k t (hTerm f k t)) := rfl
          by_cases hp : (k - t) % 2 = 1
          · have q2 : Int.tmod ((k : Int) - (t : Int)) 2 = 1 := by rw [Int.tmod_eq_emod_of_nonneg (by omega)]; omega
            have e1' : wrap64 (-(gi f t) * chooseB ((f.length : Int) - 1 - (t : Int)) ((k : Int) - (t : Int))) = -hTerm f k t := by
              rw [Int.neg_mul]; exact IntWalk.wrap64_in (-hTerm f k t) (by omega)
            have EG := hid (sgn_t hp (hTerm f k t))
            clear hp
            go_wp2_with fail
            go_quiet ((go_at_call 17; exact quiet_same (sChoose_c _ _ _)))
            clear g1 g2
            go_wp2_with fail
            go_roundw
            case rel => exact ⟨t + 1, m + nq, by omega, by go_num, by rw [ES.out, EG.out], by rw [HW.out, World.drewN_drewN]⟩
            case measure => simp [intOf]; omega
          · have q2 : Int.tmod ((k : Int) - (t : Int)) 2 = 0 := by rw [Int.tmod_eq_emod_of_nonneg (by omega)]; omega
            have e1' : wrap64 (gi f t * chooseB ((f.length : Int) - 1 - (t : Int)) ((k : Int) - (t : Int))) = hTerm f k t := IntWalk.wrap64_in (hTerm f k t) (by omega)
            have EG := hid (sgn_f hp (hTerm f k t))
            clear hp
            go_wp2_with fail
            go_quiet ((go_at_call 17; exact quiet_same (sChoose_c _ _ _)))
            clear g1 g2
            go_wp2_with fail
            go_roundw
            case rel => exact ⟨t + 1, m + nq, by omega, by go_num, by rw [ES.out, EG.out], by rw [HW.out, World.drewN_drewN]⟩
            case measure => simp [intOf]; omega
        · have et : t = k + 1 := by omega
          subst et
          have HS2 := HS.out.drewN m
          rw [← HW.out] at HS2
          have E2 := hid (hList_succ f k)
          go_wp2_with (at_builtin; refine wpList_push rfl _ _ rfl tI HS2.own (.int .i64 (hSum f k (k + 1))) rfl (by simp [hList]; omega) rfl rfl ?_)
          intro v2 w2 hO2 hb2
          go_wp2_with fail
          go_roundw
          case rel => exact ⟨k + 1, v2, by omega, by go_num, rfl, by rw [E2.out, ints_append]; exact HS2.mut hO2 hb2⟩
          case measure => simp [intOf]; omega
    · have ek : k = f.length := by omega
      subst ek
      have q0 : decide ((f.length : Int) ≤ (f.length : Int) - 1) = false := decide_eq_false (by omega)
      go_wp2_with fail
      go_ret
      exact ⟨_, rfl, by rw [E.out]; exact HS.out.sub (.cons_cons _ (List.nil_sublist _))⟩

end Go.Proofs.Ytoaggenighfhpaa
