/-
  The walks over families of sets: of the program by bits of a number, of the reference by tables.
-/
import Derived.Test.YtjaofbdfhcgmeaaGreatFam
namespace Go.Proofs.YtjaofbdfhcgmeaaGreat
open Go.RowKit

set_option maxHeartbeats 1000000 in
theorem hasSet_c (P : Int → Bool) (s : Int) (w : World) (h0 : 0 ≤ s) (h1 : s < 64) : Calls Tryz.prog 114 #[.int .u64 (fam P), .int .i64 s] w fun e w' => e = .returned (.bool (P s)) ∧ w = w' := by
  obtain ⟨r0, r1⟩ := fam_rng P
  go_enter Tryz.func114, Tryz.ntmps114
  go_wp2_with fail
  go_ret
  exact ⟨ret_bool (fam_has P h0 h1), rfl⟩


theorem next_fin : ∀ s t : Fin 64, sub t.val s.val = true → t.val ≠ 0 →
    0 ≤ bits .and .i64 ((t.val : Int) - 1) s.val ∧ bits .and .i64 ((t.val : Int) - 1) s.val < t.val ∧ sub (bits .and .i64 ((t.val : Int) - 1) s.val) s.val = true ∧
    ∀ u : Fin 64, sub u.val s.val = true → (decide ((u.val : Int) > bits .and .i64 ((t.val : Int) - 1) s.val)) = (decide ((u.val : Int) > t.val) || (u.val : Int) == t.val) := by decide +kernel
/-- The subsets of s behind t. -/
def subGt (s t : Int) (u : Int) : Bool := sub u s && decide (u > t)
set_option maxHeartbeats 1000000 in
theorem subsetFamily_c (s : Int) (w : World) (h0 : 0 ≤ s) (h1 : s < 64) : Calls Tryz.prog 95 #[.int .i64 s] w fun e w' => e = .returned (.int .u64 (fam (subP s))) ∧ w = w' := by
  go_enter Tryz.func95, Tryz.ntmps95
  go_wp2_with fail
  go_loop [3, 4] (fun f i => ∃ (t : Int), 0 ≤ t ∧ t < 64 ∧ Hid (sub t s = true) ∧ i = .int .i64 t ∧ f = .int .u64 (fam (subGt s t))) (fun _ i => (intOf i).toNat)
  case atStart => exact ⟨s, h0, h1, sub_refl s, rfl, by
    rw [fam_none']
    intro u u0 u1
    show (sub u s && decide (u > s)) = false
    cases hu : sub u s with
    | false => rfl
    | true =>
      obtain ⟨a, rfl⟩ := fin64 h0 h1
      obtain ⟨b, rfl⟩ := fin64 u0 u1
      have : ∀ a b : Fin 64, sub b.val a.val = true → (true && decide ((b.val : Int) > a.val)) = false := by decide +kernel
      exact this a b hu⟩
  case round =>
    obtain ⟨t, t0, t1, hs, rfl, rfl⟩ := hrel
    by_cases hz : t = 0
    · subst hz
      have E : Hid (bits .or .u64 (fam (subGt s 0)) 1 = fam (subP s)) := by
        show _ = _
        have h := fam_add (subGt s 0) (s := 0) (by omega) (by omega)
        rw [show IntKind.u64.wrap (2 ^ (0 : Int).toNat) = 1 by decide] at h
        rw [h]
        refine fam_congr fun u u0 u1 => ?_
        show (sub u s && decide (u > 0) || u == 0) = sub u s
        by_cases hu : u = 0
        · subst hu; simpa using hs.out.symm
        · have : decide (u > 0) = true := by simp; omega
          simp [hu, this]
      go_wp2_with fail
      go_ret
      exact ⟨ret_u64 E.out, rfl⟩
    · have hz' : (t == 0) = false := by simp [hz]
      obtain ⟨a, ha⟩ := fin64 h0 h1
      obtain ⟨b, hb⟩ := fin64 t0 t1
      have hn := next_fin a b (by rw [ha, hb]; exact hs.out) (by omega)
      rw [ha, hb] at hn
      obtain ⟨n0, n1, n2, n3⟩ := hn
      have N2 := hid n2
      have w1 : IntKind.i64.wrap (t - 1) = t - 1 := IntWalk.i64_in _ (by omega)
      have E : Hid (bits .or .u64 (fam (subGt s t)) (IntKind.u64.wrap (2 ^ t.toNat)) = fam (subGt s (bits .and .i64 (t - 1) s))) := by
        show _ = _
        rw [fam_add _ (by omega) (by omega)]
        refine fam_congr fun u u0 u1 => ?_
        show (sub u s && decide (u > t) || u == t) = (sub u s && decide (u > bits .and .i64 (t - 1) s))
        cases hu : sub u s with
        | false =>
          by_cases e : u = t
          · subst e; rw [hs.out] at hu; cases hu
          · simp [e]
        | true =>
          obtain ⟨c, rfl⟩ := fin64 u0 u1
          rw [n3 c hu]
          simp
      clear n2 n3 ha hb hz
      go_wp2_with fail
      go_round
      case rel => exact ⟨_, n0, by omega, N2, rfl, by rw [← E.out]⟩
      case measure => simp [intOf]; omega




end Go.Proofs.YtjaofbdfhcgmeaaGreat
