/-
  Euler's number, walked, and the smallest tests of a law.
-/
import Derived.Test.YtjaofbdfhcgmeaaEulS
import Derived.Test.YtjaofbdfhcgmeaaCxLaws
import Derived.Test.YtjaofbdfhcgmeaaEq
import Derived.Test.YtjaofbdfhcgmeaaZDraw
namespace Go.Proofs.Ytjaofbdfhcgmeaa
open Go.RowKit

theorem rdB_of_open {w : World} {a : Addr} {len cap : Nat} {zs : List Int} (hl : len ≤ cap) (hm : cap ≤ maxLen) (hz : len ≤ zs.length) (hcell : ∀ i, i < zs.length → w.cell? (a.add i) = some (.int .u8 (zs.getD i 0))) :
    Rd w (.slice (some a) len cap) (byts (zs.take len)) := by
  have e : (byts (zs.take len)).length = len := by simp; omega
  refine .inr ⟨a, cap, by rw [e], by rw [e]; exact hl, hm, fun j hj => ?_⟩
  rw [e] at hj
  have hc := hcell j (by omega)
  have hadd : a.add j = ⟨a.block, a.off + j, none⟩ := by
    by_cases h0 : j = 0
    · subst h0
      have hs : a.spot = none := by
        have := hcell 0 (by omega)
        simpa [Addr.add] using World.cell?_spot this
      cases a
      simp only at hs
      subst hs
      simp [Addr.add]
    · simp [Addr.add, h0]
  refine ⟨?_, hadd⟩
  rw [← hadd, hc]
  simp [byts, hj, List.getD, show j < zs.length by omega]

theorem facesB_ok (n : Int) (fs : List Int) : (∀ x ∈ facesB n fs, 0 ≤ x ∧ x < 64) ∧ (facesB n fs).length ≤ 448 := by
  unfold facesB
  split
  · exact ⟨fun x hx => by have := mem_setsL.1 hx; exact ⟨this.1, this.2.1⟩, setsL_len _⟩
  · exact ⟨by simp, by simp⟩
set_option maxHeartbeats 2000000 in
set_option maxRecDepth 100000 in
theorem EulerOf_c (n : Int) (va : Value) (fs : List Int) (w : World) (ha : Rd w va (ints fs)) : Calls Try.prog 95 #[cx n va] w fun e w' => e = .returned (.int .i64 (eulB n fs)) ∧ Below w.heap.size w w' := by
  obtain ⟨p1, l1, k1, rfl⟩ := ha.form
  have hS := (St.start w).box n (.slice p1 l1 k1) 30
  have ha' := hS.old ha
  have HS := hid hS
  clear hS
  have hr := facesB_ok n fs
  have E : Hid (eulB n fs = eulL (facesB n fs)) := rfl
  unfold cx
  go_enter Try.func95, Try.ntmps95
  go_wp2_with fail
  refine (sFacesOf_c n _ fs _ ha').mono ?_
  generalize facesB n fs = F at *
  rintro e w1 ⟨u, rfl, hS1⟩
  have hS2 := HS.out.call1 hS1
  have la := hS2.hd.iln tI
  have hrd := hS2.hd
  have HS2 := hid hS2
  obtain ⟨hr1, hr2⟩ := hr
  have HR := hid hr1
  clear hS1 hS2 hr1
  go_wp2_with fail
  go_loop [3, 5] (fun o c => ∃ j : Nat, j ≤ F.length ∧ c = .int .i64 j ∧ o = .int .i64 (eulL (F.take j))) (fun _ c => F.length - (intOf c).toNat)
  case atStart => exact ⟨0, Nat.zero_le _, rfl, by simp [eulL]⟩
  case round =>
    obtain ⟨j, hj, rfl, rfl⟩ := hrel
    by_cases hlt : j < F.length
    · have f1 := hrd.iix tI j hlt
      have f2 := hrd.intCell j hlt
      have hg := HR.out (gi F j) (by rw [gi_eq F j hlt]; exact List.getElem_mem _)
      have hpc := pc_rng (gi F j)
      obtain ⟨c, hc⟩ : ∃ c, pc (gi F j) = c := ⟨_, rfl⟩
      have HC : Hid (∀ w : World, Calls Try.prog 106 #[.int .i64 (gi F j)] w fun e w' => e = .returned (.int .i64 c) ∧ w = w') := fun w => by rw [← hc]; exact l2Size_c _ w hg.1 hg.2
      have hE : eulL (F.take (j + 1)) = eulL (F.take j) + (2 * (c % 2) - 1) := by
        rw [take_succ_gi hlt, eulL_append, ← hc]; simp [eulL, eulC]
      rw [hc] at hpc
      obtain ⟨c0, c6⟩ := hpc
      have hb := eulL_rng (F.take j)
      rw [List.length_take] at hb
      obtain ⟨b0, b1⟩ := hb
      have hb0 : -448 ≤ eulL (F.take j) := by omega
      have hb1 : eulL (F.take j) ≤ 448 := by omega
      have HE := hid hE
      clear hc hE hg b0 b1
      go_wp2_with (go_at_call 106; refine (HC.out _).mono ?_; rintro e w' ⟨rfl, rfl⟩)
      go_round
      case rel => exact ⟨j + 1, by omega, by go_num, by rw [HE.out]; first | rfl | (congr 1; omega)⟩
      case measure => simp [intOf]; omega
    · have e : F.take j = F := List.take_of_length_le (by omega)
      rw [e]
      go_wp2_with fail
      go_ret
      exact ⟨by rw [E.out]; rfl, HS2.out.bel⟩

theorem big_c (vb : Value) (bs : List Int) (w : World) (hb : Rd w vb (byts bs)) : Calls Try.prog 8 #[vb] w fun e w' => e = .returned (.bool (decide (1048576 < (bs.length : Int)))) ∧ w = w' := by
  have la := hb.ln tU
  rw [length_byts] at la
  go_enter Try.func8, Try.ntmps8
  go_wp2_with fail
  go_ret
  exact ⟨ret_bool (by simp), rfl⟩
/-- Two equal lists. -/
theorem same_c (va vb : Value) (xs : List Int) (w : World) (ha : Rd w va (ints xs)) (hb : Rd w vb (ints xs)) : Calls Try.prog 17 #[va, vb] w fun e w' => e = .returned (.bool true) ∧ ∃ m, w' = w.drewN m := by
  have := sameInts_c va vb xs xs w ha hb
  rwa [decide_eq_true rfl] at this

end Go.Proofs.Ytjaofbdfhcgmeaa
