/-
  Euler's number, walked, and the smallest tests of a law.
-/
import Derived.Test.YtjaofbdfhcgmeaaGreatEulS
import Derived.Test.YtjaofbdfhcgmeaaGreatCxLaws
import Derived.Test.YtjaofbdfhcgmeaaGreatEq
import Derived.Test.YtjaofbdfhcgmeaaGreatZDraw
namespace Go.Proofs.YtjaofbdfhcgmeaaGreat
open Go.RowKit

theorem rdB_of_open {w : World} {a : Addr} {len cap : Nat} {zs : List Int} (hl : len ≤ cap) (hm : cap ≤ maxLen) (hz : len ≤ zs.length) (hcell : ∀ i, i < zs.length → w.cell? (a.add i) = some (.int .u8 (zs.getD i 0))) :
    Rd w (.slice (some a) len cap) (byts (zs.take len)) := by
  have e : (byts (zs.take len)).length = len := by simp; omega
  refine .inr ⟨a, cap, by rw [e], by rw [e]; exact hl, hm, fun j hj => ?_⟩
  rw [e] at hj
  have hc := hcell j (by omega)
  have hadd : a.add j = ⟨a.block, a.off + j, none⟩ := by
    by_cases h0 : j = 0
    · subst h0
      have hs : a.spot = none := by
        have := hcell 0 (by omega)
        simpa [Addr.add] using World.cell?_spot this
      cases a
      simp only at hs
      subst hs
      simp [Addr.add]
    · simp [Addr.add, h0]
  refine ⟨?_, hadd⟩
  rw [← hadd, hc]
  simp [byts, hj, List.getD, show j < zs.length by omega]

theorem facesB_ok (n : Int) (fs : List Int) : (∀ x ∈ facesB n fs, 0 ≤ x ∧ x < 64) ∧ (facesB n fs).length ≤ 448 := by
  unfold facesB
  split
  · exact ⟨fun x hx => by have := mem_setsL.1 hx; exact ⟨this.1, this.2.1⟩, setsL_len _⟩
  · exact ⟨by simp, by simp⟩

theorem big_c (vb : Value) (bs : List Int) (w : World) (hb : Rd w vb (byts bs)) : Calls Tryz.prog 4 #[vb] w fun e w' => e = .returned (.bool (decide (1048576 < (bs.length : Int)))) ∧ w = w' := by
  have la := hb.ln tU
  rw [length_byts] at la
  go_enter Tryz.func4, Tryz.ntmps4
  go_wp2_with fail
  go_ret
  exact ⟨ret_bool (by simp), rfl⟩
/-- Two equal lists. -/
theorem same_c (va vb : Value) (xs : List Int) (w : World) (ha : Rd w va (ints xs)) (hb : Rd w vb (ints xs)) : Calls Tryz.prog 21 #[va, vb] w fun e w' => e = .returned (.bool true) ∧ ∃ m, w' = w.drewN m := by
  have := sameInts_c va vb xs xs w ha hb
  rwa [decide_eq_true rfl] at this

end Go.Proofs.YtjaofbdfhcgmeaaGreat
