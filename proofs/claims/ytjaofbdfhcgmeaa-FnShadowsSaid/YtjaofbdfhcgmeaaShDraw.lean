/-
  What the law of shadows draws.
-/
import Derived.Test.YtjaofbdfhcgmeaaFaces
import Derived.Test.YtjaofbdfhcgmeaaZDraw
import Derived.Deep.RegionHeld3
namespace Go.Proofs.Ytjaofbdfhcgmeaa
open Go.RowKit

def twoRet (e : Ending) : Prop := ∃ n k, e = .returned (.tuple #[.int .i64 n, .int .i64 k])
set_option maxHeartbeats 1000000 in
set_option maxRecDepth 100000 in
theorem DrawFaceCounts_c (vb : Value) (bs : List Int) (w : World) (hb : Rd w vb (byts bs)) : Calls Try.prog 16 #[vb] w fun e w' => ∃ n v fs, e = .returned (cx n v) ∧ fs.length ≤ 1002 ∧ St w w' [⟨v, 3, ints fs⟩] := by
  have HS := hid ((St.start w).box 0 (.slice none 0 0) 30)
  have HB := hid hb
  clear hb
  go_enter Try.func16, Try.ntmps16
  go_wp2_with fail
  refine (l1New_c vb bs w _ _ HS.out HB.out).mono ?_
  rintro e w1 ⟨g, rfl, hC⟩
  have HC := hid hC
  clear hC
  go_wp2_with fail
  refine (l3Bent_c g vb bs w _ _ HC.out).mono ?_
  rintro e w2 ⟨n, v, fs, rfl, hl, hC1⟩
  obtain ⟨p, l, c, rfl⟩ := hC1.hd.form
  have d0 := hC1.tail.hd.c0
  have d1 := hC1.tail.hd.c1
  have s0 : w2.frozen? ⟨w.heap.size, 0, none⟩ = false := hC1.free (v := bx w.heap.size) (.tail _ (.head _)) 0 (by simp)
  have s1 : w2.frozen? ⟨w.heap.size, 1, none⟩ = false := hC1.free (v := bx w.heap.size) (.tail _ (.head _)) 1 (by simp)
  have HC1 := hid hC1
  clear hC1
  unfold cx
  go_wp2_with fail
  have hC6 := (HC1.out.swap.set 0 (by simp) (.int .i64 n)).set 1 (by simp) (.slice p l c)
  exact bodyPost_ret (ret_cx rfl rfl hC6.hd) rfl ⟨_, _, fs, rfl, hl, hC6.tail.st⟩
set_option maxHeartbeats 1000000 in
set_option maxRecDepth 100000 in
theorem DrawFirstSets_c (vb : Value) (bs : List Int) (w : World) (hb : Rd w vb (byts bs)) : Calls Try.prog 14 #[vb] w fun e w' => twoRet e ∧ Below w.heap.size w w' := by
  have HS := hid (St.start w)
  have HB := hid hb
  clear hb
  have HK := hid (fun n g w1 env h => l1Below_c n g vb bs w w1 env h)
  go_enter Try.func14, Try.ntmps14
  go_wp2_with fail
  refine (l1New_c vb bs w _ _ HS.out HB.out).mono ?_
  rintro e w1 ⟨g, rfl, hC⟩
  have HC := hid hC
  clear hC
  go_wp2_with fail
  refine (HK.out 9 g _ _ HC.out).mono ?_
  rintro e w2 ⟨x, rfl, hx, hC⟩
  obtain ⟨x0, x1⟩ := hx.rng (by omega)
  have HC2 := hid hC
  clear hC hx
  go_wp2_with fail
  refine (HK.out 23 g _ _ HC2.out).mono ?_
  rintro e w3 ⟨y, rfl, hy, hC⟩
  obtain ⟨y0, y1⟩ := hy.rng (by omega)
  have HC3 := hid hC
  clear hC hy
  go_wp2_with fail
  go_ret2
  exact ⟨⟨_, _, rfl⟩, HC3.out.st.bel⟩
set_option maxHeartbeats 1000000 in
set_option maxRecDepth 100000 in
theorem DrawCascadeOf_c (vb : Value) (bs : List Int) (w : World) (hb : Rd w vb (byts bs)) : Calls Try.prog 9 #[vb] w fun e w' => twoRet e ∧ Below w.heap.size w w' := by
  have HS := hid (St.start w)
  have HB := hid hb
  clear hb
  go_enter Try.func9, Try.ntmps9
  go_wp2_with fail
  refine (l1New_c vb bs w _ _ HS.out HB.out).mono ?_
  rintro e w1 ⟨g, rfl, hC⟩
  have HC := hid hC
  clear hC
  go_wp2_with fail
  refine (l1Below_c _ g vb bs w _ _ HC.out).mono ?_
  rintro e w2 ⟨x, rfl, hx, hC⟩
  have HX := hid (hx.rng (by omega))
  have HC2 := hid hC
  clear hC hx
  go_wp2_with fail
  refine (l1Below_c _ g vb bs w _ _ HC2.out).mono ?_
  rintro e w3 ⟨y, rfl, hy, hC⟩
  have HY := hid (hy.rng (by omega))
  have HC3 := hid (hC.newAt #[.int .i64 x, .int .i64 y, .int .i64 1000, .int .i64 1001, .int .i64 (-1), .int .i64 0] 3 (by simp [maxLen]) (H := w3.heap.size) rfl)
  clear hC hy
  go_wp2_with fail
  refine (l1PickInt_c _ [x, y, 1000, 1001, -1, 0] g vb bs w _ _ (.head _) (by simp) HC3.out).mono ?_
  rintro e w4 ⟨m, rfl, hm, hC⟩
  have HC4 := hid hC
  clear hC hm
  go_wp2_with fail
  refine (l1Below_c _ g vb bs w _ _ HC4.out).mono ?_
  rintro e w5 ⟨t, rfl, ht, hC⟩
  have HC5 := hid hC
  clear hC ht
  go_wp2_with fail
  go_ret2
  exact ⟨⟨_, _, rfl⟩, HC5.out.st.bel⟩
set_option maxHeartbeats 2000000 in
set_option maxRecDepth 100000 in
theorem DrawAreFaceCounts_c (vb : Value) (bs : List Int) (w : World) (hb : Rd w vb (byts bs)) : Calls Try.prog 101 #[vb] w fun e w' => ∃ v xs, e = .returned v ∧ xs.length ≤ 7 ∧ St w w' [⟨v, 3, ints xs⟩] := by
  have HS := hid (St.start w)
  have HB := hid hb
  clear hb
  go_enter Try.func101, Try.ntmps101
  go_wp2_with fail
  refine (l1New_c vb bs w _ _ HS.out HB.out).mono ?_
  rintro e w1 ⟨g, rfl, hC⟩
  have HC := hid hC
  clear hC
  go_wp2_with fail
  refine (l3Draw_c g vb bs w _ _ HC.out).mono ?_
  rintro e w2 ⟨n, v, fs, rfl, hl, hC⟩
  have hrd := hC.hd
  have HC2 := hid hC
  clear hC
  go_wp2_with fail
  refine (sFaceCounts_c n _ fs _ hrd).mono ?_
  rintro e w3 ⟨u, rfl, hS⟩
  have HC3 := hid (HC2.out.call1 hS)
  obtain ⟨h, hh⟩ : ∃ h, h = fvB n fs := ⟨_, rfl⟩
  have h7 : h.length ≤ 7 := by rw [hh]; exact fvB_len n fs
  have hR : Hid (∀ j, 0 ≤ gi h j ∧ gi h j ≤ 64) := by rw [hh]; exact fvB_rng n fs
  rw [← hh] at HC3
  have la := HC3.out.hd.iln tI
  clear hS hh hrd
  by_cases h0 : 0 < h.length
  · go_wp2_with fail
    refine (l1Once_c _ g vb bs w _ _ HC3.out).mono ?_
    rintro e w4 ⟨b, rfl, hC⟩
    cases b with
    | false =>
      have HC4 := hid hC
      clear hC
      go_wp2_with fail
      go_ret
      exact ⟨_, h, rfl, h7, HC4.out.st.sub (.cons_cons _ (List.nil_sublist _))⟩
    | true =>
      have HC4 := hid hC
      clear hC
      go_wp2_with fail
      refine (l1Below_c _ g vb bs w _ _ HC4.out).mono ?_
      rintro e w5 ⟨z, rfl, hz, hC⟩
      obtain ⟨z0, z1⟩ := hz.rng (by omega)
      obtain ⟨k, rfl⟩ := Int.eq_ofNat_of_zero_le z0
      have hk : k < h.length := by omega
      have q0 := hC.hd.intCell k hk
      obtain ⟨y0, y1⟩ := hR.out k
      obtain ⟨y, hy⟩ : ∃ y, gi h k = y := ⟨_, rfl⟩
      rw [hy] at q0 y0 y1
      have HY := hid hy
      have HC5 := hid hC
      clear hC hz hy
      obtain ⟨p, l, c, rfl⟩ := HC5.out.hd.form
      have f1 := HC5.out.hd.iix tI k hk
      go_wp2_with fail
      go_region_with
        (first
          | (go_at_call 98; refine (l1Below_c _ g vb bs w _ _ (HC5.out.drewN 1)).mono ?_; rintro e w6 ⟨x, rfl, hx, hC⟩; obtain ⟨x0, x1⟩ := hx.rng (by omega); have e1 : IntKind.i64.wrap (y + x) = y + x := IntWalk.i64_in _ (by omega); have e2 : IntKind.i64.wrap (y + x - 2) = y + x - 2 := IntWalk.i64_in _ (by omega); have q1 := hC.hd.intCell k hk; rw [HY.out] at q1; have f3 := hC.free (.head _) k (by simp; omega); have HC6 := hid hC; clear hC hx))
      all_goals
        go_wp2_with fail
        go_ret
        have hC7 := HC6.out.set k (by simp; omega) (.int .i64 (y + x - 2))
        rw [ints_set] at hC7
        exact ⟨_, _, rfl, by simp; omega, hC7.st.sub (.cons_cons _ (List.nil_sublist _))⟩
  · go_wp2_with fail
    go_ret
    exact ⟨_, h, rfl, h7, HC3.out.st.sub (.cons_cons _ (List.nil_sublist _))⟩

set_option maxHeartbeats 1000000 in
theorem DrawCompressedComplex_c (vb : Value) (bs : List Int) (w : World) (hb : Rd w vb (byts bs)) : Calls Try.prog 11 #[vb] w fun e w' => ∃ v xs, e = .returned v ∧ xs.length ≤ 7 ∧ St w w' [⟨v, 3, ints xs⟩] := by
  have HB := hid hb
  clear hb
  go_enter Try.func11, Try.ntmps11
  go_wp2_with fail
  refine (DrawAreFaceCounts_c vb bs w HB.out).mono ?_
  rintro e w1 ⟨v, xs, rfl, hl, hN⟩
  have HN := hid hN
  clear hN
  go_wp2_with fail
  go_ret
  exact ⟨_, xs, rfl, hl, HN.out⟩

end Go.Proofs.Ytjaofbdfhcgmeaa
