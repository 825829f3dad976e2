/-
  Complexes under new names.
-/
import Derived.Test.YtjaofbdfhcgmeaaGreatSort
import Derived.Test.YtjaofbdfhcgmeaaGreatOf
namespace Go.Proofs.YtjaofbdfhcgmeaaGreat
open Go.RowKit

theorem isC_le {n : Int} {xs : List Int} (h : IsC n xs) : xs.length ≤ 448 := by
  have e : setsL (mem xs) = xs := setsL_mem h.rng h.2.2.2.1
  rw [← e]; exact setsL_len _
def renB (n : Int) (fs xs : List Int) : Bool := isC n fs && namesB n xs

set_option maxHeartbeats 2000000 in
theorem l9Complex_c (n m : Int) (va vn : Value) (fs xs : List Int) (w : World) (ha : Rd w va (ints fs)) (hn : Rd w vn (ints xs)) (hN : Names m xs) (hf : ∀ x ∈ fs, 0 ≤ x ∧ x < 64) (hl : fs.length ≤ 1000) :
    Calls Tryz.prog 39 #[cx n va, vn] w fun e w' => ∃ v, e = .returned (cx n v) ∧ St w w' [⟨v, 3, ints (rnL fs xs)⟩] := by
  obtain ⟨p1, l1, k1, rfl⟩ := ha.form
  have la := ha.iln tI
  have hS := ((St.start w).box n (.slice p1 l1 k1) 26).boxAt 0 (.slice none 0 0) 26 (H := w.heap.size + 1) (by simp)
  have HS := hid hS
  clear hS
  have HR := hid (rnM_rng (fs := fs) hN)
  have hl6 : xs.length ≤ 6 := by have := hN.2.1; have := hN.2.2.1; omega
  have HX := hid (names_gi hN)
  have HD := hid hN.2.2.2.2
  have HF := hid hf
  clear hN hf
  unfold cx
  go_enter Tryz.func39, Tryz.ntmps39
  go_wp2_with fail
  go_loopw [5, 6] (fun o i wr => ∃ (j : Nat) (u : Value), j ≤ fs.length ∧ i = .int .i64 j ∧ o = u ∧ St w wr [⟨u, 3, ints (rnM (fs.take j) xs)⟩, ⟨bx (w.heap.size + 1), 26, [.int .i64 0, .slice none 0 0]⟩, ⟨bx w.heap.size, 26, [.int .i64 n, .slice p1 l1 k1]⟩]) (fun _ i _ => fs.length - (intOf i).toNat)
  case atStart => exact ⟨0, _, Nat.zero_le _, rfl, rfl, HS.out.newAt #[] _ (by simp) (by simp)⟩
  case round =>
    obtain ⟨j, u, hj, rfl, ho, hS⟩ := hrel
    have ho' := ho.symm
    subst ho'
    have HS2 := hid hS
    have c0 := hS.hd3.c0
    have c1 := hS.hd3.c1
    by_cases hlt : j < fs.length
    · have ha' := hS.old ha
      have hn' := hS.old hn
      have f1 := ha'.iix tI j hlt
      have f2 := ha'.intCell j hlt
      obtain ⟨s0, s1⟩ := gi_rng HF.out hlt
      have E2 := hid (rnM_succ (xs := xs) hlt)
      have hlm : (ints (rnM (fs.take j) xs)).length ≤ 1000 := by simp [rnM]; omega
      have HC : Hid (∀ w, Rd w vn (ints xs) → Calls Tryz.prog 45 #[.int .i64 (gi fs j), vn] w fun e w' => e = .returned (.int .i64 (rnB (gi fs j) xs)) ∧ w = w') := fun w h => l9Set_c _ vn xs w h s0 s1 hl6 HX.out HD.out
      clear hS
      go_wp2_with (first | (go_at_call 45; refine (HC.out _ hn').mono ?_; rintro e w' ⟨rfl, rfl⟩) | (at_builtin; refine wpList_push rfl _ _ rfl tI HS2.out.own (.int .i64 (rnB (gi fs j) xs)) rfl (by omega) rfl rfl ?_))
      intro v2 w2 hO2 hb2
      rw [ints_snoc, ← E2.out] at hO2
      have hS2 := hid (HS2.out.mut hO2 hb2)
      clear hO2 hb2
      go_wp2_with fail
      go_roundw
      case rel => exact ⟨j + 1, v2, by omega, by go_num, rfl, hS2.out⟩
      case measure => simp [intOf]; omega
    · have e : j = fs.length := by omega
      subst e
      have hS3 := hS
      rw [List.take_length] at hS3
      have HS3 := hid hS3
      clear hS hS3 HS2
      go_wp2_with fail
      go_region_with (go_at_call 72; refine (l2Order_c _ _ _ (HS3.out.hd.drew 1) HR.out).mono ?_; rintro e w2 ⟨v2, rfl, hS4⟩; have hS5 := (HS3.out.drewN 1).call1 hS4; obtain ⟨p, l, c, rfl⟩ := hS5.hd.form; have k0 := hS5.hd4.c0; have k2 := hS5.hd3.c0; have k3 := hS5.hd3.c1; have s0 : w2.frozen? ⟨w.heap.size + 1, 0, none⟩ = false := hS5.own.free (v := bx (w.heap.size + 1)) (.tail _ (.tail _ (.head _))) 0 (by simp); have s1 : w2.frozen? ⟨w.heap.size + 1, 1, none⟩ = false := hS5.own.free (v := bx (w.heap.size + 1)) (.tail _ (.tail _ (.head _))) 1 (by simp); have HS5 := hid hS5; clear hS5 hS4)
      all_goals
        go_wp2_with fail
        have hS6 := ((HS5.out.bring (l1 := [_, _])).set 0 (by simp) (.int .i64 n)).set 1 (by simp) (.slice p l c)
        exact bodyPost_ret (ret_cx rfl rfl hS6.hd) rfl ⟨_, rfl, hS6.sub (.cons _ (.cons_cons _ (.cons _ (.cons _ .slnil))))⟩

set_option maxHeartbeats 1000000 in
theorem RenameComplex_no (n : Int) (va vn : Value) (fs xs : List Int) (w : World) (ha : Rd w va (ints fs)) (h1 : isC n fs = false) : Calls Tryz.prog 6 #[cx n va, vn] w fun e w' =>
    ∃ v, e = .returned (.tuple #[cx (resN (renB n fs xs) n) v, .bool (renB n fs xs)]) ∧ St w w' [⟨v, 3, ints (resL (renB n fs xs) (rnL fs xs))⟩] := by
  obtain ⟨p1, l1, k1, rfl⟩ := ha.form
  have hS := ((St.start w).box n (.slice p1 l1 k1) 26).boxAt 0 (.slice none 0 0) 26 (H := w.heap.size + 1) (by simp)
  have ha' := hS.old ha
  have HS := hid hS
  clear hS
  have E : renB n fs xs = false := by rw [renB, h1]; rfl
  rw [E]
  clear E
  unfold cx
  go_enter Tryz.func6, Tryz.ntmps6
  go_wp2_with fail
  refine (IsComplex_c n _ fs _ ha').mono ?_
  rw [h1]
  rintro e w1 ⟨rfl, hB⟩
  have HS1 := hid (HS.out.quiet hB)
  have d0 := HS1.out.hd.c0
  have d1 := HS1.out.hd.c1
  have s0 : w1.frozen? ⟨w.heap.size + 1, 0, none⟩ = false := HS1.out.own.free (v := bx (w.heap.size + 1)) (.head _) 0 (by simp)
  have s1 : w1.frozen? ⟨w.heap.size + 1, 1, none⟩ = false := HS1.out.own.free (v := bx (w.heap.size + 1)) (.head _) 1 (by simp)
  clear hB
  go_wp2_with fail
  have hS6 := (HS1.out.set 0 (by simp) (.int .i64 0)).set 1 (by simp) (.slice none 0 0)
  exact bodyPost_ret (ret_cx2 rfl rfl rfl hS6.hd) rfl ⟨.slice none 0 0, rfl, (hS6.sub (.cons _ (.cons _ .slnil))).nilRow _⟩

set_option maxHeartbeats 1000000 in
theorem sRenameComplex_no (n : Int) (va vn : Value) (fs xs : List Int) (w : World) (ha : Rd w va (ints fs)) (h1 : isC n fs = false) : Calls Tryz.prog 7 #[cx n va, vn] w fun e w' =>
    ∃ v, e = .returned (.tuple #[cx (resN (renB n fs xs) n) v, .bool (renB n fs xs)]) ∧ St w w' [⟨v, 3, ints (resL (renB n fs xs) (rnL fs xs))⟩] := by
  obtain ⟨p1, l1, k1, rfl⟩ := ha.form
  have hS := ((St.start w).box n (.slice p1 l1 k1) 26).boxAt 0 (.slice none 0 0) 26 (H := w.heap.size + 1) (by simp)
  have ha' := hS.old ha
  have HS := hid hS
  clear hS
  have E : renB n fs xs = false := by rw [renB, h1]; rfl
  rw [E]
  clear E
  unfold cx
  go_enter Tryz.func7, Tryz.ntmps7
  go_wp2_with fail
  refine (sIsComplex_c n _ fs _ ha').mono ?_
  rw [h1]
  rintro e w1 ⟨rfl, hB⟩
  have HS1 := hid (HS.out.quiet hB)
  have d0 := HS1.out.hd.c0
  have d1 := HS1.out.hd.c1
  have s0 : w1.frozen? ⟨w.heap.size + 1, 0, none⟩ = false := HS1.out.own.free (v := bx (w.heap.size + 1)) (.head _) 0 (by simp)
  have s1 : w1.frozen? ⟨w.heap.size + 1, 1, none⟩ = false := HS1.out.own.free (v := bx (w.heap.size + 1)) (.head _) 1 (by simp)
  clear hB
  go_wp2_with fail
  have hS6 := (HS1.out.set 0 (by simp) (.int .i64 0)).set 1 (by simp) (.slice none 0 0)
  exact bodyPost_ret (ret_cx2 rfl rfl rfl hS6.hd) rfl ⟨.slice none 0 0, rfl, (hS6.sub (.cons _ (.cons _ .slnil))).nilRow _⟩


set_option maxHeartbeats 2000000 in
theorem RenameComplex_c (n : Int) (va vn : Value) (fs xs : List Int) (w : World) (ha : Rd w va (ints fs)) (hn : Rd w vn (ints xs)) : Calls Tryz.prog 6 #[cx n va, vn] w fun e w' =>
    ∃ v, e = .returned (.tuple #[cx (resN (renB n fs xs) n) v, .bool (renB n fs xs)]) ∧ St w w' [⟨v, 3, ints (resL (renB n fs xs) (rnL fs xs))⟩] := by
  cases h1 : isC n fs with
  | false => exact RenameComplex_no n va vn fs xs w ha h1
  | true =>
    obtain ⟨p1, l1, k1, rfl⟩ := ha.form
    have hS := ((St.start w).box n (.slice p1 l1 k1) 26).boxAt 0 (.slice none 0 0) 26 (H := w.heap.size + 1) (by simp)
    have ha' := hS.old ha
    have HS := hid hS
    clear hS
    have hc := isC_iff.1 h1
    have hle : fs.length ≤ 1000 := by have := isC_le hc; omega
    have HC := hid hc
    clear hc
    cases h2 : namesB n xs with
    | false =>
      have E : renB n fs xs = false := by rw [renB, h1, h2]; rfl
      rw [E]
      clear E
      unfold cx
      go_enter Tryz.func6, Tryz.ntmps6
      go_wp2_with fail
      refine (IsComplex_c n _ fs _ ha').mono ?_
      rw [h1]
      rintro e w1 ⟨rfl, hB⟩
      have HS1 := hid (HS.out.quiet hB)
      have d0 := HS1.out.hd.c0
      have d1 := HS1.out.hd.c1
      have e0 := HS1.out.hd2.c0
      have e1 := HS1.out.hd2.c1
      have s0 : w1.frozen? ⟨w.heap.size + 1, 0, none⟩ = false := HS1.out.own.free (v := bx (w.heap.size + 1)) (.head _) 0 (by simp)
      have s1 : w1.frozen? ⟨w.heap.size + 1, 1, none⟩ = false := HS1.out.own.free (v := bx (w.heap.size + 1)) (.head _) 1 (by simp)
      have hn1 := HS1.out.old hn
      clear hB
      go_wp2_with (go_at_call 36; refine (areNames_c _ _ _ _ hn1).mono ?_; rw [h2]; rintro e w' ⟨rfl, rfl⟩)
      have hS6 := (HS1.out.set 0 (by simp) (.int .i64 0)).set 1 (by simp) (.slice none 0 0)
      exact bodyPost_ret (ret_cx2 rfl rfl rfl hS6.hd) rfl ⟨.slice none 0 0, rfl, (hS6.sub (.cons _ (.cons _ .slnil))).nilRow _⟩
    | true =>
      have HN := hid (namesB_iff.1 h2)
      have E : renB n fs xs = true := by rw [renB, h1, h2]; rfl
      rw [E]
      clear E
      unfold cx
      go_enter Tryz.func6, Tryz.ntmps6
      go_wp2_with fail
      refine (IsComplex_c n _ fs _ ha').mono ?_
      rw [h1]
      rintro e w1 ⟨rfl, hB⟩
      have HS1 := hid (HS.out.quiet hB)
      have d0 := HS1.out.hd.c0
      have d1 := HS1.out.hd.c1
      have e0 := HS1.out.hd2.c0
      have e1 := HS1.out.hd2.c1
      have hn1 := HS1.out.old hn
      have ha1 := HS1.out.old ha
      clear hB
      go_wp2_with (go_at_call 36; refine (areNames_c _ _ _ _ hn1).mono ?_; rw [h2]; rintro e w' ⟨rfl, rfl⟩)
      go_region_with (go_at_call 37; refine (renamedFacets_c n _ _ fs xs _ (ha1.drew 1) (hn1.drew 1) HN.out HC.out.2.2.1 (bef_nodup HC.out.2.2.2.1) hle).mono ?_; rintro e w2 ⟨v2, rfl, hS4⟩; have hS5 := (HS1.out.drewN 1).call1 hS4; obtain ⟨p, l, c, rfl⟩ := hS5.hd.form; have k0 := hS5.hd3.c0; have k2 := hS5.hd2.c0; have k3 := hS5.hd2.c1; have s0 : w2.frozen? ⟨w.heap.size + 1, 0, none⟩ = false := hS5.own.free (v := bx (w.heap.size + 1)) (.tail _ (.head _)) 0 (by simp); have s1 : w2.frozen? ⟨w.heap.size + 1, 1, none⟩ = false := hS5.own.free (v := bx (w.heap.size + 1)) (.tail _ (.head _)) 1 (by simp); have HS5 := hid hS5; clear hS5 hS4)
      all_goals
        go_wp2_with fail
        have hS6 := (HS5.out.swap.set 0 (by simp) (.int .i64 n)).set 1 (by simp) (.slice p l c)
        exact bodyPost_ret (ret_cx2 rfl rfl rfl hS6.hd) rfl ⟨_, rfl, hS6.sub (.cons _ (.cons_cons _ (.cons _ .slnil)))⟩

set_option maxHeartbeats 2000000 in
theorem sRenameComplex_c (n : Int) (va vn : Value) (fs xs : List Int) (w : World) (ha : Rd w va (ints fs)) (hn : Rd w vn (ints xs)) : Calls Tryz.prog 7 #[cx n va, vn] w fun e w' =>
    ∃ v, e = .returned (.tuple #[cx (resN (renB n fs xs) n) v, .bool (renB n fs xs)]) ∧ St w w' [⟨v, 3, ints (resL (renB n fs xs) (rnL fs xs))⟩] := by
  cases h1 : isC n fs with
  | false => exact sRenameComplex_no n va vn fs xs w ha h1
  | true =>
    obtain ⟨p1, l1, k1, rfl⟩ := ha.form
    have hS := ((St.start w).box n (.slice p1 l1 k1) 26).boxAt 0 (.slice none 0 0) 26 (H := w.heap.size + 1) (by simp)
    have ha' := hS.old ha
    have HS := hid hS
    clear hS
    have hc := isC_iff.1 h1
    have hle : fs.length ≤ 1000 := by have := isC_le hc; omega
    have n1 := hc.1
    have n6 := hc.2.1
    have HC := hid hc
    clear hc
    cases h2 : namesB n xs with
    | false =>
      have E : renB n fs xs = false := by rw [renB, h1, h2]; rfl
      rw [E]
      clear E
      unfold cx
      go_enter Tryz.func7, Tryz.ntmps7
      go_wp2_with fail
      refine (sIsComplex_c n _ fs _ ha').mono ?_
      rw [h1]
      rintro e w1 ⟨rfl, hB⟩
      have HS1 := hid (HS.out.quiet hB)
      have e0 := HS1.out.hd2.c0
      have e1 := HS1.out.hd2.c1
      have hn1 := HS1.out.old hn
      clear hB
      go_wp2_with fail
      refine (l9Names_c n _ xs _ hn1 (by omega) (by omega)).mono ?_
      rw [h2]
      rintro e _ ⟨rfl, q, rfl⟩
      have HS2 := hid (HS1.out.drewN q)
      clear HS1
      have d0 := HS2.out.hd.c0
      have d1 := HS2.out.hd.c1
      have s0 : (w1.drewN q).frozen? ⟨w.heap.size + 1, 0, none⟩ = false := HS2.out.own.free (v := bx (w.heap.size + 1)) (.head _) 0 (by simp)
      have s1 : (w1.drewN q).frozen? ⟨w.heap.size + 1, 1, none⟩ = false := HS2.out.own.free (v := bx (w.heap.size + 1)) (.head _) 1 (by simp)
      go_wp2_with fail
      have hS6 := (HS2.out.set 0 (by simp) (.int .i64 0)).set 1 (by simp) (.slice none 0 0)
      exact bodyPost_ret (ret_cx2 rfl rfl rfl hS6.hd) rfl ⟨.slice none 0 0, rfl, (hS6.sub (.cons _ (.cons _ .slnil))).nilRow _⟩
    | true =>
      have HN := hid (namesB_iff.1 h2)
      have E : renB n fs xs = true := by rw [renB, h1, h2]; rfl
      rw [E]
      clear E
      unfold cx
      go_enter Tryz.func7, Tryz.ntmps7
      go_wp2_with fail
      refine (sIsComplex_c n _ fs _ ha').mono ?_
      rw [h1]
      rintro e w1 ⟨rfl, hB⟩
      have HS1 := hid (HS.out.quiet hB)
      have e0 := HS1.out.hd2.c0
      have e1 := HS1.out.hd2.c1
      have hn1 := HS1.out.old hn
      clear hB
      go_wp2_with fail
      refine (l9Names_c n _ xs _ hn1 (by omega) (by omega)).mono ?_
      rw [h2]
      rintro e _ ⟨rfl, q, rfl⟩
      have HS2 := hid (HS1.out.drewN q)
      clear HS1 e0 e1
      have e0 := HS2.out.hd2.c0
      have e1 := HS2.out.hd2.c1
      have hn2 := HS2.out.old hn
      have ha2 := HS2.out.old ha
      go_wp2_with fail
      refine (l9Complex_c n n _ _ fs xs _ ha2 hn2 HN.out HC.out.rng hle).mono ?_
      rintro e w2 ⟨v2, rfl, hS4⟩
      have hS5 := HS2.out.call1 hS4
      obtain ⟨p, l, c, rfl⟩ := hS5.hd.form
      have d0 := hS5.hd2.c0
      have d1 := hS5.hd2.c1
      have s0 : w2.frozen? ⟨w.heap.size + 1, 0, none⟩ = false := hS5.own.free (v := bx (w.heap.size + 1)) (.tail _ (.head _)) 0 (by simp)
      have s1 : w2.frozen? ⟨w.heap.size + 1, 1, none⟩ = false := hS5.own.free (v := bx (w.heap.size + 1)) (.tail _ (.head _)) 1 (by simp)
      have HS5 := hid hS5
      clear hS5 hS4
      unfold cx
      go_wp2_with fail
      have hS6 := (HS5.out.swap.set 0 (by simp) (.int .i64 n)).set 1 (by simp) (.slice p l c)
      exact bodyPost_ret (ret_cx2 rfl rfl rfl hS6.hd) rfl ⟨_, rfl, hS6.sub (.cons _ (.cons_cons _ (.cons _ .slnil)))⟩

end Go.Proofs.YtjaofbdfhcgmeaaGreat
