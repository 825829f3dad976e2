/-
  Lists in the order of their numbers: which of two of one length comes first.
  The least of a complex's forms under all names: plain law, and the program's function.
  The least of a complex's forms under all names: the reference's function.
-/
import Derived.Test.YtjaofbdfhcgmeaaGreatSet
import Derived.Test.YtjaofbdfhcgmeaaGreatAll
import Derived.Deep.RegionHeld3
namespace Go.Proofs.YtjaofbdfhcgmeaaGreat
open Go.RowKit

def lexB : List Int → List Int → Bool
  | a :: xs, b :: ys => if a = b then lexB xs ys else decide (a < b)
  | _, _ => false
def lexN (xs ys : List Int) : Int := if xs = ys then 0 else if lexB xs ys = true then -1 else 1
theorem lexB_refl (xs : List Int) : lexB xs xs = false := by
  induction xs with
  | nil => rfl
  | cons x xs ih => rw [lexB, if_pos rfl, ih]
theorem lexB_at {xs ys : List Int} {j : Nat} (hx : j < xs.length) (hy : j < ys.length) (h : xs.take j = ys.take j) (hne : gi xs j ≠ gi ys j) : lexB xs ys = decide (gi xs j < gi ys j) := by
  induction xs generalizing ys j with
  | nil => simp at hx
  | cons x xs ih => cases ys with
    | nil => simp at hy
    | cons y ys => cases j with
      | zero =>
        have hne' : x ≠ y := by simpa [gi] using hne
        rw [lexB, if_neg hne']; simp [gi]
      | succ j =>
        simp only [List.take_succ_cons, List.cons.injEq] at h
        rw [lexB, if_pos h.1]
        have := ih (ys := ys) (j := j) (by simpa using hx) (by simpa using hy) h.2 (by simpa [gi] using hne)
        rw [this]; simp [gi]
theorem take_snoc_eq {xs ys : List Int} {j : Nat} (hx : j < xs.length) (hy : j < ys.length) (h : xs.take j = ys.take j) (e : gi xs j = gi ys j) : xs.take (j + 1) = ys.take (j + 1) := by
  rw [take_succ_gi hx, take_succ_gi hy, h, e]
theorem ne_of_gi {xs ys : List Int} {j : Nat} (h : gi xs j ≠ gi ys j) : xs ≠ ys := fun e => h (by rw [e])

theorem isNaN_c (x : Int) (w : World) : Calls Tryz.prog 93 #[.int .i64 x] w fun e w' => e = .returned (.bool false) ∧ w = w' := by
  have h : (x != x) = false := by simp
  go_enter Tryz.func93, Tryz.ntmps93
  go_wp2_with fail
  go_ret
  exact ⟨rfl, rfl⟩
def cmpN (x y : Int) : Int := if x < y then -1 else if y < x then 1 else 0
set_option maxHeartbeats 1000000 in
theorem cmpCompare_c (x y : Int) (w : World) : Calls Tryz.prog 76 #[.int .i64 x, .int .i64 y] w fun e w' => e = .returned (.int .i64 (cmpN x y)) ∧ w = w' := by
  by_cases h1 : x < y
  · have E : Hid (cmpN x y = -1) := if_pos h1
    go_enter Tryz.func76, Tryz.ntmps76
    go_wp2_with (go_at_call 93; refine (isNaN_c _ _).mono ?_; rintro e w' ⟨rfl, rfl⟩)
    go_ret
    exact ⟨by rw [E.out]; rfl, rfl⟩
  · by_cases h2 : y < x
    · have E : Hid (cmpN x y = 1) := by show _ = _; rw [cmpN, if_neg h1, if_pos h2]
      go_enter Tryz.func76, Tryz.ntmps76
      go_wp2_with (go_at_call 93; refine (isNaN_c _ _).mono ?_; rintro e w' ⟨rfl, rfl⟩)
      go_ret
      exact ⟨by rw [E.out]; rfl, rfl⟩
    · have E : Hid (cmpN x y = 0) := by show _ = _; rw [cmpN, if_neg h1, if_neg h2]
      go_enter Tryz.func76, Tryz.ntmps76
      go_wp2_with (go_at_call 93; refine (isNaN_c _ _).mono ?_; rintro e w' ⟨rfl, rfl⟩)
      go_ret
      exact ⟨by rw [E.out]; rfl, rfl⟩
set_option maxHeartbeats 1000000 in
theorem slCompare_c (va vb : Value) (xs ys : List Int) (w : World) (ha : Rd w va (ints xs)) (hb : Rd w vb (ints ys)) (hl : xs.length = ys.length) : Calls Tryz.prog 49 #[va, vb] w fun e w' => e = .returned (.int .i64 (lexN xs ys)) ∧ w = w' := by
  have la := ha.iln tI
  have ll := ha.ile
  have lb := hb.iln tI
  rw [← hl] at lb
  have HL := hid hl
  go_enter Tryz.func49, Tryz.ntmps49
  go_wp2_with fail
  go_loop [11] (fun i => ∃ j : Nat, j ≤ xs.length ∧ i = .int .i64 j ∧ xs.take j = ys.take j) (fun i => xs.length - (intOf i).toNat)
  case atStart => exact ⟨0, Nat.zero_le _, rfl, by simp⟩
  case round =>
    obtain ⟨j, hj, rfl, ht⟩ := hrel
    have HT := hid ht
    clear ht
    by_cases hlt : j < xs.length
    · have f1 := ha.iix tI j hlt
      have f2 := ha.intCell j hlt
      have g1 := hb.iix tI j (by omega)
      have g2 := hb.intCell j (by omega)
      by_cases he : gi xs j = gi ys j
      · have e0 : cmpN (gi xs j) (gi ys j) = 0 := by rw [he, cmpN, if_neg (by omega), if_neg (by omega)]
        have E0 := hid e0
        have E := hid (take_snoc_eq hlt (by omega) HT.out he)
        clear he e0
        go_wp2_with (go_at_call 76; refine (cmpCompare_c _ _ _).mono ?_; rw [E0.out]; rintro e w' ⟨rfl, rfl⟩)
        go_round
        case rel => exact ⟨j + 1, by omega, by go_num, E.out⟩
        case measure => simp [intOf]; omega
      · by_cases hs : gi xs j < gi ys j
        · have E0 : Hid (cmpN (gi xs j) (gi ys j) = -1) := if_pos hs
          have E : Hid (lexN xs ys = -1) := by
            show _ = _
            rw [lexN, if_neg (ne_of_gi he), lexB_at hlt (by omega) HT.out he, if_pos (by simpa using hs)]
          clear he hs
          go_wp2_with (go_at_call 76; refine (cmpCompare_c _ _ _).mono ?_; rw [E0.out]; rintro e w' ⟨rfl, rfl⟩)
          go_ret
          exact ⟨by rw [E.out]; rfl, rfl⟩
        · have E0 : Hid (cmpN (gi xs j) (gi ys j) = 1) := by show _ = _; rw [cmpN, if_neg hs, if_pos (by omega)]
          have E : Hid (lexN xs ys = 1) := by
            show _ = _
            rw [lexN, if_neg (ne_of_gi he), lexB_at hlt (by omega) HT.out he, if_neg (by simpa using hs)]
          clear he hs
          go_wp2_with (go_at_call 76; refine (cmpCompare_c _ _ _).mono ?_; rw [E0.out]; rintro e w' ⟨rfl, rfl⟩)
          go_ret
          exact ⟨by rw [E.out]; rfl, rfl⟩
    · have E : Hid (lexN xs ys = 0) := by
        have := HT.out
        rw [List.take_of_length_le (by omega), List.take_of_length_le (by omega)] at this
        exact if_pos this
      go_wp2_with fail
      go_ret
      exact ⟨by rw [E.out]; rfl, rfl⟩
set_option maxHeartbeats 2000000 in
set_option maxRecDepth 100000 in
theorem l9Less_c (va vb : Value) (xs ys : List Int) (w : World) (ha : Rd w va (ints xs)) (hb : Rd w vb (ints ys)) (hl : xs.length = ys.length) : Calls Tryz.prog 52 #[va, vb] w fun e w' => e = .returned (.bool (lexB xs ys)) ∧ ∃ m, w' = w.drewN m := by
  have la := ha.iln tI
  have ll := ha.ile
  have lb := hb.iln tI
  rw [← hl] at lb
  have HL := hid hl
  go_enter Tryz.func52, Tryz.ntmps52
  go_wp2_with fail
  go_loopw [5] (fun i wr => ∃ j m : Nat, j ≤ xs.length ∧ i = .int .i64 j ∧ xs.take j = ys.take j ∧ wr = w.drewN m) (fun i _ => xs.length - (intOf i).toNat)
  case atStart => exact ⟨0, 0, Nat.zero_le _, rfl, by simp, rfl⟩
  case round =>
    obtain ⟨j, m, hj, rfl, ht, hw⟩ := hrel
    have ha' : Rd wr va (ints xs) := by rw [hw]; exact ha.drew m
    have hb' : Rd wr vb (ints ys) := by rw [hw]; exact hb.drew m
    have HW := hid hw
    have HT := hid ht
    clear ht hw
    by_cases hlt : j < xs.length
    · have f1 := ha'.iix tI j hlt
      have f2 := ha'.intCell j hlt
      have g1 := hb'.iix tI j (by omega)
      have g2 := hb'.intCell j (by omega)
      by_cases he : gi xs j = gi ys j
      · have e0 : (gi xs j != gi ys j) = false := by simp [he]
        have E := hid (take_snoc_eq hlt (by omega) HT.out he)
        clear he
        go_wp2_with fail
        go_region
        go_wp2_with fail
        go_roundw
        case rel => exact ⟨j + 1, m + 1, by omega, by go_num, E.out, by rw [HW.out]; rfl⟩
        case measure => simp [intOf]; omega
      · have e0 : (gi xs j != gi ys j) = true := by simp [he]
        have E : Hid (lexB xs ys = decide (gi xs j < gi ys j)) := lexB_at hlt (by omega) HT.out he
        clear he
        go_wp2_with fail
        go_region
        go_wp2_with fail
        go_region
        go_wp2_with fail
        go_ret
        exact ⟨ret_bool E.out.symm, m + 2, by rw [HW.out]; rfl⟩
    · have E : Hid (lexB xs ys = false) := by
        have := HT.out
        rw [List.take_of_length_le (by omega), List.take_of_length_le (by omega)] at this
        show _ = _
        rw [this, lexB_refl]
      go_wp2_with fail
      go_ret
      exact ⟨ret_bool E.out.symm, _, HW.out⟩

end Go.Proofs.YtjaofbdfhcgmeaaGreat

namespace Go.Proofs.YtjaofbdfhcgmeaaGreat
open Go.RowKit

def bestTo (L : List (List Int)) (fs : List Int) : Nat → List Int
  | 0 => fs
  | j + 1 => if lexB (rnL fs (gr L j)) (bestTo L fs j) = true then rnL fs (gr L j) else bestTo L fs j
def canL (n : Int) (fs : List Int) : List Int := bestTo (lvl n.toNat n.toNat) fs (lvl n.toNat n.toNat).length

theorem rnL_len_eq {n : Int} {fs xs : List Int} (h : Names n xs) (hc : IsC n fs) : (rnL fs xs).length = fs.length := by
  have h1 := srt_is (L := rnM fs xs) (rnM_rng h) (rnM_nodup h hc.2.2.1 (bef_nodup hc.2.2.2.1))
  rw [rnL, ← h1, List.length_map, srt_len, rnM, List.length_map]
theorem bestTo_len {n : Int} {fs : List Int} {L : List (List Int)} (hc : IsC n fs) (hL : ∀ j, j < L.length → Names n (gr L j)) (j : Nat) (hj : j ≤ L.length) : (bestTo L fs j).length = fs.length := by
  induction j with
  | zero => rfl
  | succ j ih =>
    rw [bestTo]
    split
    · exact rnL_len_eq (hL j (by omega)) hc
    · exact ih (by omega)
theorem lexN_neg (xs ys : List Int) : decide (lexN xs ys < 0) = lexB xs ys := by
  by_cases e : xs = ys
  · subst e
    rw [lexN, if_pos rfl, lexB_refl]; rfl
  · rw [lexN, if_neg e]
    cases lexB xs ys <;> rfl

set_option maxHeartbeats 1000000 in
theorem CanonicalComplex_no (n : Int) (va : Value) (fs : List Int) (w : World) (ha : Rd w va (ints fs)) (h1 : isC n fs = false) : Calls Tryz.prog 12 #[cx n va] w fun e w' =>
    ∃ v, e = .returned (.tuple #[cx (resN (isC n fs) n) v, .bool (isC n fs)]) ∧ St w w' [⟨v, 3, ints (resL (isC n fs) (canL n fs))⟩] := by
  obtain ⟨p1, l1, k1, rfl⟩ := ha.form
  have hS := ((St.start w).box n (.slice p1 l1 k1) 26).boxAt 0 (.slice none 0 0) 26 (H := w.heap.size + 1) (by simp)
  have ha' := hS.old ha
  have HS := hid hS
  clear hS
  have H1 := hid h1
  rw [h1]
  clear h1
  unfold cx
  go_enter Tryz.func12, Tryz.ntmps12
  go_wp2_with fail
  refine (IsComplex_c n _ fs _ ha').mono ?_
  rw [H1.out]
  rintro e w1 ⟨rfl, hB⟩
  have HS1 := hid (HS.out.quiet hB)
  have d0 := HS1.out.hd.c0
  have d1 := HS1.out.hd.c1
  have s0 : w1.frozen? ⟨w.heap.size + 1, 0, none⟩ = false := HS1.out.own.free (v := bx (w.heap.size + 1)) (.head _) 0 (by simp)
  have s1 : w1.frozen? ⟨w.heap.size + 1, 1, none⟩ = false := HS1.out.own.free (v := bx (w.heap.size + 1)) (.head _) 1 (by simp)
  clear hB
  go_wp2_with fail
  have hS6 := (HS1.out.set 0 (by simp) (.int .i64 0)).set 1 (by simp) (.slice none 0 0)
  exact bodyPost_ret (ret_cx2 rfl rfl rfl hS6.hd) rfl ⟨.slice none 0 0, rfl, (hS6.sub (.cons _ (.cons _ .slnil))).nilRow _⟩

set_option maxHeartbeats 1000000 in
theorem sCanonicalComplex_no (n : Int) (va : Value) (fs : List Int) (w : World) (ha : Rd w va (ints fs)) (h1 : isC n fs = false) : Calls Tryz.prog 13 #[cx n va] w fun e w' =>
    ∃ v, e = .returned (.tuple #[cx (resN (isC n fs) n) v, .bool (isC n fs)]) ∧ St w w' [⟨v, 3, ints (resL (isC n fs) (canL n fs))⟩] := by
  obtain ⟨p1, l1, k1, rfl⟩ := ha.form
  have hS := ((St.start w).box n (.slice p1 l1 k1) 26).boxAt 0 (.slice none 0 0) 26 (H := w.heap.size + 1) (by simp)
  have ha' := hS.old ha
  have HS := hid hS
  clear hS
  have H1 := hid h1
  rw [h1]
  clear h1
  unfold cx
  go_enter Tryz.func13, Tryz.ntmps13
  go_wp2_with fail
  refine (sIsComplex_c n _ fs _ ha').mono ?_
  rw [H1.out]
  rintro e w1 ⟨rfl, hB⟩
  have HS1 := hid (HS.out.quiet hB)
  have d0 := HS1.out.hd.c0
  have d1 := HS1.out.hd.c1
  have s0 : w1.frozen? ⟨w.heap.size + 1, 0, none⟩ = false := HS1.out.own.free (v := bx (w.heap.size + 1)) (.head _) 0 (by simp)
  have s1 : w1.frozen? ⟨w.heap.size + 1, 1, none⟩ = false := HS1.out.own.free (v := bx (w.heap.size + 1)) (.head _) 1 (by simp)
  clear hB
  go_wp2_with fail
  have hS6 := (HS1.out.set 0 (by simp) (.int .i64 0)).set 1 (by simp) (.slice none 0 0)
  exact bodyPost_ret (ret_cx2 rfl rfl rfl hS6.hd) rfl ⟨.slice none 0 0, rfl, (hS6.sub (.cons _ (.cons _ .slnil))).nilRow _⟩


set_option maxHeartbeats 4000000 in
set_option maxRecDepth 100000 in
theorem CanonicalComplex_c (n : Int) (va : Value) (fs : List Int) (w : World) (ha : Rd w va (ints fs)) : Calls Tryz.prog 12 #[cx n va] w fun e w' =>
    ∃ v, e = .returned (.tuple #[cx (resN (isC n fs) n) v, .bool (isC n fs)]) ∧ St w w' [⟨v, 3, ints (resL (isC n fs) (canL n fs))⟩] := by
  cases h1 : isC n fs with
  | false => have := CanonicalComplex_no n va fs w ha h1; rwa [h1] at this
  | true =>
    obtain ⟨p1, l1, k1, rfl⟩ := ha.form
    have hS := ((St.start w).box n (.slice p1 l1 k1) 26).boxAt 0 (.slice none 0 0) 26 (H := w.heap.size + 1) (by simp)
    have ha' := hS.old ha
    have HS := hid hS
    clear hS
    have hc := isC_iff.1 h1
    have hle : fs.length ≤ 1000 := by have := isC_le hc; omega
    have n1 := hc.1
    have n6 := hc.2.1
    have HC := hid hc
    clear hc
    obtain ⟨N, hN⟩ : ∃ N : Nat, N = n.toNat := ⟨_, rfl⟩
    have eN : (N : Int) = n := by omega
    have HNM : Hid (∀ j, j < (lvl N N).length → Names n (gr (lvl N N) j)) := fun j hj => by rw [← eN]; exact lvl_names (by omega) (by omega) (gr_mem hj)
    have ES : Hid (canL n fs = bestTo (lvl N N) fs (lvl N N).length) := by show _ = _; rw [canL, hN]
    have hll : (lvl N N).length ≤ 46656 := by rw [hN]; exact Nat.le_trans (lvl_len (by omega) _) (Nat.le_trans (Nat.pow_le_pow_right (by omega) (show n.toNat ≤ 6 by omega)) (by decide))
    have HA : Hid (∀ w, Calls Tryz.prog 48 #[.int .i64 n] w fun e w' => ∃ v vs, e = .returned v ∧ vs.length = (lvl N N).length ∧ St w w' (⟨v, 24, vs⟩ :: rowsOn vs (lvl N N) [])) := fun w => by rw [← eN]; exact allNames_c N (by omega) w
    obtain ⟨L, hL⟩ : ∃ L, L = lvl N N := ⟨_, rfl⟩
    rw [← hL] at HNM ES hll HA
    clear hL hN eN
    have HBL : Hid (∀ j, j ≤ L.length → (bestTo L fs j).length = fs.length) := fun j hj => bestTo_len HC.out HNM.out j hj
    unfold cx
    go_enter Tryz.func12, Tryz.ntmps12
    go_wp2_with fail
    refine (IsComplex_c n _ fs _ ha').mono ?_
    rw [h1]
    rintro e w1 ⟨rfl, hB⟩
    have HS1 := hid (HS.out.quiet hB)
    have d0 := HS1.out.hd.c0
    have d1 := HS1.out.hd.c1
    have e0 := HS1.out.hd2.c0
    have e1 := HS1.out.hd2.c1
    have ha1 := HS1.out.old ha
    clear hB
    go_wp2_with fail
    refine (cloneAny_c _ fs _ ha1 (by omega)).mono ?_
    rintro e w2 ⟨vb, rfl, hS2⟩
    have hS3 := HS1.out.call1 hS2
    clear d0 d1 e0 e1 ha1
    have e0 := hS3.hd3.c0
    have HS3 := hid hS3
    clear hS2 hS3
    go_wp2_with fail
    refine (HA.out _).mono ?_
    rintro e w3 ⟨u, vs, rfl, hvl, hS4⟩
    have hS5 := HS3.out.callM hS4
    have lu := (hS5.rdM hvl).ln
    have HS5 := hid (hS5.bring (l1 := ⟨u, 24, vs⟩ :: rows vs L))
    have HVL := hid hvl
    clear hS4 hS5 hvl e0
    go_wp2_with fail
    go_loopw [4, 19] (fun o c wr => ∃ (j : Nat) (v : Value), j ≤ L.length ∧ c = .int .i64 j ∧ o = v ∧ St w wr (⟨v, 3, ints (bestTo L fs j)⟩ :: ⟨u, 24, vs⟩ :: rowsOn vs L [⟨bx (w.heap.size + 1), 26, [.int .i64 0, .slice none 0 0]⟩, ⟨bx w.heap.size, 26, [.int .i64 n, .slice p1 l1 k1]⟩])) (fun _ c _ => L.length - (intOf c).toNat)
    case atStart => exact ⟨0, _, Nat.zero_le _, rfl, rfl, HS5.out⟩
    case round =>
      obtain ⟨j, v, hj, rfl, ho, hS⟩ := hrel
      have ho' := ho.symm
      subst ho'
      have HS6 := hid hS
      by_cases hlt : j < L.length
      · have hM := hS.tail.rdM HVL.out
        have f1 := hM.ix j hlt
        have f2 := hM.cell j hlt
        obtain ⟨pp, pl, pc', hp⟩ := (hM.row j hlt).form
        have hrow := hM.row j hlt
        rw [hp] at f2 hrow
        have HROW := hid hrow
        have HNJ := hid (HNM.out j hlt)
        have c1 := hS.tail.dropRows.hd2.c1
        clear hS hM hrow hp
        go_wp2_with fail
        refine (renamedFacets_c n _ _ fs (gr L j) _ (HS6.out.old ha) HROW.out HNJ.out HC.out.2.2.1 (bef_nodup HC.out.2.2.2.1) hle).mono ?_
        rintro e w4 ⟨v2, rfl, hS7⟩
        have HS7 := hid (HS6.out.call1 hS7)
        clear hS7
        go_wp2_with fail
        refine (slCompare_c _ _ _ _ _ HS7.out.hd HS7.out.hd2 (by rw [rnL_len_eq HNJ.out HC.out, HBL.out j hj])).mono ?_
        rintro e w' ⟨rfl, rfl⟩
        cases hb : lexB (rnL fs (gr L j)) (bestTo L fs j) with
        | true =>
          have q0 : decide (lexN (rnL fs (gr L j)) (bestTo L fs j) < 0) = true := by rw [lexN_neg, hb]
          have EB : Hid (bestTo L fs (j + 1) = rnL fs (gr L j)) := by show _ = _; rw [bestTo, if_pos hb]
          clear hb
          go_wp2_with fail
          go_roundw
          case rel => exact ⟨j + 1, v2, by omega, by go_num, rfl, by rw [EB.out]; exact HS7.out.sub (.cons_cons _ (.cons _ (List.Sublist.refl _)))⟩
          case measure => simp [intOf]; omega
        | false =>
          have q0 : decide (lexN (rnL fs (gr L j)) (bestTo L fs j) < 0) = false := by rw [lexN_neg, hb]
          have EB : Hid (bestTo L fs (j + 1) = bestTo L fs j) := by show _ = _; rw [bestTo, if_neg (by simp [hb])]
          clear hb
          go_wp2_with fail
          go_roundw
          case rel => exact ⟨j + 1, _, by omega, by go_num, rfl, by rw [EB.out]; exact HS7.out.tail⟩
          case measure => simp [intOf]; omega
      · have ej : j = L.length := by omega
        subst ej
        obtain ⟨pv, lv, cv, hv⟩ := hS.hd.form
        subst hv
        have hS7 := (hS.sub (.cons_cons _ (.cons _ (List.sublist_append_right _ _))) : St w _ [⟨.slice pv lv cv, 3, ints (bestTo L fs L.length)⟩, ⟨bx (w.heap.size + 1), 26, [.int .i64 0, .slice none 0 0]⟩, ⟨bx w.heap.size, 26, [.int .i64 n, .slice p1 l1 k1]⟩]).swap
        have d0 := hS7.hd.c0
        have d1 := hS7.hd.c1
        have e0 := hS7.hd3.c0
        have s0 : wr.frozen? ⟨w.heap.size + 1, 0, none⟩ = false := hS7.own.free (v := bx (w.heap.size + 1)) (.head _) 0 (by simp)
        have s1 : wr.frozen? ⟨w.heap.size + 1, 1, none⟩ = false := hS7.own.free (v := bx (w.heap.size + 1)) (.head _) 1 (by simp)
        have HS7 := hid hS7
        clear hS hS7 HS6
        go_wp2_with fail
        have hS8 := (HS7.out.set 0 (by simp) (.int .i64 n)).set 1 (by simp) (.slice pv lv cv)
        rw [← ES.out] at hS8
        exact bodyPost_ret (ret_cx2 rfl rfl rfl hS8.hd) rfl ⟨_, rfl, hS8.sub (.cons _ (.cons_cons _ (.cons _ .slnil)))⟩

end Go.Proofs.YtjaofbdfhcgmeaaGreat

namespace Go.Proofs.YtjaofbdfhcgmeaaGreat
open Go.RowKit

set_option maxHeartbeats 2000000 in
theorem l3Copy_c (n : Int) (va : Value) (fs : List Int) (w : World) (ha : Rd w va (ints fs)) (hl : fs.length ≤ 1000) : Calls Tryz.prog 50 #[cx n va] w fun e w' => ∃ v, e = .returned (cx n v) ∧ St w w' [⟨v, 3, ints fs⟩] := by
  obtain ⟨p1, l1, k1, rfl⟩ := ha.form
  have hS := ((St.start w).box n (.slice p1 l1 k1) 26).boxAt 0 (.slice none 0 0) 26 (H := w.heap.size + 1) (by simp)
  have HS := hid hS
  have e0 := hS.hd2.c0
  have e1 := hS.hd2.c1
  clear hS
  unfold cx
  go_enter Tryz.func50, Tryz.ntmps50
  go_wp2_with fail
  generalize (w.alloc (Obj.cells #[Value.int IntKind.i64 n, Value.slice p1 l1 k1] 26)).alloc (Obj.cells #[Value.int IntKind.i64 0, Value.slice none 0 0] 26) = w1 at *
  have HA := hid ((HS.out.newAt #[] 3 (by simp) rfl).drewN 1)
  go_region_held3 (fun w' => w'.cell? ⟨w.heap.size, 0, none⟩ = some (.int .i64 n) ∧ w'.cell? ⟨w.heap.size, 1, none⟩ = some (.slice p1 l1 k1)) (first | go_keep | exact ⟨k0, k2⟩) (first | (refine step_app rfl _ _ (by rfl) tI HA.out.own (ints fs) (HA.out.old ha) (ints_ones _) (by simp; omega) (by rfl) (by rfl) ?_; intro v2 w2 hO2 hb2; rw [List.nil_append] at hO2; have hS2 := HA.out.mut hO2 hb2; obtain ⟨p, l, c, rfl⟩ := hS2.hd.form; have k0 := hS2.hd3.c0; have k2 := hS2.hd3.c1; have k4 := hS2.hd2.c0; have k5 := hS2.hd2.c1; have s0 : w2.frozen? ⟨w.heap.size + 1, 0, none⟩ = false := hS2.own.free (v := bx (w.heap.size + 1)) (.tail _ (.head _)) 0 (by simp); have s1 : w2.frozen? ⟨w.heap.size + 1, 1, none⟩ = false := hS2.own.free (v := bx (w.heap.size + 1)) (.tail _ (.head _)) 1 (by simp); have HS2 := hid hS2; clear hS2 hO2 hb2))
  go_wp2_with fail
  have hS3 := (HS2.out.swap.set 0 (by simp) (.int .i64 n)).set 1 (by simp) (.slice p l c)
  exact bodyPost_ret (ret_cx rfl rfl hS3.hd) rfl ⟨_, rfl, hS3.sub (.cons _ (.cons_cons _ (.cons _ .slnil)))⟩

set_option maxHeartbeats 4000000 in
set_option maxRecDepth 100000 in
theorem sCanonicalComplex_c (n : Int) (va : Value) (fs : List Int) (w : World) (ha : Rd w va (ints fs)) : Calls Tryz.prog 13 #[cx n va] w fun e w' =>
    ∃ v, e = .returned (.tuple #[cx (resN (isC n fs) n) v, .bool (isC n fs)]) ∧ St w w' [⟨v, 3, ints (resL (isC n fs) (canL n fs))⟩] := by
  cases h1 : isC n fs with
  | false => have := sCanonicalComplex_no n va fs w ha h1; rwa [h1] at this
  | true =>
    obtain ⟨p1, l1, k1, rfl⟩ := ha.form
    have hS := ((St.start w).box n (.slice p1 l1 k1) 26).boxAt 0 (.slice none 0 0) 26 (H := w.heap.size + 1) (by simp)
    have ha' := hS.old ha
    have HS := hid hS
    clear hS
    have hc := isC_iff.1 h1
    have hle : fs.length ≤ 1000 := by have := isC_le hc; omega
    have n1 := hc.1
    have n6 := hc.2.1
    have HC := hid hc
    clear hc
    obtain ⟨N, hN⟩ : ∃ N : Nat, N = n.toNat := ⟨_, rfl⟩
    have eN : (N : Int) = n := by omega
    have HNM : Hid (∀ j, j < (lvl N N).length → Names n (gr (lvl N N) j)) := fun j hj => by rw [← eN]; exact lvl_names (by omega) (by omega) (gr_mem hj)
    have ES : Hid (canL n fs = bestTo (lvl N N) fs (lvl N N).length) := by show _ = _; rw [canL, hN]
    have hll : (lvl N N).length ≤ 46656 := by rw [hN]; exact Nat.le_trans (lvl_len (by omega) _) (Nat.le_trans (Nat.pow_le_pow_right (by omega) (show n.toNat ≤ 6 by omega)) (by decide))
    have HA : Hid (∀ (u hv : Value) (w0 w : World) (env : List Ent), St w0 w (⟨u, 24, []⟩ :: ⟨hv, 3, []⟩ :: env) → Calls Tryz.prog 51 #[.int .i64 n, hv, u] w fun e w' => ∃ v vs, e = .returned v ∧ vs.length = (lvl N N).length ∧ St w0 w' (⟨v, 24, vs⟩ :: rowsOn vs (lvl N N) env)) := fun u hv w0 w env h => by
      have h6 : (6 : Nat) ^ N ≤ 46656 := Nat.le_trans (Nat.pow_le_pow_right (by omega) (show N ≤ 6 by omega)) (by decide)
      have := l9All_c N (by omega) N u hv [] [] [] w0 w env (by simp) rfl (by simp; omega) h
      rw [dfs_all, List.nil_append, eN] at this
      exact this
    obtain ⟨L, hL⟩ : ∃ L, L = lvl N N := ⟨_, rfl⟩
    rw [← hL] at HNM ES hll HA
    clear hL hN eN
    have HBL : Hid (∀ j, j ≤ L.length → (bestTo L fs j).length = fs.length) := fun j hj => bestTo_len HC.out HNM.out j hj
    unfold cx
    go_enter Tryz.func13, Tryz.ntmps13
    go_wp2_with fail
    refine (sIsComplex_c n _ fs _ ha').mono ?_
    rw [h1]
    rintro e w1 ⟨rfl, hB⟩
    have HS1 := hid (HS.out.quiet hB)
    have e0 := HS1.out.hd2.c0
    have e1 := HS1.out.hd2.c1
    have ha1 := HS1.out.old ha
    clear hB
    go_wp2_with fail
    refine (l3Copy_c n _ fs _ ha1 hle).mono ?_
    rintro e w2 ⟨vb, rfl, hS2⟩
    obtain ⟨pb, lb, kb, rfl⟩ := hS2.hd.form
    have hS3 := (HS1.out.call1 hS2).boxAt n (.slice pb lb kb) 26 rfl
    clear e0 e1 ha1
    have e0 := hS3.hd4.c0
    have HS3 := hid hS3
    clear hS2 hS3
    unfold cx
    go_wp2_with fail
    refine (HA.out _ _ w _ _ ((HS3.out.newAt #[] 3 (by simp) (H := w2.heap.size + 1) (by simp)).newAt #[] 24 (by simp) (H := w2.heap.size + 1 + 1) (by simp))).mono ?_
    rintro e w3 ⟨u, vs, rfl, hvl, hS4⟩
    have lu := (hS4.rdM hvl).ln
    have HS5 := hid ((hS4.bring (l1 := ⟨u, 24, vs⟩ :: rows vs L)).bring (l1 := ⟨bx w2.heap.size, 26, [.int .i64 n, .slice pb lb kb]⟩ :: ⟨u, 24, vs⟩ :: rows vs L)).swap
    have HVL := hid hvl
    clear hS4 hvl e0
    obtain ⟨B, hB⟩ : ∃ B, B = w2.heap.size := ⟨_, rfl⟩
    rw [← hB] at HS5 ⊢
    clear hB
    go_wp2_with fail
    go_loopw [6] (fun c wr => ∃ (j : Nat) (p : Option Addr) (l k : Nat), j ≤ L.length ∧ c = .int .i64 j ∧ St w wr (⟨bx B, 26, [.int .i64 n, .slice p l k]⟩ :: ⟨.slice p l k, 3, ints (bestTo L fs j)⟩ :: ⟨u, 24, vs⟩ :: rowsOn vs L [⟨bx (w.heap.size + 1), 26, [.int .i64 0, .slice none 0 0]⟩, ⟨bx w.heap.size, 26, [.int .i64 n, .slice p1 l1 k1]⟩])) (fun c _ => L.length - (intOf c).toNat)
    case atStart => exact ⟨0, pb, lb, kb, Nat.zero_le _, rfl, HS5.out⟩
    case round =>
      obtain ⟨j, pb, lb, kb, hj, rfl, hS⟩ := hrel
      have HS6 := hid hS
      by_cases hlt : j < L.length
      · have hM := hS.tail.tail.rdM HVL.out
        have f1 := hM.ix j hlt
        have f2 := hM.cell j hlt
        obtain ⟨pp, pl, pc', hp⟩ := (hM.row j hlt).form
        have hrow := hM.row j hlt
        rw [hp] at f2 hrow
        have HROW := hid hrow
        have HNJ := hid (HNM.out j hlt)
        have c0 := hS.tail.tail.dropRows.hd2.c0
        have c1 := hS.tail.tail.dropRows.hd2.c1
        have hp' := hp
        have HGV := hid hp'
        clear hS hM hrow hp hp'
        go_wp2_with fail
        have HX := hid ((HS6.out.boxAt 0 (.slice none 0 0) 26 (H := wr.heap.size) rfl).drewN 1)
        go_region_held3 (fun w' => w'.cell? ⟨w.heap.size, 0, none⟩ = some (.int .i64 n) ∧ w'.cell? ⟨w.heap.size, 1, none⟩ = some (.slice p1 l1 k1) ∧ w'.cell? (adr u j) = some (.slice pp pl pc')) (first | go_keep | exact ⟨k0', k1', f3⟩ | exact ⟨g0, g1, g3⟩)
          (first
            | (go_at_call 39; refine (l9Complex_c n n _ _ fs (gr L j) _ (HX.out.old ha) ((HROW.out.below (((Below.refl _ _).alloc (Nat.le_refl _) _))).drew 1) HNJ.out HC.out.rng hle).mono ?_; rintro e w4 ⟨v2, rfl, hS7⟩; have hS8 := HX.out.call1 hS7; obtain ⟨vp, vl, vc, rfl⟩ := hS8.hd.form; have k0' := hS8.tail.tail.tail.tail.dropRows.hd2.c0; have k1' := hS8.tail.tail.tail.tail.dropRows.hd2.c1; have k2' := hS8.hd2.c0; have k3' := hS8.hd2.c1; have s0 : w4.frozen? ⟨wr.heap.size, 0, none⟩ = false := hS8.own.free (v := bx wr.heap.size) (.tail _ (.head _)) 0 (by simp); have s1 : w4.frozen? ⟨wr.heap.size, 1, none⟩ = false := hS8.own.free (v := bx wr.heap.size) (.tail _ (.head _)) 1 (by simp); have f3 := (hS8.tail.tail.tail.tail.rdM HVL.out).cell j hlt; rw [HGV.out] at f3; have t0 : St w ((w4.setCell ⟨wr.heap.size, 0, none⟩ (.int .i64 n)).setCell ⟨wr.heap.size, 1, none⟩ (.slice vp vl vc)) _ := (hS8.swap.set 0 (by simp) (.int .i64 n)).set 1 (by simp) (.slice vp vl vc); have g0 := t0.tail.tail.tail.tail.dropRows.hd2.c0; have g1 := t0.tail.tail.tail.tail.dropRows.hd2.c1; have g3 := (t0.tail.tail.tail.tail.rdM HVL.out).cell j hlt; rw [HGV.out] at g3; have HT0 := hid t0; clear hS7 hS8 t0; unfold cx)
            | (go_at_call 39; refine (l9Complex_c n n _ _ fs (gr L j) _ ((HS6.out.old ha).drew 1) (HROW.out.drew 1) HNJ.out HC.out.rng hle).mono ?_; rintro e w4 ⟨v2, rfl, hS7⟩; have hS8 := (HS6.out.drewN 1).call1 hS7; obtain ⟨vp, vl, vc, rfl⟩ := hS8.hd.form; have k0' := hS8.tail.tail.tail.dropRows.hd2.c0; have k1' := hS8.tail.tail.tail.dropRows.hd2.c1; have f3 := (hS8.tail.tail.tail.rdM HVL.out).cell j hlt; rw [HGV.out] at f3; have HS8 := hid hS8; clear hS7 hS8; unfold cx))
        all_goals
          first | (have HS9 := HT0; clear HT0 g0 g1 g3 k2' k3' s0 s1) | have HS9 := hid (HS8.out.box n (.slice vp vl vc) 26)
          clear k0' k1' f3 c0 c1 f1 f2
          have x1 := HS9.out.hd.c1
          have b1 := HS9.out.hd3.c1
          go_wp2_with fail
          refine (l9Less_c _ _ _ _ _ HS9.out.hd2 HS9.out.hd4 (by rw [rnL_len_eq HNJ.out HC.out, HBL.out j hj])).mono ?_
          rintro e w' ⟨rfl, q, rfl⟩
          have hS10 := HS9.out.drewN q
          clear x1 b1
          have x0 := hS10.hd.c0
          have x1 := hS10.hd.c1
          have b0 := hS10.hd3.c0
          have b1 := hS10.hd3.c1
          have s0 : World.frozen? (World.drewN _ q) ⟨B, 0, none⟩ = false := hS10.own.free (v := bx B) (.tail _ (.tail _ (.head _))) 0 (by simp)
          have s1 : World.frozen? (World.drewN _ q) ⟨B, 1, none⟩ = false := hS10.own.free (v := bx B) (.tail _ (.tail _ (.head _))) 1 (by simp)
          have HS10 := hid hS10
          clear hS10
          cases hb : lexB (rnL fs (gr L j)) (bestTo L fs j) with
          | true =>
            have EB : Hid (bestTo L fs (j + 1) = rnL fs (gr L j)) := by show _ = _; rw [bestTo, if_pos hb]
            clear hb
            go_wp2_with fail
            go_roundw
            case rel =>
              have hS11 := ((HS10.out.bring (l1 := [_, _])).set 0 (by simp) (.int .i64 n)).set 1 (by simp) (.slice vp vl vc)
              exact ⟨j + 1, vp, vl, vc, by omega, by go_num, by rw [EB.out]; exact hS11.sub (.cons_cons _ (.cons _ (.cons_cons _ (.cons _ (List.Sublist.refl _)))))⟩
            case measure => simp [intOf]; omega
          | false =>
            have EB : Hid (bestTo L fs (j + 1) = bestTo L fs j) := by show _ = _; rw [bestTo, if_neg (by simp [hb])]
            clear hb
            go_wp2_with fail
            go_roundw
            case rel => exact ⟨j + 1, pb, lb, kb, by omega, by go_num, by rw [EB.out]; exact HS10.out.sub (.cons _ (.cons _ (List.Sublist.refl _)))⟩
            case measure => simp [intOf]; omega
      · have ej : j = L.length := by omega
        subst ej
        have hS7 := (hS.sub (.cons_cons _ (.cons_cons _ (.cons _ (List.sublist_append_right _ _)))) : St w _ [⟨bx B, 26, [.int .i64 n, .slice pb lb kb]⟩, ⟨.slice pb lb kb, 3, ints (bestTo L fs L.length)⟩, ⟨bx (w.heap.size + 1), 26, [.int .i64 0, .slice none 0 0]⟩, ⟨bx w.heap.size, 26, [.int .i64 n, .slice p1 l1 k1]⟩])
        have b0 := hS7.hd.c0
        have b1 := hS7.hd.c1
        have d0 := hS7.hd3.c0
        have d1 := hS7.hd3.c1
        have s0 : wr.frozen? ⟨w.heap.size + 1, 0, none⟩ = false := hS7.own.free (v := bx (w.heap.size + 1)) (.tail _ (.tail _ (.head _))) 0 (by simp)
        have s1 : wr.frozen? ⟨w.heap.size + 1, 1, none⟩ = false := hS7.own.free (v := bx (w.heap.size + 1)) (.tail _ (.tail _ (.head _))) 1 (by simp)
        have HS7 := hid hS7
        clear hS hS7 HS6
        go_wp2_with fail
        have hS8 := ((HS7.out.bring (l1 := [_, _])).set 0 (by simp) (.int .i64 n)).set 1 (by simp) (.slice pb lb kb)
        rw [← ES.out] at hS8
        exact bodyPost_ret (ret_cx2 rfl rfl rfl hS8.hd) rfl ⟨_, rfl, hS8.sub (.cons _ (.cons _ (.cons_cons _ (.cons _ .slnil))))⟩

theorem can_len (n : Int) (fs : List Int) : (resL (isC n fs) (canL n fs)).length ≤ 1000000 := by
  cases h : isC n fs with
  | false => simp [resL]
  | true =>
    have hc := isC_iff.1 h
    have n1 := hc.1
    have n6 := hc.2.1
    have h2 := bestTo_len (L := lvl n.toNat n.toNat) hc (fun j hj => by
      have := lvl_names (n := n.toNat) (by omega) (by omega) (gr_mem hj)
      rwa [show ((n.toNat : Nat) : Int) = n by omega] at this) _ (Nat.le_refl _)
    have := isC_le hc
    rw [show resL true (canL n fs) = bestTo (lvl n.toNat n.toNat) fs (lvl n.toNat n.toNat).length from rfl, h2]
    omega

end Go.Proofs.YtjaofbdfhcgmeaaGreat
