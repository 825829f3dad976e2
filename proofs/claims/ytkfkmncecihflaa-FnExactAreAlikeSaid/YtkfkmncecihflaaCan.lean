/-
  The least of a complex's forms under all names: plain law, and the program's function.
-/
import Derived.Test.YtkfkmncecihflaaAll
import Derived.Test.YtkfkmncecihflaaLex
namespace Go.Proofs.Ytkfkmncecihflaa
open Go.RowKit

def bestTo (L : List (List Int)) (fs : List Int) : Nat → List Int
  | 0 => fs
  | j + 1 => if lexB (rnL fs (gr L j)) (bestTo L fs j) = true then rnL fs (gr L j) else bestTo L fs j
def canL (n : Int) (fs : List Int) : List Int := bestTo (lvl n.toNat n.toNat) fs (lvl n.toNat n.toNat).length

theorem rnL_len_eq {n : Int} {fs xs : List Int} (h : Names n xs) (hc : IsC n fs) : (rnL fs xs).length = fs.length := by
  have h1 := srt_is (L := rnM fs xs) (rnM_rng h) (rnM_nodup h hc.2.2.1 (bef_nodup hc.2.2.2.1))
  rw [rnL, ← h1, List.length_map, srt_len, rnM, List.length_map]
theorem bestTo_len {n : Int} {fs : List Int} {L : List (List Int)} (hc : IsC n fs) (hL : ∀ j, j < L.length → Names n (gr L j)) (j : Nat) (hj : j ≤ L.length) : (bestTo L fs j).length = fs.length := by
  induction j with
  | zero => rfl
  | succ j ih =>
    rw [bestTo]
    split
    · exact rnL_len_eq (hL j (by omega)) hc
    · exact ih (by omega)
theorem lexN_neg (xs ys : List Int) : decide (lexN xs ys < 0) = lexB xs ys := by
  by_cases e : xs = ys
  · subst e
    rw [lexN, if_pos rfl, lexB_refl]; rfl
  · rw [lexN, if_neg e]
    cases lexB xs ys <;> rfl

set_option maxHeartbeats 1000000 in
theorem CanonicalComplex_no (n : Int) (va : Value) (fs : List Int) (w : World) (ha : Rd w va (ints fs)) (h1 : isC n fs = false) : Calls Try.prog 44 #[cx n va] w fun e w' =>
    ∃ v, e = .returned (.tuple #[cx (resN (isC n fs) n) v, .bool (isC n fs)]) ∧ St w w' [⟨v, 3, ints (resL (isC n fs) (canL n fs))⟩] := by
  obtain ⟨p1, l1, k1, rfl⟩ := ha.form
  have hS := ((St.start w).box n (.slice p1 l1 k1) 38).boxAt 0 (.slice none 0 0) 38 (H := w.heap.size + 1) (by simp)
  have ha' := hS.old ha
  have HS := hid hS
  clear hS
  have H1 := hid h1
  rw [h1]
  clear h1
  unfold cx
  go_enter Try.func44, Try.ntmps44
  go_wp2_with fail
  refine (IsComplex_c n _ fs _ ha').mono ?_
  rw [H1.out]
  rintro e w1 ⟨rfl, hB⟩
  have HS1 := hid (HS.out.quiet hB)
  have d0 := HS1.out.hd.c0
  have d1 := HS1.out.hd.c1
  have s0 : w1.frozen? ⟨w.heap.size + 1, 0, none⟩ = false := HS1.out.own.free (v := bx (w.heap.size + 1)) (.head _) 0 (by simp)
  have s1 : w1.frozen? ⟨w.heap.size + 1, 1, none⟩ = false := HS1.out.own.free (v := bx (w.heap.size + 1)) (.head _) 1 (by simp)
  clear hB
  go_wp2_with fail
  have hS6 := (HS1.out.set 0 (by simp) (.int .i64 0)).set 1 (by simp) (.slice none 0 0)
  exact bodyPost_ret (ret_cx2 rfl rfl rfl hS6.hd) rfl ⟨.slice none 0 0, rfl, (hS6.sub (.cons _ (.cons _ .slnil))).nilRow _⟩

set_option maxHeartbeats 1000000 in
theorem sCanonicalComplex_no (n : Int) (va : Value) (fs : List Int) (w : World) (ha : Rd w va (ints fs)) (h1 : isC n fs = false) : Calls Try.prog 43 #[cx n va] w fun e w' =>
    ∃ v, e = .returned (.tuple #[cx (resN (isC n fs) n) v, .bool (isC n fs)]) ∧ St w w' [⟨v, 3, ints (resL (isC n fs) (canL n fs))⟩] := by
  obtain ⟨p1, l1, k1, rfl⟩ := ha.form
  have hS := ((St.start w).box n (.slice p1 l1 k1) 38).boxAt 0 (.slice none 0 0) 38 (H := w.heap.size + 1) (by simp)
  have ha' := hS.old ha
  have HS := hid hS
  clear hS
  have H1 := hid h1
  rw [h1]
  clear h1
  unfold cx
  go_enter Try.func43, Try.ntmps43
  go_wp2_with fail
  refine (sIsComplex_c n _ fs _ ha').mono ?_
  rw [H1.out]
  rintro e w1 ⟨rfl, hB⟩
  have HS1 := hid (HS.out.quiet hB)
  have d0 := HS1.out.hd.c0
  have d1 := HS1.out.hd.c1
  have s0 : w1.frozen? ⟨w.heap.size + 1, 0, none⟩ = false := HS1.out.own.free (v := bx (w.heap.size + 1)) (.head _) 0 (by simp)
  have s1 : w1.frozen? ⟨w.heap.size + 1, 1, none⟩ = false := HS1.out.own.free (v := bx (w.heap.size + 1)) (.head _) 1 (by simp)
  clear hB
  go_wp2_with fail
  have hS6 := (HS1.out.set 0 (by simp) (.int .i64 0)).set 1 (by simp) (.slice none 0 0)
  exact bodyPost_ret (ret_cx2 rfl rfl rfl hS6.hd) rfl ⟨.slice none 0 0, rfl, (hS6.sub (.cons _ (.cons _ .slnil))).nilRow _⟩


set_option maxHeartbeats 4000000 in
set_option maxRecDepth 100000 in
theorem CanonicalComplex_c (n : Int) (va : Value) (fs : List Int) (w : World) (ha : Rd w va (ints fs)) : Calls Try.prog 44 #[cx n va] w fun e w' =>
    ∃ v, e = .returned (.tuple #[cx (resN (isC n fs) n) v, .bool (isC n fs)]) ∧ St w w' [⟨v, 3, ints (resL (isC n fs) (canL n fs))⟩] := by
  cases h1 : isC n fs with
  | false => have := CanonicalComplex_no n va fs w ha h1; rwa [h1] at this
  | true =>
    obtain ⟨p1, l1, k1, rfl⟩ := ha.form
    have hS := ((St.start w).box n (.slice p1 l1 k1) 38).boxAt 0 (.slice none 0 0) 38 (H := w.heap.size + 1) (by simp)
    have ha' := hS.old ha
    have HS := hid hS
    clear hS
    have hc := isC_iff.1 h1
    have hle : fs.length ≤ 1000 := by have := isC_le hc; omega
    have n1 := hc.1
    have n6 := hc.2.1
    have HC := hid hc
    clear hc
    obtain ⟨N, hN⟩ : ∃ N : Nat, N = n.toNat := ⟨_, rfl⟩
    have eN : (N : Int) = n := by omega
    have HNM : Hid (∀ j, j < (lvl N N).length → Names n (gr (lvl N N) j)) := fun j hj => by rw [← eN]; exact lvl_names (by omega) (by omega) (gr_mem hj)
    have ES : Hid (canL n fs = bestTo (lvl N N) fs (lvl N N).length) := by show _ = _; rw [canL, hN]
    have hll : (lvl N N).length ≤ 46656 := by rw [hN]; exact Nat.le_trans (lvl_len (by omega) _) (Nat.le_trans (Nat.pow_le_pow_right (by omega) (show n.toNat ≤ 6 by omega)) (by decide))
    have HA : Hid (∀ w, Calls Try.prog 70 #[.int .i64 n] w fun e w' => ∃ v vs, e = .returned v ∧ vs.length = (lvl N N).length ∧ St w w' (⟨v, 34, vs⟩ :: rowsOn vs (lvl N N) [])) := fun w => by rw [← eN]; exact allNames_c N (by omega) w
    obtain ⟨L, hL⟩ : ∃ L, L = lvl N N := ⟨_, rfl⟩
    rw [← hL] at HNM ES hll HA
    clear hL hN eN
    have HBL : Hid (∀ j, j ≤ L.length → (bestTo L fs j).length = fs.length) := fun j hj => bestTo_len HC.out HNM.out j hj
    unfold cx
    go_enter Try.func44, Try.ntmps44
    go_wp2_with fail
    refine (IsComplex_c n _ fs _ ha').mono ?_
    rw [h1]
    rintro e w1 ⟨rfl, hB⟩
    have HS1 := hid (HS.out.quiet hB)
    have d0 := HS1.out.hd.c0
    have d1 := HS1.out.hd.c1
    have e0 := HS1.out.hd2.c0
    have e1 := HS1.out.hd2.c1
    have ha1 := HS1.out.old ha
    clear hB
    go_wp2_with fail
    refine (cloneAny_c _ fs _ ha1 (by omega)).mono ?_
    rintro e w2 ⟨vb, rfl, hS2⟩
    have hS3 := HS1.out.call1 hS2
    clear d0 d1 e0 e1 ha1
    have e0 := hS3.hd3.c0
    have HS3 := hid hS3
    clear hS2 hS3
    go_wp2_with fail
    refine (HA.out _).mono ?_
    rintro e w3 ⟨u, vs, rfl, hvl, hS4⟩
    have hS5 := HS3.out.callM hS4
    have lu := (hS5.rdM hvl).ln
    have HS5 := hid (hS5.bring (l1 := ⟨u, 34, vs⟩ :: rows vs L))
    have HVL := hid hvl
    clear hS4 hS5 hvl e0
    go_wp2_with fail
    go_loopw [4, 19] (fun o c wr => ∃ (j : Nat) (v : Value), j ≤ L.length ∧ c = .int .i64 j ∧ o = v ∧ St w wr (⟨v, 3, ints (bestTo L fs j)⟩ :: ⟨u, 34, vs⟩ :: rowsOn vs L [⟨bx (w.heap.size + 1), 38, [.int .i64 0, .slice none 0 0]⟩, ⟨bx w.heap.size, 38, [.int .i64 n, .slice p1 l1 k1]⟩])) (fun _ c _ => L.length - (intOf c).toNat)
    case atStart => exact ⟨0, _, Nat.zero_le _, rfl, rfl, HS5.out⟩
    case round =>
      obtain ⟨j, v, hj, rfl, ho, hS⟩ := hrel
      have ho' := ho.symm
      subst ho'
      have HS6 := hid hS
      by_cases hlt : j < L.length
      · have hM := hS.tail.rdM HVL.out
        have f1 := hM.ix j hlt
        have f2 := hM.cell j hlt
        obtain ⟨pp, pl, pc', hp⟩ := (hM.row j hlt).form
        have hrow := hM.row j hlt
        rw [hp] at f2 hrow
        have HROW := hid hrow
        have HNJ := hid (HNM.out j hlt)
        have c1 := hS.tail.dropRows.hd2.c1
        clear hS hM hrow hp
        go_wp2_with fail
        refine (renamedFacets_c n _ _ fs (gr L j) _ (HS6.out.old ha) HROW.out HNJ.out HC.out.2.2.1 (bef_nodup HC.out.2.2.2.1) hle).mono ?_
        rintro e w4 ⟨v2, rfl, hS7⟩
        have HS7 := hid (HS6.out.call1 hS7)
        clear hS7
        go_wp2_with fail
        refine (slCompare_c _ _ _ _ _ HS7.out.hd HS7.out.hd2 (by rw [rnL_len_eq HNJ.out HC.out, HBL.out j hj])).mono ?_
        rintro e w' ⟨rfl, rfl⟩
        cases hb : lexB (rnL fs (gr L j)) (bestTo L fs j) with
        | true =>
          have q0 : decide (lexN (rnL fs (gr L j)) (bestTo L fs j) < 0) = true := by rw [lexN_neg, hb]
          have EB : Hid (bestTo L fs (j + 1) = rnL fs (gr L j)) := by show _ = _; rw [bestTo, if_pos hb]
          clear hb
          go_wp2_with fail
          go_roundw
          case rel => exact ⟨j + 1, v2, by omega, by go_num, rfl, by rw [EB.out]; exact HS7.out.sub (.cons_cons _ (.cons _ (List.Sublist.refl _)))⟩
          case measure => simp [intOf]; omega
        | false =>
          have q0 : decide (lexN (rnL fs (gr L j)) (bestTo L fs j) < 0) = false := by rw [lexN_neg, hb]
          have EB : Hid (bestTo L fs (j + 1) = bestTo L fs j) := by show _ = _; rw [bestTo, if_neg (by simp [hb])]
          clear hb
          go_wp2_with fail
          go_roundw
          case rel => exact ⟨j + 1, _, by omega, by go_num, rfl, by rw [EB.out]; exact HS7.out.tail⟩
          case measure => simp [intOf]; omega
      · have ej : j = L.length := by omega
        subst ej
        obtain ⟨pv, lv, cv, hv⟩ := hS.hd.form
        subst hv
        have hS7 := (hS.sub (.cons_cons _ (.cons _ (List.sublist_append_right _ _))) : St w _ [⟨.slice pv lv cv, 3, ints (bestTo L fs L.length)⟩, ⟨bx (w.heap.size + 1), 38, [.int .i64 0, .slice none 0 0]⟩, ⟨bx w.heap.size, 38, [.int .i64 n, .slice p1 l1 k1]⟩]).swap
        have d0 := hS7.hd.c0
        have d1 := hS7.hd.c1
        have e0 := hS7.hd3.c0
        have s0 : wr.frozen? ⟨w.heap.size + 1, 0, none⟩ = false := hS7.own.free (v := bx (w.heap.size + 1)) (.head _) 0 (by simp)
        have s1 : wr.frozen? ⟨w.heap.size + 1, 1, none⟩ = false := hS7.own.free (v := bx (w.heap.size + 1)) (.head _) 1 (by simp)
        have HS7 := hid hS7
        clear hS hS7 HS6
        go_wp2_with fail
        have hS8 := (HS7.out.set 0 (by simp) (.int .i64 n)).set 1 (by simp) (.slice pv lv cv)
        rw [← ES.out] at hS8
        exact bodyPost_ret (ret_cx2 rfl rfl rfl hS8.hd) rfl ⟨_, rfl, hS8.sub (.cons _ (.cons_cons _ (.cons _ .slnil)))⟩

end Go.Proofs.Ytkfkmncecihflaa
