/-
  The classes of the points under the names that keep a complex: plain.
  The classes of the points under the names that keep a complex: the reference's function.
-/
import Derived.Test.YtjaofbdfhcgmeaaGreatZSyms
namespace Go.Proofs.YtjaofbdfhcgmeaaGreat
open Go.RowKit

/-- The names of the point i under the first j lists, as a set. -/
def clsO (L : List (List Int)) : Nat → Nat → Int
  | 0, _ => 0
  | j + 1, i => orP (clsO L j i) (gi (gr L j) i).toNat
def mixC (L : List (List Int)) (j i N : Nat) : List Int := (List.range N).map fun m => if m < i then clsO L (j + 1) m else clsO L j m
def lowB (s : Int) (i : Nat) : Bool := bits .and .i64 s (wrap64 (wrap64 (2 ^ i) - 1)) == 0
def pcsTo (L : List (List Int)) (J : Nat) : Nat → List Int
  | 0 => []
  | i + 1 => if lowB (clsO L J i) i = true then pcsTo L J i ++ [clsO L J i] else pcsTo L J i
def pcs (n : Int) (fs : List Int) : List Int := if isC n fs = true then pcsTo (symL n fs) (symL n fs).length n.toNat else []

theorem pcsTo_len (L : List (List Int)) (J i : Nat) : (pcsTo L J i).length ≤ i := by
  induction i with
  | zero => simp [pcsTo]
  | succ i ih =>
    rw [pcsTo]
    split
    · simp; omega
    · omega
theorem mixC_len (L : List (List Int)) (j i N : Nat) : (mixC L j i N).length = N := by simp [mixC]
theorem mixC_get {L : List (List Int)} {j i N m : Nat} (h : m < N) : gi (mixC L j i N) m = if m < i then clsO L (j + 1) m else clsO L j m := by
  rw [gi_eq _ m (by simpa [mixC] using h)]
  simp [mixC]
theorem mixC_at {L : List (List Int)} {j N m : Nat} (h : m < N) : gi (mixC L j m N) m = clsO L j m := by rw [mixC_get h, if_neg (by omega)]
theorem mixC_set {L : List (List Int)} {j i N : Nat} (_h : i < N) : (mixC L j i N).set i (clsO L (j + 1) i) = mixC L j (i + 1) N := by
  apply List.ext_getElem
  · simp [mixC]
  · intro m h1 h2
    rw [List.getElem_set]
    simp only [mixC, List.getElem_map, List.getElem_range]
    by_cases e : i = m
    · subst e; simp
    · rw [if_neg e]
      by_cases h3 : m < i
      · rw [if_pos h3, if_pos (by omega)]
      · rw [if_neg h3, if_neg (by omega)]
theorem mixC_full (L : List (List Int)) (j N : Nat) : mixC L j N N = mixC L (j + 1) 0 N := by
  apply List.map_congr_left
  intro m hm
  rw [if_pos (List.mem_range.1 hm), if_neg (by omega)]
theorem mixC_zero (L : List (List Int)) (N : Nat) : mixC L 0 0 N = List.replicate N 0 := by
  refine List.ext_getElem (by simp [mixC]) fun k h1 h2 => ?_
  simp [mixC, clsO]
theorem clsO_rng {L : List (List Int)} {N : Nat} (h : ∀ j, j < L.length → ∀ i, i < N → 0 ≤ gi (gr L j) i ∧ gi (gr L j) i ≤ 5) {j : Nat} (hj : j ≤ L.length) {i : Nat} (hi : i < N) : 0 ≤ clsO L j i ∧ clsO L j i < 64 := by
  induction j with
  | zero => simp [clsO]
  | succ j ih =>
    have ih := ih (by omega)
    have := h j (by omega) i hi
    exact orP_rng ih.1 ih.2 (by omega)
/-- The rows of the names that keep a complex. -/
theorem symL_names {n : Int} {fs : List Int} (h1 : 1 ≤ n) (h6 : n ≤ 6) {j : Nat} (hj : j < (symL n fs).length) : Names n (gr (symL n fs) j) := by
  have hm := gr_mem hj
  rw [symL] at hm
  have := lvl_names (by omega) (by omega) (List.mem_filter.1 hm).1
  rwa [show (n.toNat : Int) = n by omega] at this
theorem symL_len {n : Int} {fs : List Int} (h1 : 1 ≤ n) (h6 : n ≤ 6) : (symL n fs).length ≤ 46656 := Nat.le_trans (List.length_filter_le _ _) (lvlN_len (by omega) h6)

set_option maxHeartbeats 4000000 in
set_option maxRecDepth 100000 in
theorem PointClasses_c (n : Int) (va : Value) (fs : List Int) (w : World) (ha : Rd w va (ints fs)) : Calls Tryz.prog 16 #[cx n va] w fun e w' => ∃ v, e = .returned v ∧ St w w' [⟨v, 3, ints (pcs n fs)⟩] := by
  obtain ⟨p1, l1, k1, rfl⟩ := ha.form
  have hS := (St.start w).box n (.slice p1 l1 k1) 26
  have ha' := hS.old ha
  have HS := hid hS
  clear hS
  cases h1 : isC n fs with
  | false =>
    have E : Hid (pcs n fs = []) := if_neg (by simp [h1])
    unfold cx
    go_enter Tryz.func16, Tryz.ntmps16
    go_wp2_with fail
    refine (IsComplex_c n _ fs _ ha').mono ?_
    rw [h1]
    rintro e w1 ⟨rfl, hB⟩
    have HS1 := hid (HS.out.quiet hB)
    clear hB
    go_wp2_with fail
    go_ret
    exact ⟨_, rfl, by rw [E.out]; exact (HS1.out.nilRow _).sub (.cons_cons _ (List.nil_sublist _))⟩
  | true =>
    have E : Hid (pcs n fs = pcsTo (symL n fs) (symL n fs).length n.toNat) := if_pos h1
    have hc := isC_iff.1 h1
    have n1 := hc.1
    have n6 := hc.2.1
    have HC := hid hc
    obtain ⟨N, rfl⟩ : ∃ N : Nat, n = N := ⟨n.toNat, by omega⟩
    rw [Int.toNat_natCast] at E
    have HNM : Hid (∀ j, j < (symL N fs).length → Names N (gr (symL N fs) j)) := fun j hj => symL_names n1 n6 hj
    have hll : (symL N fs).length ≤ 46656 := symL_len n1 n6
    have HY : Hid (∀ w, Rd w (.slice p1 l1 k1) (ints fs) → Calls Tryz.prog 53 #[cx N (.slice p1 l1 k1)] w fun e w' => ∃ v vs, e = .returned v ∧ vs.length = (symL N fs).length ∧ St w w' (⟨v, 24, vs⟩ :: rowsOn vs (symL N fs) [])) := fun w h => symmetriesOf_c N _ fs w h HC.out
    clear hc
    obtain ⟨L, hL⟩ : ∃ L, L = symL N fs := ⟨_, rfl⟩
    rw [← hL] at HNM E hll HY
    have HX : Hid (∀ j, j < L.length → ∀ i, i < N → 0 ≤ gi (gr L j) i ∧ gi (gr L j) i ≤ 5) := fun j hj i hi => names_gi (HNM.out j hj) i (by have := (HNM.out j hj).2.2.1; omega)
    clear hL
    unfold cx
    go_enter Tryz.func16, Tryz.ntmps16
    go_wp2_with fail
    refine (IsComplex_c N _ fs _ ha').mono ?_
    rw [h1]
    rintro e w1 ⟨rfl, hB⟩
    have HS1 := hid (HS.out.quiet hB)
    have d0 := HS1.out.hd.c0
    have d1 := HS1.out.hd.c1
    clear hB
    go_wp2_with (at_make; refine wpList_mk rfl _ _ rfl tI HS1.out.own N (by omega) rfl rfl ?_)
    intro u w2 hO hB
    have hS2 : St w w2 _ := ⟨hO, HS1.out.bel.trans (hB.mono HS1.out.bel.size)⟩
    clear hO hB d0 d1
    have d0 := hS2.tail.hd.c0
    have d1 := hS2.tail.hd.c1
    have HS2 := hid hS2
    clear hS2
    go_wp2_with fail
    refine (HY.out _ (HS2.out.old ha)).mono ?_
    rintro e w3 ⟨v, vs, rfl, hvl, hS3⟩
    have hS4 := HS2.out.callM hS3
    have lu := (hS4.rdM hvl).ln
    have hS5 := hS4.bring (l1 := ⟨v, 24, vs⟩ :: rows vs L)
    rw [show (List.replicate N (Value.int .i64 0)) = ints (mixC L 0 0 N) by rw [mixC_zero]; simp [ints]] at hS5
    have HS5 := hid hS5
    have HVL := hid hvl
    clear hS3 hS4 hvl hS5
    go_wp2_with fail
    go_loopw [20] (fun c wr => ∃ j : Nat, j ≤ L.length ∧ c = .int .i64 j ∧ St w wr (⟨u, 3, ints (mixC L j 0 N)⟩ :: ⟨v, 24, vs⟩ :: rowsOn vs L [⟨bx w.heap.size, 26, [.int .i64 N, .slice p1 l1 k1]⟩])) (fun c _ => L.length - (intOf c).toNat)
    case atStart => exact ⟨0, Nat.zero_le _, rfl, HS5.out⟩
    case round =>
      obtain ⟨j, hj, rfl, hS⟩ := hrel
      have HS6 := hid hS
      by_cases hlt : j < L.length
      · have hM := hS.tail.rdM HVL.out
        have f1 := hM.ix j hlt
        have f2 := hM.cell j hlt
        obtain ⟨pp, pl, pc', hp⟩ := (hM.row j hlt).form
        have hrow := hM.row j hlt
        rw [hp] at f2 hrow
        have HP := hid hp
        have hrl : (gr L j).length = N := by have := (HNM.out j hlt).2.2.1; omega
        have la := hrow.iln tI
        rw [hrl] at la
        clear hS hM hrow hp
        go_wp2_with fail
        go_loopw [26] (fun c wi => ∃ i : Nat, i ≤ N ∧ c = .int .i64 i ∧ St w wi (⟨u, 3, ints (mixC L j i N)⟩ :: ⟨v, 24, vs⟩ :: rowsOn vs L [⟨bx w.heap.size, 26, [.int .i64 N, .slice p1 l1 k1]⟩])) (fun c _ => N - (intOf c).toNat)
        case atStart => exact ⟨0, Nat.zero_le _, rfl, HS6.out⟩
        case round =>
          obtain ⟨i, hi, rfl, hS⟩ := hrel
          have HS7 := hid hS
          by_cases hli : i < N
          · have hrow := (hS.tail.rdM HVL.out).row j hlt
            rw [HP.out] at hrow
            have g1 := hrow.iix tI i (by omega)
            have g2 := hrow.intCell i (by omega)
            have k1' := hS.hd.iix tI i (by rw [mixC_len]; exact hli)
            have k2 := hS.hd.intCell i (by rw [mixC_len]; exact hli)
            have k3 := hS.own.free (.head _) i (by simp [ints, mixC_len]; exact hli)
            rw [mixC_at hli] at k2
            obtain ⟨x0, x5⟩ := HX.out j hlt i hli
            have EX : Hid (clsO L (j + 1) i = orP (clsO L j i) (gi (gr L j) i).toNat) := rfl
            clear hS hrow
            go_wp2_with fail
            go_roundw
            case rel =>
              have hS8 := HS7.out.set i (by simp [ints, mixC_len]; exact hli) (.int .i64 (clsO L (j + 1) i))
              rw [ints_set, mixC_set hli] at hS8
              exact ⟨i + 1, by omega, by go_num, hS8⟩
            case measure => simp [intOf]; omega
          · have ei : i = N := by omega
            subst ei
            clear hS
            go_wp2_with fail
            go_roundw
            case rel =>
              have hS8 := HS7.out
              rw [mixC_full] at hS8
              exact ⟨j + 1, by omega, by go_num, hS8⟩
            case measure => simp [intOf]; omega
      · have ej : j = L.length := by omega
        subst ej
        have lc := hS.hd.iln tI
        rw [mixC_len] at lc
        have hS8 := (hS.sub (.cons_cons _ (List.nil_sublist _)) : St w _ [⟨u, 3, ints (mixC L L.length 0 N)⟩])
        have HS8 := hid (hS8.nilRow 3)
        clear hS hS8
        go_wp2_with fail
        go_loopw [8, 44] (fun o c wi => ∃ (i : Nat) (v2 : Value), i ≤ N ∧ c = .int .i64 i ∧ o = v2 ∧ St w wi [⟨v2, 3, ints (pcsTo L L.length i)⟩, ⟨u, 3, ints (mixC L L.length 0 N)⟩]) (fun _ c _ => N - (intOf c).toNat)
        case atStart => exact ⟨0, _, Nat.zero_le _, rfl, rfl, HS8.out⟩
        case round =>
          obtain ⟨i, v2, hi, rfl, rfl, hS⟩ := hrel
          have HS9 := hid hS
          by_cases hli : i < N
          · have k1' := hS.hd2.iix tI i (by rw [mixC_len]; exact hli)
            have k2 := hS.hd2.intCell i (by rw [mixC_len]; exact hli)
            rw [mixC_get hli, if_neg (by omega)] at k2
            obtain ⟨x0, x1⟩ := clsO_rng HX.out (Nat.le_refl _) hli
            have hpl : (ints (pcsTo L L.length i)).length ≤ 6 := by have := pcsTo_len L L.length i; simp; omega
            clear hS
            cases hb : lowB (clsO L L.length i) i with
            | true =>
              have EP : Hid (pcsTo L L.length (i + 1) = pcsTo L L.length i ++ [clsO L L.length i]) := by show _ = _; rw [pcsTo, if_pos hb]
              have hb' : (bits .and .i64 (clsO L L.length i) (wrap64 (wrap64 (2 ^ i) - 1)) == 0) = true := hb
              clear hb
              go_wp2_with (at_builtin; refine wpList_push rfl _ _ rfl tI HS9.out.own (.int .i64 (clsO L L.length i)) rfl (by omega) rfl rfl ?_)
              intro v4 w4 hO4 hb4
              rw [ints_snoc, ← EP.out] at hO4
              have HS10 := hid (HS9.out.mut hO4 hb4)
              clear hO4 hb4
              go_wp2_with fail
              go_roundw
              case rel => exact ⟨i + 1, v4, by omega, by go_num, rfl, HS10.out⟩
              case measure => simp [intOf]; omega
            | false =>
              have EP : Hid (pcsTo L L.length (i + 1) = pcsTo L L.length i) := by show _ = _; rw [pcsTo, if_neg (by simp [hb])]
              have hb' : (bits .and .i64 (clsO L L.length i) (wrap64 (wrap64 (2 ^ i) - 1)) == 0) = false := hb
              clear hb
              go_wp2_with fail
              go_roundw
              case rel => exact ⟨i + 1, _, by omega, by go_num, rfl, by rw [EP.out]; exact HS9.out⟩
              case measure => simp [intOf]; omega
          · have ei : i = N := by omega
            subst ei
            clear hS
            go_wp2_with fail
            go_ret
            exact ⟨_, rfl, by rw [E.out]; exact HS9.out.sub (.cons_cons _ (List.nil_sublist _))⟩

end Go.Proofs.YtjaofbdfhcgmeaaGreat

namespace Go.Proofs.YtjaofbdfhcgmeaaGreat
open Go.RowKit

set_option maxHeartbeats 4000000 in
set_option maxRecDepth 100000 in
theorem sPointClasses_c (n : Int) (va : Value) (fs : List Int) (w : World) (ha : Rd w va (ints fs)) : Calls Tryz.prog 22 #[cx n va] w fun e w' => ∃ v, e = .returned v ∧ St w w' [⟨v, 3, ints (pcs n fs)⟩] := by
  obtain ⟨p1, l1, k1, rfl⟩ := ha.form
  have hS := ((St.start w).box n (.slice p1 l1 k1) 26).newAt #[] 3 (by simp) (H := w.heap.size + 1) (by simp)
  have ha' := hS.old ha
  have HS := hid hS
  clear hS
  cases h1 : isC n fs with
  | false =>
    have E : Hid (pcs n fs = []) := if_neg (by simp [h1])
    unfold cx
    go_enter Tryz.func22, Tryz.ntmps22
    go_wp2_with fail
    refine (sIsComplex_c n _ fs _ ha').mono ?_
    rw [h1]
    rintro e w1 ⟨rfl, hB⟩
    have HS1 := hid (HS.out.quiet hB)
    clear hB
    go_wp2_with fail
    go_ret
    exact ⟨_, rfl, by rw [E.out]; exact HS1.out.sub (.cons_cons _ (List.nil_sublist _))⟩
  | true =>
    have E : Hid (pcs n fs = pcsTo (symL n fs) (symL n fs).length n.toNat) := if_pos h1
    have hc := isC_iff.1 h1
    have n1 := hc.1
    have n6 := hc.2.1
    have HC := hid hc
    obtain ⟨N, rfl⟩ : ∃ N : Nat, n = N := ⟨n.toNat, by omega⟩
    rw [Int.toNat_natCast] at E
    have HNM : Hid (∀ j, j < (symL N fs).length → Names N (gr (symL N fs) j)) := fun j hj => symL_names n1 n6 hj
    have hll : (symL N fs).length ≤ 46656 := symL_len n1 n6
    have HY : Hid (∀ w, Rd w (.slice p1 l1 k1) (ints fs) → Calls Tryz.prog 58 #[cx N (.slice p1 l1 k1)] w fun e w' => ∃ v vs, e = .returned v ∧ vs.length = (symL N fs).length ∧ St w w' (⟨v, 24, vs⟩ :: rowsOn vs (symL N fs) [])) := fun w h => l9Symmetries_c N _ fs w h HC.out
    clear hc
    obtain ⟨L, hL⟩ : ∃ L, L = symL N fs := ⟨_, rfl⟩
    rw [← hL] at HNM E hll HY
    have HX : Hid (∀ j, j < L.length → ∀ i, i < N → 0 ≤ gi (gr L j) i ∧ gi (gr L j) i ≤ 5) := fun j hj i hi => names_gi (HNM.out j hj) i (by have := (HNM.out j hj).2.2.1; omega)
    clear hL
    unfold cx
    go_enter Tryz.func22, Tryz.ntmps22
    go_wp2_with fail
    refine (sIsComplex_c N _ fs _ ha').mono ?_
    rw [h1]
    rintro e w1 ⟨rfl, hB⟩
    have HS1 := hid (HS.out.quiet hB)
    have d0 := HS1.out.hd2.c0
    have d1 := HS1.out.hd2.c1
    clear hB
    go_wp2_with fail
    refine (HY.out _ (HS1.out.old ha)).mono ?_
    rintro e w3 ⟨v, vs, rfl, hvl, hS3⟩
    have hS4 := HS1.out.callM hS3
    have lu := (hS4.rdM hvl).ln
    have HS5 := hid (hS4.bring (l1 := ⟨v, 24, vs⟩ :: rows vs L))
    have HVL := hid hvl
    clear hS3 hS4 hvl
    go_wp2_with fail
    go_loopw [3, 5] (fun o c wr => ∃ (i : Nat) (v2 : Value), i ≤ N ∧ c = .int .i64 i ∧ o = v2 ∧ St w wr (⟨v2, 3, ints (pcsTo L L.length i)⟩ :: ⟨v, 24, vs⟩ :: rowsOn vs L [⟨bx w.heap.size, 26, [.int .i64 N, .slice p1 l1 k1]⟩])) (fun _ c _ => N - (intOf c).toNat)
    case atStart => exact ⟨0, _, Nat.zero_le _, rfl, rfl, HS5.out⟩
    case round =>
      obtain ⟨i, v2, hi, rfl, rfl, hS⟩ := hrel
      have HS9 := hid hS
      have c0 := hS.tail.dropRows.hd.c0
      clear hS
      by_cases hli : i < N
      · go_wp2_with fail
        go_loop [6, 7] (fun s c => ∃ k : Nat, k ≤ L.length ∧ c = .int .i64 k ∧ s = .int .i64 (clsO L k i)) (fun _ c => L.length - (intOf c).toNat)
        case atStart => exact ⟨0, Nat.zero_le _, rfl, rfl⟩
        case round =>
          obtain ⟨k, hk, rfl, rfl⟩ := hrel
          by_cases hlt : k < L.length
          · have hM := HS9.out.tail.rdM HVL.out
            have f1 := hM.ix k hlt
            have f2 := hM.cell k hlt
            obtain ⟨pp, pl, pc', hp⟩ := (hM.row k hlt).form
            have hrow := hM.row k hlt
            rw [hp] at f2 hrow
            have hrl : (gr L k).length = N := by have := (HNM.out k hlt).2.2.1; omega
            have g1 := hrow.iix tI i (by omega)
            have g2 := hrow.intCell i (by omega)
            obtain ⟨x0, x5⟩ := HX.out k hlt i hli
            have EX : Hid (clsO L (k + 1) i = orP (clsO L k i) (gi (gr L k) i).toNat) := rfl
            clear hM hrow hp
            go_wp2_with fail
            go_round
            case rel => exact ⟨k + 1, by omega, by go_num, by rw [EX.out]; rfl⟩
            case measure => simp [intOf]; omega
          · have ek : k = L.length := by omega
            subst ek
            obtain ⟨x0, x1⟩ := clsO_rng HX.out (Nat.le_refl _) hli
            have hpl : (ints (pcsTo L L.length i)).length ≤ 6 := by have := pcsTo_len L L.length i; simp; omega
            cases hb : lowB (clsO L L.length i) i with
            | true =>
              have EP : Hid (pcsTo L L.length (i + 1) = pcsTo L L.length i ++ [clsO L L.length i]) := by show _ = _; rw [pcsTo, if_pos hb]
              have hb' : (bits .and .i64 (clsO L L.length i) (wrap64 (wrap64 (2 ^ i) - 1)) == 0) = true := hb
              clear hb
              go_wp2_with (at_builtin; refine wpList_push rfl _ _ rfl tI HS9.out.own (.int .i64 (clsO L L.length i)) rfl (by omega) rfl rfl ?_)
              intro v4 w4 hO4 hb4
              rw [ints_snoc, ← EP.out] at hO4
              have HS10 := hid (HS9.out.mut hO4 hb4)
              clear hO4 hb4
              go_wp2_with fail
              go_roundw
              case rel => exact ⟨i + 1, v4, by omega, by go_num, rfl, HS10.out⟩
              case measure => simp [intOf]; omega
            | false =>
              have EP : Hid (pcsTo L L.length (i + 1) = pcsTo L L.length i) := by show _ = _; rw [pcsTo, if_neg (by simp [hb])]
              have hb' : (bits .and .i64 (clsO L L.length i) (wrap64 (wrap64 (2 ^ i) - 1)) == 0) = false := hb
              clear hb
              go_wp2_with fail
              go_roundw
              case rel => exact ⟨i + 1, _, by omega, by go_num, rfl, by rw [EP.out]; exact HS9.out⟩
              case measure => simp [intOf]; omega
      · have ei : i = N := by omega
        subst ei
        go_wp2_with fail
        go_ret
        exact ⟨_, rfl, by rw [E.out]; exact HS9.out.sub (.cons_cons _ (List.nil_sublist _))⟩

theorem pcs_len (n : Int) (fs : List Int) : (pcs n fs).length ≤ 1000000 := by
  unfold pcs
  split
  · rename_i h
    have hc := isC_iff.1 h
    have n1 := hc.1
    have n6 := hc.2.1
    have := pcsTo_len (symL n fs) (symL n fs).length n.toNat
    omega
  · simp

end Go.Proofs.YtjaofbdfhcgmeaaGreat
