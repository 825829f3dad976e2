/-
  The names that keep a complex.
  The names that keep a complex: the reference's.
  The number of the names that keep a complex.
-/
import Derived.Test.YtjaofbdfhcgmeaaGreatAll
import Derived.Test.YtjaofbdfhcgmeaaGreatEq
import Derived.Deep.RegionHeld3
namespace Go.Proofs.YtjaofbdfhcgmeaaGreat
open Go.RowKit

/-- The values at the places where the rows are such. -/
def keepV (P : List Int → Bool) (vs : List Value) (L : List (List Int)) : List Value := ((vs.zip L).filter fun p => P p.2).map Prod.fst
theorem keepV_len (P : List Int → Bool) {vs : List Value} {L : List (List Int)} (h : vs.length = L.length) : (keepV P vs L).length = (L.filter P).length := by
  induction vs generalizing L with
  | nil => cases L with
    | nil => rfl
    | cons _ _ => simp at h
  | cons v vs ih => cases L with
    | nil => simp at h
    | cons r L =>
      have := ih (L := L) (by simpa using h)
      simp only [keepV, List.zip_cons_cons, List.filter_cons] at this ⊢
      cases P r <;> simp_all
theorem keepV_rows (P : List Int → Bool) {vs : List Value} {L : List (List Int)} (h : vs.length = L.length) : (rows (keepV P vs L) (L.filter P)).Sublist (rows vs L) := by
  induction vs generalizing L with
  | nil => cases L with
    | nil => exact List.Sublist.refl _
    | cons _ _ => simp at h
  | cons v vs ih => cases L with
    | nil => simp at h
    | cons r L =>
      have := ih (L := L) (by simpa using h)
      simp only [rows, keepV, List.zip_cons_cons, List.filter_cons] at this ⊢
      cases P r
      · exact this.cons _
      · exact this.cons_cons _
theorem keepV_snoc (P : List Int → Bool) {vs : List Value} {L : List (List Int)} (h : vs.length = L.length) {j : Nat} (hj : j < L.length) :
    keepV P (vs.take (j + 1)) (L.take (j + 1)) = keepV P (vs.take j) (L.take j) ++ if P (gr L j) = true then [gv vs j] else [] := by
  have e1 : vs.take (j + 1) = vs.take j ++ [gv vs j] := by
    rw [List.take_succ_eq_append_getElem (by omega)]
    simp [gv, List.getD, show j < vs.length by omega]
  rw [e1, take_succ_gr hj, keepV, List.zip_append (by simp; omega), List.filter_append, List.map_append]
  congr 1
  simp only [List.zip_cons_cons, List.zip_nil_right, List.filter_cons, List.filter_nil]
  cases P (gr L j) <;> rfl
theorem keepV_le (P : List Int → Bool) (vs : List Value) (L : List (List Int)) : (keepV P vs L).length ≤ vs.length := by
  rw [keepV, List.length_map]
  refine Nat.le_trans (List.length_filter_le _ _) ?_
  rw [List.length_zip]; omega

/-- Whether names keep the facets. -/
def fixB (fs : List Int) (xs : List Int) : Bool := decide (rnL fs xs = fs)
def symL (n : Int) (fs : List Int) : List (List Int) := (lvl n.toNat n.toNat).filter (fixB fs)
theorem lvlN_len {n : Int} (h0 : 0 ≤ n) (h6 : n ≤ 6) : (lvl n.toNat n.toNat).length ≤ 46656 :=
  Nat.le_trans (lvl_len (by omega) _) (Nat.le_trans (Nat.pow_le_pow_right (by omega) (show n.toNat ≤ 6 by omega)) (by decide))

set_option maxHeartbeats 4000000 in
set_option maxRecDepth 100000 in
theorem symmetriesOf_c (n : Int) (va : Value) (fs : List Int) (w : World) (ha : Rd w va (ints fs)) (hc : IsC n fs) :
    Calls Tryz.prog 53 #[cx n va] w fun e w' => ∃ v vs, e = .returned v ∧ vs.length = (symL n fs).length ∧ St w w' (⟨v, 24, vs⟩ :: rowsOn vs (symL n fs) []) := by
  obtain ⟨p1, l1, k1, rfl⟩ := ha.form
  have hS := (St.start w).box n (.slice p1 l1 k1) 26
  have d0 := hS.hd.c0
  have HS := hid hS
  clear hS
  have n1 := hc.1
  have n6 := hc.2.1
  have hle : fs.length ≤ 1000 := by have := isC_le hc; omega
  obtain ⟨N, hN⟩ : ∃ N : Nat, N = n.toNat := ⟨_, rfl⟩
  have eN : (N : Int) = n := by omega
  have HNM : Hid (∀ j, j < (lvl N N).length → Names n (gr (lvl N N) j)) := fun j hj => by rw [← eN]; exact lvl_names (by omega) (by omega) (gr_mem hj)
  have ES : Hid (symL n fs = (lvl N N).filter (fixB fs)) := by show _ = _; rw [symL, hN]
  have hll : (lvl N N).length ≤ 46656 := by rw [hN]; exact lvlN_len (by omega) n6
  have HA : Hid (∀ w, Calls Tryz.prog 48 #[.int .i64 n] w fun e w' => ∃ v vs, e = .returned v ∧ vs.length = (lvl N N).length ∧ St w w' (⟨v, 24, vs⟩ :: rowsOn vs (lvl N N) [])) := fun w => by rw [← eN]; exact allNames_c N (by omega) w
  obtain ⟨L, hL⟩ : ∃ L, L = lvl N N := ⟨_, rfl⟩
  rw [← hL] at HNM ES hll HA
  have HC := hid hc
  clear hc hL
  unfold cx
  go_enter Tryz.func53, Tryz.ntmps53
  go_wp2_with fail
  refine (HA.out _).mono ?_
  rintro e w1 ⟨u, vs, rfl, hvl, hS1⟩
  have hS2 := HS.out.callM hS1
  have lu := (hS2.rdM hvl).ln
  have HS2 := hid (hS2.nilRow 24)
  have HVL := hid hvl
  clear hS1 hS2 hvl
  go_wp2_with fail
  go_loopw [3, 10] (fun o c wr => ∃ (j : Nat) (v : Value), j ≤ L.length ∧ c = .int .i64 j ∧ o = v ∧ St w wr (⟨v, 24, keepV (fixB fs) (vs.take j) (L.take j)⟩ :: ⟨u, 24, vs⟩ :: rowsOn vs L [⟨bx w.heap.size, 26, [.int .i64 n, .slice p1 l1 k1]⟩])) (fun _ c _ => L.length - (intOf c).toNat)
  case atStart => exact ⟨0, _, Nat.zero_le _, rfl, rfl, HS2.out⟩
  case round =>
    obtain ⟨j, v, hj, rfl, ho, hS⟩ := hrel
    have ho' := ho.symm
    subst ho'
    have HS3 := hid hS
    by_cases hlt : j < L.length
    · have hM := hS.tail.rdM HVL.out
      have f1 := hM.ix j hlt
      have f2 := hM.cell j hlt
      obtain ⟨pp, pl, pc', hp⟩ := (hM.row j hlt).form
      have hrow := hM.row j hlt
      rw [hp] at f2 hrow
      have HROW := hid hrow
      have HNJ := hid (HNM.out j hlt)
      have c1 := hS.tail.dropRows.hd.c1
      have EK := hid (keepV_snoc (fixB fs) HVL.out hlt)
      rw [hp] at EK
      have hkl := keepV_le (fixB fs) (vs.take j) (L.take j)
      have hkl2 : (vs.take j).length ≤ 46656 := by rw [List.length_take, HVL.out]; omega
      clear hS hM hrow hp
      cases hb : fixB fs (gr L j) with
      | true =>
        have EK2 : Hid (keepV (fixB fs) (vs.take (j + 1)) (L.take (j + 1)) = keepV (fixB fs) (vs.take j) (L.take j) ++ [.slice pp pl pc']) := by show _ = _; rw [EK.out, if_pos hb]
        have HB : Hid (decide (rnL fs (gr L j) = fs) = true) := hb
        clear hb
        go_wp2_with fail
        go_region_with (first | (go_at_call 37; refine (renamedFacets_c n _ _ fs (gr L j) _ ((HS3.out.old ha).drew 1) (HROW.out.drew 1) HNJ.out HC.out.2.2.1 (bef_nodup HC.out.2.2.2.1) hle).mono ?_; rintro e w2 ⟨v2, rfl, hS4⟩; have hS5 := (HS3.out.drewN 1).call1 hS4; have k1' := hS5.tail.tail.dropRows.hd.c1; have HS5 := hid hS5; clear hS5 hS4) | (go_at_call 54; refine (slEqual_c _ _ (rnL fs (gr L j)) fs _ HS5.out.hd (HS5.out.old ha)).mono ?_; rw [HB.out]; rintro e w3 ⟨rfl, q, rfl⟩; have HS6 := hid (HS5.out.tail.drewN q)))
        all_goals
          go_wp2_with (at_builtin; refine wpList_push rfl _ _ rfl tSS HS6.out.own (.slice pp pl pc') rfl (by omega) rfl rfl ?_)
          intro v4 w4 hO4 hb4
          rw [← EK2.out] at hO4
          have HS7 := hid (HS6.out.mut hO4 hb4)
          clear hO4 hb4
          go_wp2_with fail
          go_roundw
          case rel => exact ⟨j + 1, v4, by omega, by go_num, rfl, HS7.out⟩
          case measure => simp [intOf]; omega
      | false =>
        have EK2 : Hid (keepV (fixB fs) (vs.take (j + 1)) (L.take (j + 1)) = keepV (fixB fs) (vs.take j) (L.take j)) := by show _ = _; rw [EK.out, if_neg (by simp [hb]), List.append_nil]
        have HB : Hid (decide (rnL fs (gr L j) = fs) = false) := hb
        clear hb
        go_wp2_with fail
        go_region_with (first | (go_at_call 37; refine (renamedFacets_c n _ _ fs (gr L j) _ ((HS3.out.old ha).drew 1) (HROW.out.drew 1) HNJ.out HC.out.2.2.1 (bef_nodup HC.out.2.2.2.1) hle).mono ?_; rintro e w2 ⟨v2, rfl, hS4⟩; have hS5 := (HS3.out.drewN 1).call1 hS4; have k1' := hS5.tail.tail.dropRows.hd.c1; have HS5 := hid hS5; clear hS5 hS4) | (go_at_call 54; refine (slEqual_c _ _ (rnL fs (gr L j)) fs _ HS5.out.hd (HS5.out.old ha)).mono ?_; rw [HB.out]; rintro e w3 ⟨rfl, q, rfl⟩; have HS6 := hid (HS5.out.tail.drewN q)))
        all_goals
          go_wp2_with fail
          go_roundw
          case rel => exact ⟨j + 1, _, by omega, by go_num, rfl, by rw [EK2.out]; exact HS6.out⟩
          case measure => simp [intOf]; omega
    · have ej : Hid (j = L.length) := by show _ = _; omega
      clear hS
      go_wp2_with fail
      go_ret
      have h8 := HS3.out
      have e1 : vs.take j = vs := List.take_of_length_le (by have := HVL.out; have := ej.out; omega)
      have e2 : L.take j = L := List.take_of_length_le (by have := ej.out; omega)
      rw [e1, e2] at h8
      have h9 : (keepV (fixB fs) vs L).length = (symL n fs).length := by rw [ES.out]; exact keepV_len _ HVL.out
      have h7 : St w wr (⟨v, 24, keepV (fixB fs) vs L⟩ :: rowsOn (keepV (fixB fs) vs L) (symL n fs) []) := by
        rw [ES.out]
        exact h8.sub (.cons_cons _ (.cons _ (List.Sublist.append (keepV_rows _ HVL.out) (List.nil_sublist _))))
      first | exact ⟨_, _, rfl, h9, h7⟩ | exact ⟨_, rfl, _, h9, h7⟩

end Go.Proofs.YtjaofbdfhcgmeaaGreat

namespace Go.Proofs.YtjaofbdfhcgmeaaGreat
open Go.RowKit

theorem run_field1 (x y : Value) (w : World) : (Instr.field 26 (.agg #[x, y]) 1).run Tryz.prog w = .ok y w := by
  go_simp
  simp [Instr.field, part, asAgg]

set_option maxHeartbeats 4000000 in
set_option maxRecDepth 100000 in
theorem l9Symmetries_c (n : Int) (va : Value) (fs : List Int) (w : World) (ha : Rd w va (ints fs)) (hc : IsC n fs) :
    Calls Tryz.prog 58 #[cx n va] w fun e w' => ∃ v vs, e = .returned v ∧ vs.length = (symL n fs).length ∧ St w w' (⟨v, 24, vs⟩ :: rowsOn vs (symL n fs) []) := by
  obtain ⟨p1, l1, k1, rfl⟩ := ha.form
  have hS := (St.start w).box n (.slice p1 l1 k1) 26
  have d0 := hS.hd.c0
  have HS := hid hS
  clear hS
  have n1 := hc.1
  have n6 := hc.2.1
  have hle : fs.length ≤ 1000 := by have := isC_le hc; omega
  obtain ⟨N, hN⟩ : ∃ N : Nat, N = n.toNat := ⟨_, rfl⟩
  have eN : (N : Int) = n := by omega
  have HNM : Hid (∀ j, j < (lvl N N).length → Names n (gr (lvl N N) j)) := fun j hj => by rw [← eN]; exact lvl_names (by omega) (by omega) (gr_mem hj)
  have ES : Hid (symL n fs = (lvl N N).filter (fixB fs)) := by show _ = _; rw [symL, hN]
  have hll : (lvl N N).length ≤ 46656 := by rw [hN]; exact lvlN_len (by omega) n6
  have HA : Hid (∀ (u hv : Value) (w0 w : World) (env : List Ent), St w0 w (⟨u, 24, []⟩ :: ⟨hv, 3, []⟩ :: env) → Calls Tryz.prog 51 #[.int .i64 n, hv, u] w fun e w' => ∃ v vs, e = .returned v ∧ vs.length = (lvl N N).length ∧ St w0 w' (⟨v, 24, vs⟩ :: rowsOn vs (lvl N N) env)) := fun u hv w0 w env h => by
    have h6 : (6 : Nat) ^ N ≤ 46656 := Nat.le_trans (Nat.pow_le_pow_right (by omega) (show N ≤ 6 by omega)) (by decide)
    have := l9All_c N (by omega) N u hv [] [] [] w0 w env (by simp) rfl (by simp; omega) h
    rw [dfs_all, List.nil_append, eN] at this
    exact this
  obtain ⟨L, hL⟩ : ∃ L, L = lvl N N := ⟨_, rfl⟩
  rw [← hL] at HNM ES hll HA
  have HC := hid hc
  clear hc hL
  have HS0 := hid (HS.out.newAt #[] 24 (by simp) (H := w.heap.size + 1) (by simp))
  have HS1 := hid (HS0.out.newAt #[] 3 (by simp) (H := w.heap.size + 1 + 1) (by simp))
  have HS1' := hid (HS1.out.newAt #[] 24 (by simp) (H := w.heap.size + 1 + 1 + 1) (by simp))
  unfold cx
  go_enter Tryz.func58, Tryz.ntmps58
  go_wp2_with fail
  refine (HA.out _ _ w _ _ HS1'.out).mono ?_
  rintro e w1 ⟨u, vs, rfl, hvl, hS1⟩
  have lu := (hS1.rdM hvl).ln
  have HS2 := hid (hS1.perm rowsLift)
  have HVL := hid hvl
  clear hS1 hvl
  go_wp2_with fail
  go_loopw [3, 5] (fun o c wr => ∃ (j : Nat) (v : Value), j ≤ L.length ∧ c = .int .i64 j ∧ o = v ∧ St w wr (⟨v, 24, keepV (fixB fs) (vs.take j) (L.take j)⟩ :: ⟨u, 24, vs⟩ :: rowsOn vs L [⟨bx w.heap.size, 26, [.int .i64 n, .slice p1 l1 k1]⟩])) (fun _ c _ => L.length - (intOf c).toNat)
  case atStart => exact ⟨0, _, Nat.zero_le _, rfl, rfl, HS2.out⟩
  case round =>
    obtain ⟨j, v, hj, rfl, ho, hS⟩ := hrel
    have ho' := ho.symm
    subst ho'
    have HS3 := hid hS
    by_cases hlt : j < L.length
    · have hM := hS.tail.rdM HVL.out
      have f1 := hM.ix j hlt
      have f2 := hM.cell j hlt
      obtain ⟨pp, pl, pc', hp⟩ := (hM.row j hlt).form
      have hrow := hM.row j hlt
      rw [hp] at f2 hrow
      have HROW := hid hrow
      have HNJ := hid (HNM.out j hlt)
      have c0 := hS.tail.dropRows.hd.c0
      have c1 := hS.tail.dropRows.hd.c1
      have EK := hid (keepV_snoc (fixB fs) HVL.out hlt)
      rw [hp] at EK
      have hkl := keepV_le (fixB fs) (vs.take j) (L.take j)
      have hkl2 : (vs.take j).length ≤ 46656 := by rw [List.length_take, HVL.out]; omega
      have HGV := hid hp
      clear hS hM hrow hp
      cases hb : fixB fs (gr L j) with
      | true =>
        have EK2 : Hid (keepV (fixB fs) (vs.take (j + 1)) (L.take (j + 1)) = keepV (fixB fs) (vs.take j) (L.take j) ++ [.slice pp pl pc']) := by show _ = _; rw [EK.out, if_pos hb]
        have HB : Hid (decide (rnL fs (gr L j) = fs) = true) := hb
        clear hb
        go_wp2_with fail
        go_region_held3 (fun w' => w'.cell? ⟨w.heap.size, 0, none⟩ = some (.int .i64 n) ∧ w'.cell? ⟨w.heap.size, 1, none⟩ = some (.slice p1 l1 k1) ∧ w'.cell? (adr u j) = some (.slice pp pl pc')) (first | go_keep | exact ⟨k0', k1', f3⟩) (first | (go_at_call 39; refine (l9Complex_c n n _ _ fs (gr L j) _ ((HS3.out.old ha).drew 1) (HROW.out.drew 1) HNJ.out HC.out.rng hle).mono ?_; rintro e w2 ⟨v2, rfl, hS4⟩; have hS5 := (HS3.out.drewN 1).call1 hS4; obtain ⟨vp, vl, vc, rfl⟩ := hS5.hd.form; have ff := run_field1 (.int .i64 n) (.slice vp vl vc); have k0' := hS5.tail.tail.dropRows.hd.c0; have k1' := hS5.tail.tail.dropRows.hd.c1; have f3 := (hS5.tail.tail.rdM HVL.out).cell j hlt; rw [HGV.out] at f3; have HS5 := hid hS5; clear hS5 hS4; unfold cx) | (go_at_call 79; refine (l2Same_c _ _ (rnL fs (gr L j)) fs _ HS5.out.hd (HS5.out.old ha)).mono ?_; rw [HB.out]; rintro e w3 ⟨rfl, q, rfl⟩; have HS6 := hid (HS5.out.tail.drewN q)))
        all_goals
          go_wp2_with (at_builtin; refine wpList_push rfl _ _ rfl tSS HS6.out.own (.slice pp pl pc') rfl (by omega) rfl rfl ?_)
          intro v4 w4 hO4 hb4
          rw [← EK2.out] at hO4
          have HS7 := hid (HS6.out.mut hO4 hb4)
          clear hO4 hb4
          go_wp2_with fail
          go_roundw
          case rel => exact ⟨j + 1, v4, by omega, by go_num, rfl, HS7.out⟩
          case measure => simp [intOf]; omega
      | false =>
        have EK2 : Hid (keepV (fixB fs) (vs.take (j + 1)) (L.take (j + 1)) = keepV (fixB fs) (vs.take j) (L.take j)) := by show _ = _; rw [EK.out, if_neg (by simp [hb]), List.append_nil]
        have HB : Hid (decide (rnL fs (gr L j) = fs) = false) := hb
        clear hb
        go_wp2_with fail
        go_region_held3 (fun w' => w'.cell? ⟨w.heap.size, 0, none⟩ = some (.int .i64 n) ∧ w'.cell? ⟨w.heap.size, 1, none⟩ = some (.slice p1 l1 k1) ∧ w'.cell? (adr u j) = some (.slice pp pl pc')) (first | go_keep | exact ⟨k0', k1', f3⟩) (first | (go_at_call 39; refine (l9Complex_c n n _ _ fs (gr L j) _ ((HS3.out.old ha).drew 1) (HROW.out.drew 1) HNJ.out HC.out.rng hle).mono ?_; rintro e w2 ⟨v2, rfl, hS4⟩; have hS5 := (HS3.out.drewN 1).call1 hS4; obtain ⟨vp, vl, vc, rfl⟩ := hS5.hd.form; have ff := run_field1 (.int .i64 n) (.slice vp vl vc); have k0' := hS5.tail.tail.dropRows.hd.c0; have k1' := hS5.tail.tail.dropRows.hd.c1; have f3 := (hS5.tail.tail.rdM HVL.out).cell j hlt; rw [HGV.out] at f3; have HS5 := hid hS5; clear hS5 hS4; unfold cx) | (go_at_call 79; refine (l2Same_c _ _ (rnL fs (gr L j)) fs _ HS5.out.hd (HS5.out.old ha)).mono ?_; rw [HB.out]; rintro e w3 ⟨rfl, q, rfl⟩; have HS6 := hid (HS5.out.tail.drewN q)))
        all_goals
          go_wp2_with fail
          go_roundw
          case rel => exact ⟨j + 1, _, by omega, by go_num, rfl, by rw [EK2.out]; exact HS6.out⟩
          case measure => simp [intOf]; omega
    · have ej : Hid (j = L.length) := by show _ = _; omega
      clear hS
      go_wp2_with fail
      go_ret
      have h8 := HS3.out
      have e1 : vs.take j = vs := List.take_of_length_le (by have := HVL.out; have := ej.out; omega)
      have e2 : L.take j = L := List.take_of_length_le (by have := ej.out; omega)
      rw [e1, e2] at h8
      have h9 : (keepV (fixB fs) vs L).length = (symL n fs).length := by rw [ES.out]; exact keepV_len _ HVL.out
      have h7 : St w wr (⟨v, 24, keepV (fixB fs) vs L⟩ :: rowsOn (keepV (fixB fs) vs L) (symL n fs) []) := by
        rw [ES.out]
        exact h8.sub (.cons_cons _ (.cons _ (List.Sublist.append (keepV_rows _ HVL.out) (List.nil_sublist _))))
      first | exact ⟨_, _, rfl, h9, h7⟩ | exact ⟨_, rfl, _, h9, h7⟩

end Go.Proofs.YtjaofbdfhcgmeaaGreat

namespace Go.Proofs.YtjaofbdfhcgmeaaGreat
open Go.RowKit

def symN (n : Int) (fs : List Int) : Int := if isC n fs = true then ((symL n fs).length : Int) else 0
set_option maxHeartbeats 1000000 in
theorem CountSymmetries_c (n : Int) (va : Value) (fs : List Int) (w : World) (ha : Rd w va (ints fs)) : Calls Tryz.prog 17 #[cx n va] w fun e w' => e = .returned (.int .i64 (symN n fs)) ∧ Below w.heap.size w w' := by
  obtain ⟨p1, l1, k1, rfl⟩ := ha.form
  have hS := (St.start w).box n (.slice p1 l1 k1) 26
  have ha' := hS.old ha
  have HS := hid hS
  clear hS
  cases h1 : isC n fs with
  | false =>
    have E : Hid (symN n fs = 0) := if_neg (by simp [h1])
    unfold cx
    go_enter Tryz.func17, Tryz.ntmps17
    go_wp2_with fail
    refine (IsComplex_c n _ fs _ ha').mono ?_
    rw [h1]
    rintro e w1 ⟨rfl, hB⟩
    have HS1 := hid (HS.out.quiet hB)
    clear hB
    go_wp2_with fail
    go_ret
    exact ⟨by rw [E.out]; rfl, HS1.out.bel⟩
  | true =>
    have E : Hid (symN n fs = ((symL n fs).length : Int)) := if_pos h1
    have HC := hid (isC_iff.1 h1)
    unfold cx
    go_enter Tryz.func17, Tryz.ntmps17
    go_wp2_with fail
    refine (IsComplex_c n _ fs _ ha').mono ?_
    rw [h1]
    rintro e w1 ⟨rfl, hB⟩
    have HS1 := hid (HS.out.quiet hB)
    have d0 := HS1.out.hd.c0
    have d1 := HS1.out.hd.c1
    clear hB
    go_wp2_with fail
    refine (symmetriesOf_c n _ fs _ (HS1.out.old ha) HC.out).mono ?_
    rintro e w2 ⟨v, vs, rfl, hl, hS2⟩
    have lv := (hS2.rdM hl).ln
    have HS2 := hid (HS1.out.callM hS2)
    clear hS2 hl
    go_wp2_with fail
    go_ret
    exact ⟨by rw [E.out]; rfl, HS2.out.bel⟩

set_option maxHeartbeats 1000000 in
theorem sCountSymmetries_c (n : Int) (va : Value) (fs : List Int) (w : World) (ha : Rd w va (ints fs)) : Calls Tryz.prog 23 #[cx n va] w fun e w' => e = .returned (.int .i64 (symN n fs)) ∧ Below w.heap.size w w' := by
  obtain ⟨p1, l1, k1, rfl⟩ := ha.form
  have hS := (St.start w).box n (.slice p1 l1 k1) 26
  have ha' := hS.old ha
  have HS := hid hS
  clear hS
  cases h1 : isC n fs with
  | false =>
    have E : Hid (symN n fs = 0) := if_neg (by simp [h1])
    unfold cx
    go_enter Tryz.func23, Tryz.ntmps23
    go_wp2_with fail
    refine (sIsComplex_c n _ fs _ ha').mono ?_
    rw [h1]
    rintro e w1 ⟨rfl, hB⟩
    have HS1 := hid (HS.out.quiet hB)
    clear hB
    go_wp2_with fail
    go_ret
    exact ⟨by rw [E.out]; rfl, HS1.out.bel⟩
  | true =>
    have E : Hid (symN n fs = ((symL n fs).length : Int)) := if_pos h1
    have HC := hid (isC_iff.1 h1)
    unfold cx
    go_enter Tryz.func23, Tryz.ntmps23
    go_wp2_with fail
    refine (sIsComplex_c n _ fs _ ha').mono ?_
    rw [h1]
    rintro e w1 ⟨rfl, hB⟩
    have HS1 := hid (HS.out.quiet hB)
    have d0 := HS1.out.hd.c0
    have d1 := HS1.out.hd.c1
    clear hB
    go_wp2_with fail
    refine (l9Symmetries_c n _ fs _ (HS1.out.old ha) HC.out).mono ?_
    rintro e w2 ⟨v, vs, rfl, hl, hS2⟩
    have lv := (hS2.rdM hl).ln
    have HS2 := hid (HS1.out.callM hS2)
    clear hS2 hl
    go_wp2_with fail
    go_ret
    exact ⟨by rw [E.out]; rfl, HS2.out.bel⟩


end Go.Proofs.YtjaofbdfhcgmeaaGreat
