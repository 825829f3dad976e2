/-
  Symmetry of the h numbers: a copy turned round.
-/
import Derived.Test.YtoaggenighfhpaaH
import Derived.Test.YtoaggenighfhpaaEq
namespace Go.Proofs.Ytoaggenighfhpaa
open Go.RowKit

/-- The first t places and the last t places have changed places. -/
def revTo (L : List Int) (t : Nat) : List Int := (List.range L.length).map fun k => if k < t ∨ L.length - 1 - k < t then gi L (L.length - 1 - k) else gi L k
theorem revTo_len (L : List Int) (t : Nat) : (revTo L t).length = L.length := by simp [revTo]
theorem revTo_gi {L : List Int} {t k : Nat} (h : k < L.length) : gi (revTo L t) k = if k < t ∨ L.length - 1 - k < t then gi L (L.length - 1 - k) else gi L k := by
  simp [gi, revTo, List.getD, h]
theorem revTo_zero (L : List Int) : revTo L 0 = L := gi_ext (revTo_len L 0) fun k hk => by rw [revTo_gi (by rwa [revTo_len] at hk), if_neg (by omega)]
theorem gi_rev {L : List Int} {k : Nat} (h : k < L.length) : gi L.reverse k = gi L (L.length - 1 - k) := by
  rw [gi_eq L.reverse k (by simpa using h), gi_eq L _ (by omega), List.getElem_reverse]
theorem revTo_all {L : List Int} {t : Nat} (h : L.length ≤ 2 * t + 1) : revTo L t = L.reverse := gi_ext (by rw [revTo_len, List.length_reverse]) fun k hk => by
  have hk' : k < L.length := by rwa [revTo_len] at hk
  rw [revTo_gi hk', gi_rev hk']
  split
  · rfl
  · rename_i hn
    rw [show L.length - 1 - k = k by omega]
theorem revTo_succ {L : List Int} {t u : Nat} (hu : t + u + 1 = L.length) (h : t < u) : ((revTo L t).set t (gi (revTo L t) u)).set u (gi (revTo L t) t) = revTo L (t + 1) := by
  refine gi_ext (by simp [revTo_len]) fun k hk => ?_
  have hk' : k < L.length := by simpa [revTo_len] using hk
  have e1 : gi (revTo L t) u = gi L u := by rw [revTo_gi (by omega), if_neg (by omega)]
  have e2 : gi (revTo L t) t = gi L t := by rw [revTo_gi (by omega), if_neg (by omega)]
  rw [gi_set (by simp [revTo_len]; omega), gi_set (by rw [revTo_len]; omega), e1, e2, revTo_gi hk', revTo_gi hk']
  by_cases h1 : k = u
  · subst h1
    rw [if_pos rfl, if_pos (by omega), show L.length - 1 - k = t by omega]
  · rw [if_neg h1]
    by_cases h2 : k = t
    · subst h2
      rw [if_pos rfl, if_pos (by omega), show L.length - 1 - k = u by omega]
    · rw [if_neg h2]
      by_cases h3 : k < t ∨ L.length - 1 - k < t
      · rw [if_pos h3, if_pos (by omega)]
      · rw [if_neg h3, if_neg (by omega)]
theorem ne_rev {L : List Int} {k : Nat} (h : k < L.length) (hne : gi L k ≠ gi L (L.length - 1 - k)) : decide (L = L.reverse) = false := by
  refine decide_eq_false fun e => hne ?_
  rw [← gi_rev h, ← e]
theorem is_rev {L : List Int} (h : ∀ t, t < L.length → gi L t = gi L (L.length - 1 - t)) : decide (L = L.reverse) = true :=
  decide_eq_true (gi_ext (by simp) fun k hk => by rw [gi_rev hk, h k hk])

theorem run_eql_slice_nil {P : Program} (w : World) {t e : TypeId} (h : P.underlying t = some (.slice e)) (a : Addr) (l c : Nat) : (binOp .eql t (.slice (some a) l c) (.slice none 0 0)).run P w = .ok (.bool false) w := by
  have h0 : ∀ d : Nat, (Op.equalIn (d + 1) t (.slice (some a) l c) (.slice none 0 0)).run P w = .ok false w := fun d => by
    simp [Op.equalIn, run_underlying h]
  have h1 : (Op.equal t (.slice (some a) l c) (.slice none 0 0)).run P w = .ok false w := h0 9999
  simp only [binOp]
  simp [h1]
set_option maxHeartbeats 1000000 in
theorem clone_c (va : Value) (L : List Int) (w : World) (ha : Rd w va (ints L)) (h0 : 0 < L.length) (h1 : L.length ≤ 1000000) : Calls Try.prog 66 #[va] w fun e w' => ∃ v, e = .returned v ∧ St w w' [⟨v, 3, ints L⟩] := by
  obtain ⟨a, l, c, rfl⟩ : ∃ a l c, va = .slice (some a) l c := by
    rcases ha with ⟨_, h⟩ | ⟨a, cap, rfl, _⟩
    · have : (ints L).length = 0 := by rw [h]; rfl
      rw [length_ints] at this; omega
    · exact ⟨a, _, cap, rfl⟩
  have hO := (St.start w).new #[] 3 (by simp)
  have ha' := hO.old ha
  have hq := fun w => run_eql_slice_nil (P := Try.prog) w tI.und' a l c
  have HO := hid hO
  clear hO
  go_enter Try.func66, Try.ntmps66
  go_wp2_with (at_builtin; refine wpList_app rfl _ _ rfl tI HO.out.own ha' (fun u h => by obtain ⟨x, _, rfl⟩ := List.mem_map.1 h; rfl) (by simp; omega) rfl rfl ?_)
  intro v5 w5 hO5 hb5
  have hS := HO.out.mut hO5 hb5
  have HS := hid hS
  clear hS hO5 hb5
  go_wp2_with fail
  go_ret
  exact ⟨_, rfl, HS.out⟩

set_option maxHeartbeats 4000000 in
set_option maxRecDepth 100000 in
theorem reverse_c (v : Value) (L : List Int) (w0 w : World) (env : List Ent) (hO : St w0 w (⟨v, 3, ints L⟩ :: env)) : Calls Try.prog 67 #[v] w fun e w' => e = .returned (.tuple #[]) ∧ St w0 w' (⟨v, 3, ints L.reverse⟩ :: env) := by
  have la := hO.hd.iln tI
  have ll := hO.hd.ile
  have HO := hid hO
  clear hO
  go_enter Try.func67, Try.ntmps67
  go_wp2_with fail
  go_loopw [2, 3] (fun i j wr => ∃ t : Nat, 2 * t ≤ L.length + 1 ∧ i = .int .i64 t ∧ j = .int .i64 ((L.length : Int) - 1 - t) ∧ St w0 wr (⟨v, 3, ints (revTo L t)⟩ :: env)) (fun i _ _ => L.length + 1 - (intOf i).toNat)
  case atStart => exact ⟨0, by omega, rfl, by simp, by rw [revTo_zero]; exact HO.out⟩
  case round =>
    obtain ⟨t, ht, rfl, rfl, hS⟩ := hrel
    obtain ⟨wo, rfl⟩ : ∃ wo : World, wo = wr := ⟨_, rfl⟩
    have HS := hid hS
    by_cases hlt : (t : Int) < (L.length : Int) - 1 - t
    · obtain ⟨u, hu⟩ : ∃ u : Nat, t + u + 1 = L.length := ⟨L.length - 1 - t, by omega⟩
      have eu : (L.length : Int) - 1 - (t : Int) = (u : Int) := by omega
      have E := hid (revTo_succ hu (by omega))
      have hl : (revTo L t).length = L.length := revTo_len L t
      have f1 := hS.hd.iix tI t (by omega)
      have f2 := hS.hd.intCell t (by omega)
      have f3 : wo.frozen? (adr v t) = false := hS.own.free (.head _) t (by simp; omega)
      have g1 := hS.hd.iix tI u (by omega)
      have g2 := hS.hd.intCell u (by omega)
      have g3 : wo.frozen? (adr v u) = false := hS.own.free (.head _) u (by simp; omega)
      have hS1 := hS.set t (by simp; omega) (.int .i64 (gi (revTo L t) u))
      have i2 : (wo.setCell (adr v t) (.int .i64 (gi (revTo L t) u))).cell? (adr v u) = some (.int .i64 (gi (revTo L t) u)) := by
        rw [ints_set] at hS1
        have := hS1.hd.intCell u (by simp; omega)
        rw [gi_set (by omega), if_neg (by omega)] at this
        exact this
      have i3 : (wo.setCell (adr v t) (.int .i64 (gi (revTo L t) u))).frozen? (adr v u) = false := hS1.own.free (.head _) u (by simp; omega)
      have hS2 := (hS1.set u (by simp; omega) (.int .i64 (gi (revTo L t) t))).drewN 1
      rw [ints_set, ints_set, E.out] at hS2
      have HS2 := hid hS2
      have w1 : IntKind.i64.wrap ((t : Int) + 1) = (t : Int) + 1 := IntWalk.i64_in _ (by omega)
      clear hS hS1 hS2
      rw [eu] at hlt ⊢
      go_wp2_with fail
      go_region
      all_goals
        go_wp2_with fail
        go_roundw
        case rel => exact ⟨t + 1, by omega, by go_num, by go_num, HS2.out⟩
        case measure => simp [intOf]; omega
    · have E : Hid (revTo L t = L.reverse) := revTo_all (by omega)
      clear hS
      go_wp2_with fail
      go_end0
      exact ⟨rfl, by rw [← E.out]; exact HS.out⟩

def symB (n : Int) (xs : List Int) : Bool := decide (0 < (hB n xs).length) && decide (hB n xs = (hB n xs).reverse)

set_option maxHeartbeats 2000000 in
theorem IsSymmetricH_c (n : Int) (va : Value) (xs : List Int) (w : World) (ha : Rd w va (ints xs)) : Calls Try.prog 19 #[cx n va] w fun e w' => e = .returned (.bool (symB n xs)) ∧ Below w.heap.size w w' := by
  obtain ⟨p1, l1, k1, rfl⟩ := ha.form
  have hS := (St.start w).box n (.slice p1 l1 k1) 26
  have ha' := hS.old ha
  have HS := hid hS
  clear hS
  have E : Hid (symB n xs = (decide (0 < (hB n xs).length) && decide (hB n xs = (hB n xs).reverse))) := rfl
  have h7 := hB_len n xs
  unfold cx
  go_enter Try.func19, Try.ntmps19
  go_wp2_with fail
  refine (HNumbers_c n _ xs _ ha').mono ?_
  generalize hB n xs = h at *
  rintro e w1 ⟨uh, rfl, hS1⟩
  have HS1 := hid (HS.out.call1 hS1)
  have la := hS1.hd.iln tI
  by_cases h0 : h.length = 0
  · have q0 : ((h.length : Int) == 0) = true := by simp [h0]
    have E2 : Hid (symB n xs = false) := by show _ = _; rw [E.out, decide_eq_false (by omega)]; rfl
    clear hS1 h0
    go_wp2_with fail
    go_ret
    exact ⟨ret_bool E2.out.symm, HS1.out.bel⟩
  · have q0 : ((h.length : Int) == 0) = false := by rw [beq_eq_false_iff_ne]; omega
    have E2 : Hid (symB n xs = decide (h = h.reverse)) := by show _ = _; rw [E.out, decide_eq_true (show 0 < h.length by omega)]; rfl
    have hpos : 0 < h.length := by omega
    clear hS1 h0
    go_wp2_with fail
    refine (clone_c _ _ _ HS1.out.hd hpos (by omega)).mono ?_
    rintro e w2 ⟨ub, rfl, hS2⟩
    have HS2 := hid (HS1.out.call1 hS2)
    clear hS2
    go_wp2_with fail
    refine (reverse_c _ _ _ _ _ HS2.out).mono ?_
    rintro e w3 ⟨rfl, hS3⟩
    have HS3 := hid hS3
    clear hS3
    go_wp2_with fail
    refine (slEqual_c _ _ h h.reverse _ HS3.out.hd2 HS3.out.hd).mono ?_
    rintro e w4 ⟨rfl, q, rfl⟩
    go_wp2_with fail
    go_ret
    exact ⟨ret_bool E2.out.symm, below_drewN HS3.out.bel q⟩

set_option maxHeartbeats 2000000 in
theorem sIsSymmetricH_c (n : Int) (va : Value) (xs : List Int) (w : World) (ha : Rd w va (ints xs)) : Calls Try.prog 20 #[cx n va] w fun e w' => e = .returned (.bool (symB n xs)) ∧ Below w.heap.size w w' := by
  obtain ⟨p1, l1, k1, rfl⟩ := ha.form
  have hS := (St.start w).box n (.slice p1 l1 k1) 26
  have ha' := hS.old ha
  have HS := hid hS
  clear hS
  have E : Hid (symB n xs = (decide (0 < (hB n xs).length) && decide (hB n xs = (hB n xs).reverse))) := rfl
  have h7 := hB_len n xs
  unfold cx
  go_enter Try.func20, Try.ntmps20
  go_wp2_with fail
  refine (sHNumbers_c n _ xs _ ha').mono ?_
  generalize hB n xs = h at *
  rintro e w1 ⟨uh, rfl, hS1⟩
  have HS1 := hid (HS.out.call1 hS1)
  have la := hS1.hd.iln tI
  clear hS1
  go_wp2_with fail
  go_loopw [4] (fun i wr => ∃ (k m : Nat), k ≤ h.length ∧ i = .int .i64 k ∧ Hid (∀ t, t < k → gi h t = gi h (h.length - 1 - t)) ∧ wr = w1.drewN m) (fun i _ => h.length - (intOf i).toNat)
  case atStart => exact ⟨0, 0, by omega, rfl, fun t h => by omega, rfl⟩
  case round =>
    obtain ⟨k, m, hk, rfl, hN, hw⟩ := hrel
    have HW := hid hw
    have hS := HS1.out.drewN m
    rw [← hw] at hS
    have HSm := hid hS
    by_cases hlt : k < h.length
    · have f1 := hS.hd.iix tI k hlt
      have f2 := hS.hd.intCell k hlt
      have g1 := hS.hd.iix tI (h.length - 1 - k) (by omega)
      have g2 := hS.hd.intCell (h.length - 1 - k) (by omega)
      have eu : ((h.length - 1 - k : Nat) : Int) = (h.length : Int) - 1 - (k : Int) := by omega
      rw [eu] at g1
      have u1 : IntKind.i64.wrap ((h.length : Int) - 1) = (h.length : Int) - 1 := IntWalk.i64_in _ (by omega)
      have u2 : IntKind.i64.wrap ((h.length : Int) - 1 - (k : Int)) = (h.length : Int) - 1 - (k : Int) := IntWalk.i64_in _ (by omega)
      clear hS hw eu
      by_cases he : gi h k = gi h (h.length - 1 - k)
      · have d : (gi h k != gi h (h.length - 1 - k)) = false := by simp [← he]
        have N2 : Hid (∀ t, t < k + 1 → gi h t = gi h (h.length - 1 - t)) := fun t ht => by
          by_cases e : t = k
          · subst e; exact he
          · exact hN.out t (by omega)
        clear he
        go_wp2_with fail
        go_region
        go_wp2_with fail
        go_roundw
        case rel => exact ⟨k + 1, m + 1, by omega, by go_num, N2, by rw [HW.out]; rfl⟩
        case measure => simp [intOf]; omega
      · have d : (gi h k != gi h (h.length - 1 - k)) = true := by simp [he]
        have E2 : Hid (symB n xs = false) := by show _ = _; rw [E.out, ne_rev hlt he, Bool.and_false]
        clear he
        go_wp2_with fail
        go_region
        go_wp2_with fail
        go_ret
        exact ⟨ret_bool E2.out.symm, (HSm.out.drewN 1).bel⟩
    · have E2 : Hid (symB n xs = decide (0 < h.length)) := by
        show _ = _
        rw [E.out, is_rev (fun t ht => hN.out t (by omega)), Bool.and_true]
      clear hS hw
      go_wp2_with fail
      go_ret
      exact ⟨ret_bool E2.out.symm, HSm.out.bel⟩

end Go.Proofs.Ytoaggenighfhpaa
