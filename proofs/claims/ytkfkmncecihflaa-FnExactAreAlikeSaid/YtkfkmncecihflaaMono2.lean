/-
  Monomials of a degree: the program's walk.
-/
import Derived.Test.YtkfkmncecihflaaMono
namespace Go.Proofs.Ytkfkmncecihflaa
open Go.RowKit

/-- A cell that holds a slice of slices. -/
def bx1 (b : Nat) : Value := .slice (some ⟨b, 0, none⟩) 1 1
theorem Rd.one {w : World} {b : Nat} {x : Value} (h : Rd w (bx1 b) [x]) : w.cell? ⟨b, 0, none⟩ = some x := h.cell 0 (by simp)
theorem run_eql_slice_some {P : Program} (w : World) {t e : TypeId} (h : P.underlying t = some (.slice e)) (a : Addr) (l c : Nat) : (binOp .eql t (.slice (some a) l c) (.slice none 0 0)).run P w = .ok (.bool false) w := by
  have h0 : ∀ d : Nat, (Op.equalIn (d + 1) t (.slice (some a) l c) (.slice none 0 0)).run P w = .ok false w := fun d => by
    simp [Op.equalIn, run_underlying h]
  have h1 : (Op.equal t (.slice (some a) l c) (.slice none 0 0)).run P w = .ok false w := h0 9999
  simp only [binOp]
  simp [h1]
theorem run_eql_slice_none {P : Program} (w : World) {t e : TypeId} (h : P.underlying t = some (.slice e)) : (binOp .eql t (.slice none 0 0) (.slice none 0 0)).run P w = .ok (.bool true) w := by
  have h0 : ∀ d : Nat, (Op.equalIn (d + 1) t (.slice none 0 0) (.slice none 0 0)).run P w = .ok true w := fun d => by
    simp [Op.equalIn, run_underlying h]
  have h1 : (Op.equal t (.slice none 0 0) (.slice none 0 0)).run P w = .ok true w := h0 9999
  simp only [binOp]
  simp [h1]

set_option maxHeartbeats 1000000 in
theorem cloneAny_c (va : Value) (L : List Int) (w : World) (ha : Rd w va (ints L)) (h1 : L.length ≤ 1000000) : Calls Try.prog 69 #[va] w fun e w' => ∃ v, e = .returned v ∧ St w w' [⟨v, 3, ints L⟩] := by
  rcases ha with ⟨rfl, h0⟩ | ⟨a, cap, rfl, hc⟩
  · have hq := fun w => run_eql_slice_none (P := Try.prog) w tI.und'
    have hL : L = [] := by
      have : (ints L).length = 0 := by rw [h0]; rfl
      rw [length_ints] at this
      exact List.eq_nil_of_length_eq_zero this
    have E : Hid (ints L = []) := h0
    go_enter Try.func69, Try.ntmps69
    go_wp2_with fail
    go_ret
    exact ⟨_, rfl, by rw [E.out]; exact (St.start w).nilRow _⟩
  · have ha : Rd w (.slice (some a) (ints L).length cap) (ints L) := .inr ⟨a, cap, rfl, hc⟩
    obtain ⟨l, hl⟩ : ∃ l, l = (ints L).length := ⟨_, rfl⟩
    rw [← hl] at ha ⊢
    clear hl
    have hO := (St.start w).new #[] 3 (by simp)
    have ha' := hO.old ha
    have hq := fun w => run_eql_slice_some (P := Try.prog) w tI.und' a l cap
    have HO := hid hO
    clear hO hc
    go_enter Try.func69, Try.ntmps69
    go_wp2_with (at_builtin; refine wpList_app rfl _ _ rfl tI HO.out.own ha' (ints_ones _) (by simp; omega) rfl rfl ?_)
    intro v5 w5 hO5 hb5
    have hS := HO.out.mut hO5 hb5
    have HS := hid hS
    clear hS hO5 hb5
    go_wp2_with fail
    go_ret
    exact ⟨_, rfl, HS.out⟩

set_option maxHeartbeats 4000000 in
set_option maxRecDepth 100000 in
theorem addMonomials_c (k : Nat) : ∀ (B : Nat) (u sv : Value) (vs : List Value) (M : List (List Int)) (st : List Int) (d : Nat) (w0 w : World) (env : List Ent), k ≤ 5 → d ≤ 5 → st.length + k ≤ 10 → vs.length = M.length → M.length + monC k d ≤ 1000 → (sv = .slice none 0 0 ∧ st = [] ∨ (⟨sv, 3, ints st⟩ : Ent) ∈ env) → St w0 w (⟨u, 34, vs⟩ :: rowsOn vs M (⟨bx1 B, 22, [u]⟩ :: env)) →
    Calls Try.prog 49 #[.pointer (some ⟨B, 0, none⟩), sv, .int .i64 ((k : Int) + 1), .int .i64 (d : Int)] w fun e w' => e = .returned (.tuple #[]) ∧ ∃ u' vs', vs'.length = (M ++ monsF st k d).length ∧ St w0 w' (⟨u', 34, vs'⟩ :: rowsOn vs' (M ++ monsF st k d) (⟨bx1 B, 22, [u']⟩ :: env)) := by
  induction k with
  | zero =>
    intro B u sv vs M st d w0 w env _ hd hst hl hb hm hS
    have E0 : Hid (monsF st 0 d = [st ++ [(d : Int)]]) := monsF_zero st d
    have hM1 : M.length ≤ 1000 := by omega
    have HR : Hid (Rd w sv (ints st)) := by
      rcases hm with ⟨rfl, rfl⟩ | hm
      · exact .inl ⟨rfl, rfl⟩
      · exact hS.dropRows.tail.own.rd hm
    have p0 : w.cell? ⟨B, 0, none⟩ = some u := hS.dropRows.hd.one
    obtain ⟨up, ul, uc, rfl⟩ := hS.hd.form
    have HS := hid hS
    have HL := hid hl
    have HM := hid hm
    clear hS hl hm
    have HS0 := hid (HS.out.drewN 1)
    have HSb := hid ((HS.out.new #[.int .i64 (d : Int)] 3 (by simp [maxLen])).drewN 1)
    have HR0 : Hid (Rd (w.drewN 1) sv (ints st)) := HR.out.drew 1
    have HRb : Hid (Rd ((w.alloc (.cells #[.int .i64 (d : Int)] 3)).drewN 1) sv (ints st)) := by
      rcases HM.out with ⟨rfl, rfl⟩ | hm
      · exact .inl ⟨rfl, rfl⟩
      · exact HSb.out.tail.dropRows.tail.own.rd hm
    have p1 : (w.alloc (.cells #[.int .i64 (d : Int)] 3)).cell? ⟨B, 0, none⟩ = some (.slice up ul uc) := HSb.out.tail.dropRows.hd.one
    go_enter Try.func49, Try.ntmps49
    go_wp2_with fail
    go_region_law (first
      | (refine step_app rfl (.tmp 14) (.tmp 20) rfl tSS HA2.out.own [.slice vp vl vc] HN2.out (by simp [Value.oneCell']) (by have := HL.out; simp; omega) rfl rfl ?_; intro v4 w4 hO4 hb4; have hS4 := (HA2.out.mut hO4 hb4).snocRow HL.out; obtain ⟨xp, xl, xc, rfl⟩ := hS4.hd.form; have s0 := hS4.dropRows.hd.one; have s1 := hS4.dropRows.own.free (v := bx1 B) (.head _) 0 (by simp); simp only [adr, bx1, Nat.zero_add] at s1; have HS4 := hid hS4; clear hS4 hO4 hb4)
      | (refine step_app rfl (.tmp 16) (.tmp 18) rfl tI HA.out.own [.int .i64 (d : Int)] HN.out (by simp [Value.oneCell']) (by simp; omega) rfl rfl ?_; intro v3 w3 hO3 hb3; have hS3 := HA.out.mut hO3 hb3; rw [ints_snoc] at hS3; obtain ⟨vp, vl, vc, rfl⟩ := hS3.hd.form; have r0 := hS3.tail.dropRows.hd.one; have HA2 := hid (hS3.swap.alloc (.cells #[.slice vp vl vc] 34)); have r1 := HA2.out.tail.dropRows.hd.one; have HN2 := hid (hS3.swap.new #[.slice vp vl vc] 34 (by simp [maxLen])).hd; clear hS3 hO3 hb3)
      | (go_simp; go_at_call 69; refine (cloneAny_c _ st _ HR0.out (by omega)).mono ?_; rintro e w2 ⟨c, rfl, hS2⟩; have hC := HS0.out.call1 hS2; have q0 := hC.tail.dropRows.hd.one; have HA := hid (hC.alloc (.cells #[.int .i64 (d : Int)] 3)); have q1 := HA.out.tail.dropRows.hd.one; have HN := hid (hC.new #[.int .i64 (d : Int)] 3 (by simp [maxLen])).hd; clear hC hS2)
      | (go_simp; go_at_call 69; refine (cloneAny_c _ st _ HRb.out (by omega)).mono ?_; rintro e w2 ⟨c, rfl, hS2⟩; have hC := HSb.out.call1 hS2; have q0 := hC.tail.tail.dropRows.hd.one; have HN := hid hC.hd2; have HA := hid (hC.sub (.cons_cons _ (.cons _ (List.Sublist.refl _)))); clear hC hS2))
    all_goals
      go_wp2_with fail
      have hS5 := ((HS4.out.perm rowsLift).set 0 (by simp) (.slice xp xl xc)).perm rowsLift.symm
      rw [← E0.out] at hS5
      have h9 : (vs ++ [Value.slice vp vl vc]).length = (M ++ monsF st 0 d).length := by rw [E0.out]; simp; exact HL.out
      have h9' : (vs ++ [Value.slice vp vl vc]).length = M.length + (monsF st 0 d).length := by rw [h9, List.length_append]
      first
        | (go_ret; first | exact ⟨rfl, _, _, h9, hS5⟩ | exact ⟨rfl, _, _, h9', hS5⟩)
        | (refine bodyPost_ret (results_none rfl _ _ _) rfl ?_; first | exact ⟨rfl, _, _, h9, hS5⟩ | exact ⟨rfl, _, _, h9', hS5⟩)
  | succ k ih =>
    intro B u sv vs M st d w0 w env hk hd hst hl hb hm hS
    have HM := hid hm
    have HT0 : Hid (M ++ monsT st k d 0 = M) := by show _ = _; simp [monsT]
    have HT1 : Hid (monsT st k d (d + 1) = monsF st (k + 1) d) := monsT_all st k d
    have HTL : Hid (∀ t, t ≤ d → (monsT st k d t).length + monC k t ≤ monC (k + 1) d) := fun t ht => by
      have h1 := monsT_le st k d (show t + 1 ≤ d + 1 by omega)
      rw [monsT_all, monsF_len, monsT_succ, List.length_append, monsF_len] at h1
      exact h1
    have HIH := hid ih
    have HS0 := hid hS
    have HL := hid hl
    have HB := hid hb
    have qk : ((k : Int) + 1 + 1 == 1) = false := by rw [beq_eq_false_iff_ne]; omega
    rw [show ((k + 1 : Nat) : Int) + 1 = (k : Int) + 1 + 1 by omega]
    clear ih hS hl hm hb
    go_enter Try.func49, Try.ntmps49
    go_wp2_with fail
    go_loopw [8] (fun c wr => ∃ (t : Nat) (X : Int) (u : Value) (vs : List Value), t ≤ d + 1 ∧ Hid (X = (d : Int) - t) ∧ c = .int .i64 X ∧ vs.length = (M ++ monsT st k d t).length ∧ St w0 wr (⟨u, 34, vs⟩ :: rowsOn vs (M ++ monsT st k d t) (⟨bx1 B, 22, [u]⟩ :: env))) (fun c _ => (intOf c + 1).toNat)
    case atStart => exact ⟨0, (d : Int), u, vs, by omega, by show _ = _; simp, rfl, by rw [HT0.out]; exact HL.out, by rw [HT0.out]; exact HS0.out⟩
    case round =>
      obtain ⟨t, X, u, vs, ht, hXm, rfl, hvl, hS⟩ := hrel
      have hX := hXm.out
      by_cases htd : t ≤ d
      · have q1 : decide ((0 : Int) ≤ X) = true := decide_eq_true (by omega)
        have HR : Hid (Rd wr sv (ints st)) := by
          rcases HM.out with ⟨rfl, rfl⟩ | hm
          · exact .inl ⟨rfl, rfl⟩
          · exact hS.dropRows.tail.own.rd hm
        have HS := hid hS
        have HVL := hid hvl
        have hbt := HTL.out t htd
        have hbb := HB.out
        have E1 := hid (monsT_succ st k d t)
        have eX : ((d - t : Nat) : Int) = X := by omega
        have eD : (d : Int) - X = (t : Int) := by omega
        have hX0 : 0 ≤ X := by omega
        have hX5 : X ≤ 5 := by omega
        clear hS hvl hX
        go_wp2_with fail
        refine (cloneAny_c _ st _ HR.out (by omega)).mono ?_
        rintro e w1 ⟨c, rfl, hS1⟩
        have HS1 := hid (HS.out.call1 hS1)
        clear hS1
        go_wp2_with (at_builtin; refine wpList_push rfl _ _ rfl tI HS1.out.own (.int .i64 X) rfl (by simp; omega) rfl rfl ?_)
        intro v2 w2 hO2 hb2
        have hS2 := HS1.out.mut hO2 hb2
        rw [ints_snoc] at hS2
        have HS2 := hid ((hS2.perm rowsLift.symm).perm (rowsPerm (List.Perm.swap _ _ _)))
        clear hS2 hO2 hb2
        go_wp2_with fail
        refine (HIH.out B _ v2 vs (M ++ monsT st k d t) (st ++ [X]) t w0 _ _ (by omega) (by omega) (by simp; omega) HVL.out (by rw [List.length_append]; omega) (.inr (.head _)) HS2.out).mono ?_
        rintro e w3 ⟨rfl, u', vs', hl3, hS3⟩
        have hS4 : St w0 w3 (⟨u', 34, vs'⟩ :: rowsOn vs' (M ++ monsT st k d (t + 1)) (⟨bx1 B, 22, [u']⟩ :: env)) := by
          rw [E1.out, ← List.append_assoc, eX]
          exact hS3.sub (.cons_cons _ (List.Sublist.append_left (.cons_cons _ (.cons _ (List.Sublist.refl _))) _))
        have hl4 : vs'.length = (M ++ monsT st k d (t + 1)).length := by rw [E1.out, ← List.append_assoc, eX]; exact hl3
        have HS4 := hid hS4
        have HL4 := hid hl4
        clear hS3 hl3 hS4 hl4 hbt hbb
        go_wp2_with fail
        go_roundw
        case rel =>
          exact ⟨t + 1, X - 1, u', vs', by omega, by show _ = _; have := hXm.out; omega, by go_num, HL4.out, HS4.out⟩
        case measure => simp [intOf]; omega
      · have et : Hid (t = d + 1) := by show _ = _; omega
        have q1 : decide ((0 : Int) ≤ X) = false := decide_eq_false (by omega)
        have HS := hid hS
        have HVL := hid hvl
        clear hS hvl hX
        go_wp2_with fail
        go_end0
        have h8 := HS.out
        have h9 := HVL.out
        rw [et.out, HT1.out] at h8 h9
        first | exact ⟨rfl, u, vs, h9, h8⟩ | exact ⟨rfl, u, vs, by rw [List.length_append] at h9; exact h9, h8⟩

set_option maxHeartbeats 2000000 in
theorem MonomialsOf_c (n d : Int) (w : World) : Calls Try.prog 14 #[.int .i64 n, .int .i64 d] w fun e w' => ∃ v vs, e = .returned v ∧ vs.length = (monB n d).length ∧ St w w' (⟨v, 34, vs⟩ :: rowsOn vs (monB n d) []) := by
  by_cases hOk : MonOk n d
  · have E := hid (monB_t hOk)
    obtain ⟨n1, n6, d0, d5⟩ := hOk
    obtain ⟨k, hk⟩ : ∃ k : Nat, n = (k : Int) + 1 := ⟨(n - 1).toNat, by omega⟩
    obtain ⟨D, rfl⟩ : ∃ D : Nat, d = (D : Int) := ⟨d.toNat, by omega⟩
    subst hk
    have e1 : ((k : Int) + 1 - 1).toNat = k := by omega
    have e2 : ((D : Int)).toNat = D := by omega
    have hc := monC_le (k := k) (d := D) (by omega) (by omega)
    have hS := ((St.start w).newAt #[.slice none 0 0] 22 (by simp [maxLen]) (H := w.heap.size) rfl)
    have HS : Hid (St w (w.alloc (.cells #[.slice none 0 0] 22)) (⟨.slice none 0 0, 34, []⟩ :: rowsOn [] [] [⟨bx1 w.heap.size, 22, [.slice none 0 0]⟩])) := hS.nilRow _
    clear hS
    rw [e1, e2] at E
    go_enter Try.func14, Try.ntmps14
    go_wp2_with fail
    refine (addMonomials_c k w.heap.size (.slice none 0 0) (.slice none 0 0) [] [] [] D w _ [] (by omega) (by omega) (by simp; omega) rfl (by simp; omega) (.inl ⟨rfl, rfl⟩) HS.out).mono ?_
    rintro e w2 ⟨rfl, u', vs', hl, hS2⟩
    rw [List.nil_append] at hl hS2
    have p0 := hS2.dropRows.hd.one
    have HS2 := hid (hS2.sub (env' := _ :: rowsOn _ _ []) (.cons_cons _ (List.Sublist.append_left (List.nil_sublist _) _)))
    have HL := hid hl
    clear hl hS2
    go_wp2_with fail
    go_ret
    rw [E.out]
    first | exact ⟨_, _, rfl, HL.out, HS2.out⟩ | exact ⟨_, rfl, _, HL.out, HS2.out⟩
  · have E := hid (monB_f hOk)
    by_cases h1 : n < 1
    · clear hOk
      go_enter Try.func14, Try.ntmps14
      go_wp2_with fail
      go_ret
      rw [E.out]
      first | exact ⟨.slice none 0 0, [], rfl, rfl, (St.start w).nilRow _⟩ | exact ⟨.slice none 0 0, rfl, [], rfl, (St.start w).nilRow _⟩
    · by_cases h2 : 6 < n
      · clear hOk
        go_enter Try.func14, Try.ntmps14
        go_wp2_with fail
        go_ret
        rw [E.out]
        first | exact ⟨.slice none 0 0, [], rfl, rfl, (St.start w).nilRow _⟩ | exact ⟨.slice none 0 0, rfl, [], rfl, (St.start w).nilRow _⟩
      · by_cases h3 : d < 0
        · clear hOk
          go_enter Try.func14, Try.ntmps14
          go_wp2_with fail
          go_ret
          rw [E.out]
          first | exact ⟨.slice none 0 0, [], rfl, rfl, (St.start w).nilRow _⟩ | exact ⟨.slice none 0 0, rfl, [], rfl, (St.start w).nilRow _⟩
        · have h4 : 5 < d := by
            refine Int.not_le.1 fun h => hOk ⟨by omega, by omega, by omega, h⟩
          clear hOk
          go_enter Try.func14, Try.ntmps14
          go_wp2_with fail
          go_ret
          rw [E.out]
          first | exact ⟨.slice none 0 0, [], rfl, rfl, (St.start w).nilRow _⟩ | exact ⟨.slice none 0 0, rfl, [], rfl, (St.start w).nilRow _⟩

set_option maxHeartbeats 2000000 in
theorem sMonomialsOf_c (n d : Int) (w : World) : Calls Try.prog 13 #[.int .i64 n, .int .i64 d] w fun e w' => ∃ v vs, e = .returned v ∧ vs.length = (monB n d).length ∧ St w w' (⟨v, 34, vs⟩ :: rowsOn vs (monB n d) []) := by
  by_cases hOk : MonOk n d
  · have E := hid (monB_t hOk)
    obtain ⟨n1, n6, d0, d5⟩ := hOk
    have q1 := inB_t n1 n6
    have q2 := inB_t d0 d5
    obtain ⟨k, hk⟩ : ∃ k : Nat, n = (k : Int) + 1 := ⟨(n - 1).toNat, by omega⟩
    obtain ⟨D, rfl⟩ : ∃ D : Nat, d = (D : Int) := ⟨d.toNat, by omega⟩
    subst hk
    have e1 : ((k : Int) + 1 - 1).toNat = k := by omega
    have e2 : ((D : Int)).toNat = D := by omega
    have hc := monC_le (k := k) (d := D) (by omega) (by omega)
    have hS := ((St.start w).newAt #[] 3 (by simp) (H := w.heap.size) rfl).newAt #[] 34 (by simp) (H := w.heap.size + 1) (by simp)
    have HS := hid hS
    clear hS
    rw [e1, e2] at E
    go_enter Try.func13, Try.ntmps13
    go_wp2_with (go_at_call 47; refine (l1In_c _ _ _ _).mono ?_; rintro e w' ⟨rfl, rfl⟩)
    refine (l12Fill_c k _ _ [] [] [] ((k : Int) + 1) D w _ _ (by omega) (by omega) (by simp) n6 rfl (by simp; omega) (.head _) HS.out).mono ?_
    rintro e w2 ⟨u', vs', rfl, hl, hS2⟩
    rw [List.nil_append] at hl hS2
    have HS2 := hid (hS2.sub (env' := _ :: rowsOn _ _ []) (.cons_cons _ (List.Sublist.append_left (List.nil_sublist _) _)))
    have HL := hid hl
    clear hl hS2
    go_wp2_with fail
    go_ret
    rw [E.out]
    first | exact ⟨_, _, rfl, HL.out, HS2.out⟩ | exact ⟨_, rfl, _, HL.out, HS2.out⟩
  · have E := hid (monB_f hOk)
    by_cases h1 : 1 ≤ n ∧ n ≤ 6
    · have q1 := inB_t h1.1 h1.2
      have q2 := inB_f (fun h : 0 ≤ d ∧ d ≤ 5 => hOk ⟨h1.1, h1.2, h.1, h.2⟩)
      clear hOk h1
      go_enter Try.func13, Try.ntmps13
      go_wp2_with (go_at_call 47; refine (l1In_c _ _ _ _).mono ?_; rintro e w' ⟨rfl, rfl⟩)
      go_ret
      rw [E.out]
      first | exact ⟨_, [], rfl, rfl, (St.start w).newAt #[] 34 (by simp) rfl⟩ | exact ⟨_, rfl, [], rfl, (St.start w).newAt #[] 34 (by simp) rfl⟩
    · have q1 := inB_f h1
      clear hOk h1
      go_enter Try.func13, Try.ntmps13
      go_wp2_with (go_at_call 47; refine (l1In_c _ _ _ _).mono ?_; rintro e w' ⟨rfl, rfl⟩)
      go_ret
      rw [E.out]
      first | exact ⟨_, [], rfl, rfl, (St.start w).newAt #[] 34 (by simp) rfl⟩ | exact ⟨_, rfl, [], rfl, (St.start w).newAt #[] 34 (by simp) rfl⟩

end Go.Proofs.Ytkfkmncecihflaa
