/-
  The first monomials of a degree.
-/
import Derived.Test.YtkfkmncecihflaaMono2
import Derived.Test.YtkfkmncecihflaaMLaws2
namespace Go.Proofs.Ytkfkmncecihflaa
open Go.RowKit

/-- v reads as the first part of what vf reads as. -/
def Cut (v vf : Value) (vs us : List Value) : Prop := ∀ w : World, Rd w vf (vs ++ us) → Rd w v vs
/-- v[:h:h] -/
def cut3 (v : Value) (h : Nat) : Value :=
  match v with
  | .slice a _ _ => .slice a h h
  | v => v
theorem cut_cut3 (vf : Value) (vs us : List Value) : Cut (cut3 vf vs.length) vf vs us := fun w h => by
  rcases h with ⟨rfl, h0⟩ | ⟨a, cap, rfl, h1, h2, hc⟩
  · have hv : vs = [] := (List.append_eq_nil_iff.1 h0).1
    subst hv
    exact .inl ⟨rfl, rfl⟩
  · rw [List.length_append] at h1
    refine .inr ⟨a, vs.length, rfl, Nat.le_refl _, by omega, fun j hj => ?_⟩
    have h3 := hc j (by rw [List.length_append]; omega)
    refine ⟨?_, h3.2⟩
    rw [h3.1, List.getElem?_append_left hj]
theorem cut_nil : Cut (.slice none 0 0) (.slice none 0 0) [] [] := fun _ h => h
theorem Rd.runCut3 {w : World} {v : Value} {L : List Value} (hr : Rd w v L) {P : Program} {t e : TypeId} {z : Value} (T : SlT P t e z) (h : Nat) (hh : h ≤ L.length) (w' : World) :
    (Instr.sliceAt t v none (some (.int .i64 (h : Int))) (some (.int .i64 (h : Int)))).run P w' = .ok (Go.Proofs.Ytkfkmncecihflaa.cut3 v h) w' := by
  rw [run_sliceAt_slice _ _ _ _ _ _ T.und]
  rcases hr with ⟨rfl, rfl⟩ | ⟨a, cap, rfl, h1, h2, hc⟩
  · simp only [List.length_nil, Nat.le_zero] at hh
    subst hh
    rw [run_slice_hm w' t none 0 0 T.und .i64 .i64 _ _ (by omega) (by omega) (by omega), run_sizeOf T]
    simp [Result.andThen, sliced, Go.Proofs.Ytkfkmncecihflaa.cut3]
  · rw [run_slice_hm w' t (some a) _ cap T.und .i64 .i64 _ _ (by omega) (by omega) (by omega), run_sizeOf T]
    by_cases hc0 : h = 0
    · simp [Result.andThen, sliced, Go.Proofs.Ytkfkmncecihflaa.cut3, hc0]
    · simp [Result.andThen, sliced, Go.Proofs.Ytkfkmncecihflaa.cut3, hc0, Addr.add]
theorem St.dropCut {w0 w : World} {e : Ent} {vs us : List Value} {M N : List (List Int)} {env : List Ent} (h : St w0 w (e :: rowsOn vs M (rowsOn us N env))) : St w0 w env :=
  h.sub (.cons _ ((List.sublist_append_right (rows us N) env).trans (List.sublist_append_right (rows vs M) _)))
theorem St.rdCut {w0 w : World} {v vf : Value} {t : TypeId} {vs us : List Value} {M : List (List Int)} {env : List Ent} (h : St w0 w (⟨vf, t, vs ++ us⟩ :: rowsOn vs M env)) (hc : Cut v vf vs us) (hl : vs.length = M.length) : RdM w v vs M :=
  ⟨hc _ h.hd, hl, fun _ hk => h.own.rd (List.mem_cons_of_mem _ (List.mem_append_left _ (rows_mem hl hk)))⟩
theorem rows_split (vs : List Value) (M : List (List Int)) (k : Nat) (env : List Ent) (hl : vs.length = M.length) : rowsOn vs M env = rowsOn (vs.take k) (M.take k) (rowsOn (vs.drop k) (M.drop k) env) := by
  simp only [rowsOn]
  rw [← List.append_assoc]
  congr 1
  have h0 : (vs.take k).length = (M.take k).length := by simp [hl]
  simp only [rows]
  rw [← List.zipWith_append h0, List.take_append_drop, List.take_append_drop]

set_option maxHeartbeats 1000000 in
theorem markIntSS_cut (va vf : Value) (t : TypeId) (vs us : List Value) (M : List (List Int)) (k : Int) (w0 w : World) (env : List Ent) (hS : St w0 w (⟨vf, t, vs ++ us⟩ :: rowsOn vs M env)) (hcut : Cut va vf vs us) (hl : vs.length = M.length) (h0 : 0 ≤ k) (hk : k + (cnt M : Int) ≤ 1099511627776) :
    Calls Try.prog 16 #[va, .int .i64 k] w fun e w' => e = .returned (.int .i64 (k + (cnt M : Int))) ∧ St w0 w' (⟨vf, t, vs ++ us⟩ :: rowsOn vs (markTo k M M.length) env) := by
  have lM := (hS.rdCut hcut hl).ln
  have ll := (hS.rdCut hcut hl).le
  have HS0 := hid hS
  have HCUT := hid hcut
  have E0 := hid (markTo_zero k M)
  clear hS hcut
  go_enter Try.func16, Try.ntmps16
  go_wp2_with fail
  go_loopw [1, 5] (fun c i wr => ∃ j : Nat, j ≤ M.length ∧ i = .int .i64 j ∧ c = .int .i64 (k + (cntTo M j : Int)) ∧ St w0 wr (⟨vf, t, vs ++ us⟩ :: rowsOn vs (markTo k M j) env)) (fun _ i _ => M.length - (intOf i).toNat)
  case atStart => exact ⟨0, Nat.zero_le _, rfl, by simp [cntTo], by rw [E0.out]; exact HS0.out⟩
  case round =>
    obtain ⟨j, hj, rfl, rfl, hS⟩ := hrel
    have hl2 : vs.length = (markTo k M j).length := by rw [markTo_len]; exact hl
    by_cases hlt : j < M.length
    · have hlt2 : j < (markTo k M j).length := by rw [markTo_len]; exact hlt
      have hM := hS.rdCut HCUT.out hl2
      have f1 := hM.ix j hlt2
      have f2 := hM.cell j hlt2
      have eg : gr (markTo k M j) j = gr M j := by rw [markTo_gr hlt, if_neg (by omega)]
      have hP := hS.pick hl2 hlt2
      rw [eg] at hP
      have hc1 := cntTo_le M (show j + 1 ≤ M.length by omega)
      have hc2 : cntTo M (j + 1) = cntTo M j + (gr M j).length := rfl
      have HP := hid hP
      have HE := hid (markTo_succ (k := k) hlt)
      clear hS hM hP
      go_wp2_with fail
      refine (markIntS_c _ _ _ _ _ _ HP.out.own (ints_cells _) (by omega) (by simp; omega)).mono ?_
      rintro e w2 ⟨rfl, hO, hN⟩
      rw [length_ints] at hO
      have hS2 := (HP.out.mut hO hN).unpick hl2 hlt2
      rw [set_gv (by omega), HE.out] at hS2
      have HS2 := hid hS2
      clear hO hN hS2
      simp only [length_ints]
      go_wp2_with fail
      go_roundw
      case rel => exact ⟨j + 1, by omega, by go_num, by rw [hc2]; go_num, HS2.out⟩
      case measure => simp [intOf]; omega
    · have e : j = M.length := by omega
      have HS := hid hS
      clear hS
      subst e
      go_wp2_with fail
      go_ret
      exact ⟨rfl, HS.out⟩

def fmB (n d m : Int) : List (List Int) := if 0 ≤ m ∧ m ≤ ((monB n d).length : Int) then (monB n d).take m.toNat else []
theorem fmB_t {n d : Int} {K : Nat} (h : K ≤ (monB n d).length) : fmB n d (K : Int) = (monB n d).take K := by rw [fmB, if_pos (by omega)]; rfl
theorem fmB_f {n d m : Int} (h : ¬ (0 ≤ m ∧ m ≤ ((monB n d).length : Int))) : fmB n d m = [] := if_neg h
theorem fmB_cnt (n d m : Int) : cnt (fmB n d m) ≤ 1000000 := by
  have hl := monB_len n d
  have h := cnt_bd (M := fmB n d m) (B := 6) (n := 252) (fun k hk => by
    have hm := gr_mem hk
    generalize gr (fmB n d m) k = r at hm
    unfold fmB at hm
    split at hm
    · have hm2 := List.mem_of_mem_take hm
      unfold monB at hm2
      split at hm2
      · rename_i h
        have := monsF_rows hm2
        have h1 := h.1; have h2 := h.2.1
        simp at this; omega
      · simp at hm2
    · simp at hm) (by
    unfold fmB
    split
    · simp; omega
    · simp)
  omega

set_option maxHeartbeats 2000000 in
theorem FirstMonomials_c (n d m : Int) (w : World) : Calls Try.prog 19 #[.int .i64 n, .int .i64 d, .int .i64 m] w fun e w' => ∃ v vf vs us N, e = .returned v ∧ vs.length = (fmB n d m).length ∧ Cut v vf vs us ∧ St w w' (⟨vf, 34, vs ++ us⟩ :: rowsOn vs (fmB n d m) (rowsOn us N [])) := by
  have hml := monB_len n d
  by_cases hok : 0 ≤ m ∧ m ≤ ((monB n d).length : Int)
  · obtain ⟨K, rfl⟩ : ∃ K : Nat, m = (K : Int) := ⟨m.toNat, by omega⟩
    have hK : K ≤ (monB n d).length := by omega
    have E := hid (fmB_t hK)
    have q1 : decide (((monB n d).length : Int) < (K : Int)) = false := decide_eq_false (by omega)
    clear hok
    go_enter Try.func19, Try.ntmps19
    go_wp2_with fail
    refine (MonomialsOf_c n d _).mono ?_
    generalize hL : monB n d = L at *
    have HLL := hid hL
    clear hL
    rintro e w1 ⟨u, vs, rfl, hl, hS1⟩
    have lu := (hS1.rdM hl).ln
    have f1 := hS1.hd.runCut3 tSS K (by omega)
    have HS1 := hid hS1
    have HL1 := hid hl
    clear hS1 hl
    go_wp2_with fail
    go_ret
    have h2 := HS1.out
    have h3 := HL1.out
    rw [rows_split vs L K [] h3, ← E.out] at h2
    have h4 : (vs.take K).length = (fmB n d (K : Int)).length := by rw [E.out]; simp; omega
    have h5 := cut_cut3 u (vs.take K) (vs.drop K)
    rw [show (vs.take K).length = K by simp; omega] at h5
    have h6 : St w w1 (⟨u, 34, vs.take K ++ vs.drop K⟩ :: rowsOn (vs.take K) (fmB n d (K : Int)) (rowsOn (vs.drop K) (L.drop K) [])) := by rw [List.take_append_drop]; exact h2
    first
      | exact ⟨_, u, vs.take K, vs.drop K, L.drop K, rfl, h4, h5, h6⟩
      | exact ⟨_, rfl, u, vs.take K, h4, vs.drop K, h5, L.drop K, h6⟩
      | exact ⟨_, u, vs.take K, rfl, h4, vs.drop K, h5, L.drop K, h6⟩
      | exact ⟨_, rfl, u, vs.take K, h4, vs.drop K, L.drop K, h5, h6⟩
      | exact ⟨_, u, vs.take K, vs.drop K, rfl, h4, h5, L.drop K, h6⟩
  · have E := hid (fmB_f hok)
    by_cases h0 : m < 0
    · clear hok
      go_enter Try.func19, Try.ntmps19
      go_wp2_with fail
      refine (MonomialsOf_c n d _).mono ?_
      rintro e w1 ⟨u, vs, rfl, hl, hS1⟩
      have HS1 := hid hS1
      clear hS1 hl
      go_wp2_with fail
      go_ret
      have h6 : St w w1 (⟨.slice none 0 0, 34, [] ++ []⟩ :: rowsOn [] (fmB n d m) (rowsOn [] [] [])) := by rw [E.out]; exact HS1.out.dropRows.nilRow _
      have h4 : ([] : List Value).length = (fmB n d m).length := by rw [E.out]; rfl
      first
        | exact ⟨_, .slice none 0 0, [], [], [], rfl, h4, cut_nil, h6⟩
        | exact ⟨_, rfl, .slice none 0 0, [], h4, [], cut_nil, [], h6⟩
        | exact ⟨_, .slice none 0 0, [], rfl, h4, [], cut_nil, [], h6⟩
        | exact ⟨_, rfl, .slice none 0 0, [], h4, [], [], cut_nil, h6⟩
        | exact ⟨_, .slice none 0 0, [], [], rfl, h4, cut_nil, [], h6⟩
    · have q1 : decide (((monB n d).length : Int) < m) = true := decide_eq_true (by omega)
      clear hok
      go_enter Try.func19, Try.ntmps19
      go_wp2_with fail
      refine (MonomialsOf_c n d _).mono ?_
      rintro e w1 ⟨u, vs, rfl, hl, hS1⟩
      have lu := (hS1.rdM hl).ln
      have HS1 := hid hS1
      clear hS1 hl
      go_wp2_with fail
      go_ret
      have h6 : St w w1 (⟨.slice none 0 0, 34, [] ++ []⟩ :: rowsOn [] (fmB n d m) (rowsOn [] [] [])) := by rw [E.out]; exact HS1.out.dropRows.nilRow _
      have h4 : ([] : List Value).length = (fmB n d m).length := by rw [E.out]; rfl
      first
        | exact ⟨_, .slice none 0 0, [], [], [], rfl, h4, cut_nil, h6⟩
        | exact ⟨_, rfl, .slice none 0 0, [], h4, [], cut_nil, [], h6⟩
        | exact ⟨_, .slice none 0 0, [], rfl, h4, [], cut_nil, [], h6⟩
        | exact ⟨_, rfl, .slice none 0 0, [], h4, [], [], cut_nil, h6⟩
        | exact ⟨_, .slice none 0 0, [], [], rfl, h4, cut_nil, [], h6⟩

set_option maxHeartbeats 2000000 in
theorem sFirstMonomials_c (n d m : Int) (w : World) : Calls Try.prog 18 #[.int .i64 n, .int .i64 d, .int .i64 m] w fun e w' => ∃ v vs, e = .returned v ∧ vs.length = (fmB n d m).length ∧ St w w' (⟨v, 34, vs⟩ :: rowsOn vs (fmB n d m) []) := by
  have hml := monB_len n d
  by_cases hz : (monB n d).length = 0
  · have q0 : (((monB n d).length : Int) == 0) = true := by simp [hz]
    have E : Hid (fmB n d m = []) := by
      show _ = _
      have : monB n d = [] := List.eq_nil_of_length_eq_zero hz
      unfold fmB
      rw [this]
      split <;> simp
    clear hz
    go_enter Try.func18, Try.ntmps18
    go_wp2_with fail
    refine (sMonomialsOf_c n d _).mono ?_
    rintro e w1 ⟨u, vs, rfl, hl, hS1⟩
    have lu := (hS1.rdM hl).ln
    have HS1 := hid hS1
    clear hS1 hl
    go_wp2_with fail
    go_ret
    have h6 : St w _ _ := HS1.out.dropRows.newAt #[] 34 (by simp) rfl
    rw [E.out]
    first | exact ⟨_, [], rfl, rfl, h6⟩ | exact ⟨_, rfl, [], rfl, h6⟩
  · have q0 : (((monB n d).length : Int) == 0) = false := by rw [beq_eq_false_iff_ne]; omega
    by_cases hok : 0 ≤ m ∧ m ≤ ((monB n d).length : Int)
    · have qi := inB_t hok.1 hok.2
      obtain ⟨K, rfl⟩ : ∃ K : Nat, m = (K : Int) := ⟨m.toNat, by omega⟩
      have hK : K ≤ (monB n d).length := by omega
      have E := hid (fmB_t hK)
      clear hok hz
      go_enter Try.func18, Try.ntmps18
      go_wp2_with fail
      refine (sMonomialsOf_c n d _).mono ?_
      generalize hL : monB n d = L at *
      have HLL := hid hL
      clear hL
      rintro e w1 ⟨u, vs, rfl, hl, hS1⟩
      have lu := (hS1.rdM hl).ln
      have HS1 := hid hS1
      have HL1 := hid hl
      clear hS1 hl
      go_wp2_with (go_at_call 47; refine (l1In_c _ _ _ _).mono ?_; rintro e w' ⟨rfl, rfl⟩)
      clear q0 qi
      go_loopw [8, 9] (fun o c wr => ∃ (k : Nat) (r : Value), k ≤ K ∧ c = .int .i64 k ∧ o = r ∧ St w wr (⟨r, 34, vs.take k⟩ :: ⟨u, 34, vs⟩ :: rowsOn vs L [])) (fun _ c _ => K - (intOf c).toNat)
      case atStart => exact ⟨0, _, by omega, rfl, rfl, HS1.out.newAt #[] _ (by simp) rfl⟩
      case round =>
        obtain ⟨k, r, hk, rfl, ho, hS⟩ := hrel
        have ho' := ho.symm
        subst ho'
        have HS2 := hid hS
        by_cases hkK : k < K
        · have q1 : decide ((k : Int) < (K : Int)) = true := decide_eq_true (by omega)
          have hM := hS.tail.rdM HL1.out
          have f1 := hM.ix k (by omega)
          have f2 := hM.cell k (by omega)
          obtain ⟨pp, pl, pc', hp⟩ := (hM.row k (by omega)).form
          rw [hp] at f2
          have hvk : k < vs.length := by have := HL1.out; omega
          have E2 : Hid (vs.take (k + 1) = vs.take k ++ [.slice pp pl pc']) := by
            show _ = _
            rw [List.take_succ_eq_append_getElem hvk, ← hp]
            simp [gv, List.getD, hvk]
          have hvl : (vs.take k).length ≤ 252 := by simp; omega
          clear hS hM hp
          go_wp2_with (at_builtin; refine wpList_push rfl _ _ rfl tSS HS2.out.own (.slice pp pl pc') rfl (by omega) rfl rfl ?_)
          intro v2 w2 hO2 hb2
          go_wp2_with fail
          go_roundw
          case rel => exact ⟨k + 1, v2, by omega, by go_num, rfl, by rw [E2.out]; exact HS2.out.mut hO2 hb2⟩
          case measure => simp [intOf]; omega
        · have ek : Hid (k = K) := by show _ = _; omega
          have q1 : decide ((k : Int) < (K : Int)) = false := decide_eq_false (by omega)
          clear hS
          go_wp2_with fail
          go_ret
          have h2 := HS2.out
          have h3 := HL1.out
          rw [ek.out, rows_split vs L K [] h3, ← E.out] at h2
          have h7 : St w wr (⟨r, 34, vs.take K⟩ :: rowsOn (vs.take K) (fmB n d (K : Int)) []) := by
            refine h2.sub (.cons_cons _ (.cons _ ?_))
            exact List.Sublist.append_left (List.nil_sublist _) _
          have h8 : (vs.take K).length = (fmB n d (K : Int)).length := by rw [E.out]; simp; omega
          first | exact ⟨_, vs.take K, rfl, h8, h7⟩ | exact ⟨_, rfl, vs.take K, h8, h7⟩
    · have E := hid (fmB_f hok)
      have qi := inB_f hok
      clear hok hz
      go_enter Try.func18, Try.ntmps18
      go_wp2_with fail
      refine (sMonomialsOf_c n d _).mono ?_
      rintro e w1 ⟨u, vs, rfl, hl, hS1⟩
      have lu := (hS1.rdM hl).ln
      have HS1 := hid hS1
      clear hS1 hl
      go_wp2_with (go_at_call 47; refine (l1In_c _ _ _ _).mono ?_; rintro e w' ⟨rfl, rfl⟩)
      go_ret
      have h6 : St w _ _ := HS1.out.dropRows.newAt #[] 34 (by simp) rfl
      rw [E.out]
      first | exact ⟨_, [], rfl, rfl, h6⟩ | exact ⟨_, rfl, [], rfl, h6⟩

end Go.Proofs.Ytkfkmncecihflaa
