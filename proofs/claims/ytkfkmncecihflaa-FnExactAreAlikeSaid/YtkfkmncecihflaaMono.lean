/-
  Monomials of a degree.
-/
import Derived.Test.YtkfkmncecihflaaMLaws
import Derived.Test.YtkfkmncecihflaaNum
import Derived.Test.YtkfkmncecihflaaCx
namespace Go.Proofs.Ytkfkmncecihflaa
open Go.RowKit

/-- All lists that go on from st with k + 1 exponents of sum d. -/
def monsF (st : List Int) : Nat → Nat → List (List Int)
  | 0, d => [st ++ [(d : Int)]]
  | k + 1, d => (List.range (d + 1)).flatMap fun s => monsF (st ++ [((d - s : Nat) : Int)]) k s
termination_by k => k
def monsT (st : List Int) (k d t : Nat) : List (List Int) := (List.range t).flatMap fun s => monsF (st ++ [((d - s : Nat) : Int)]) k s
theorem monsT_succ (st : List Int) (k d t : Nat) : monsT st k d (t + 1) = monsT st k d t ++ monsF (st ++ [((d - t : Nat) : Int)]) k t := by
  rw [monsT, List.range_succ, List.flatMap_append]; simp [monsT]
theorem monsT_all (st : List Int) (k d : Nat) : monsT st k d (d + 1) = monsF st (k + 1) d := by rw [monsF]; rfl
theorem monsT_le (st : List Int) (k d : Nat) {t u : Nat} (h : t ≤ u) : (monsT st k d t).length ≤ (monsT st k d u).length := by
  induction u with
  | zero => rw [show t = 0 by omega]; exact Nat.le_refl _
  | succ u ih =>
    by_cases e : t = u + 1
    · subst e; exact Nat.le_refl _
    · have := ih (by omega)
      rw [monsT_succ, List.length_append]; omega
theorem monsF_zero (st : List Int) (d : Nat) : monsF st 0 d = [st ++ [(d : Int)]] := by rw [monsF]
theorem monsF_rows {k : Nat} : ∀ {st : List Int} {d : Nat} {r : List Int}, r ∈ monsF st k d → r.length = st.length + k + 1 := by
  induction k with
  | zero => intro st d r h; rw [monsF_zero, List.mem_singleton] at h; subst h; simp
  | succ k ih =>
    intro st d r h
    rw [monsF] at h
    obtain ⟨s, _, hr⟩ := List.mem_flatMap.1 h
    have := ih hr
    simp at this; omega
/-- How many there are. -/
def monC : Nat → Nat → Nat
  | 0, _ => 1
  | k + 1, d => ((List.range (d + 1)).map (monC k)).sum
theorem monsF_len {k : Nat} : ∀ (st : List Int) (d : Nat), (monsF st k d).length = monC k d := by
  induction k with
  | zero => intro st d; rw [monsF_zero]; rfl
  | succ k ih =>
    intro st d
    rw [monsF, List.length_flatMap, monC]
    congr 1
    exact List.map_congr_left fun s _ => ih _ _
theorem monC_fin : ∀ k d : Fin 6, monC k.val d.val ≤ 252 := by decide +kernel
theorem monC_le {k d : Nat} (hk : k ≤ 5) (hd : d ≤ 5) : monC k d ≤ 252 := monC_fin ⟨k, by omega⟩ ⟨d, by omega⟩
def MonOk (n d : Int) : Prop := 1 ≤ n ∧ n ≤ 6 ∧ 0 ≤ d ∧ d ≤ 5
instance (n d : Int) : Decidable (MonOk n d) := by unfold MonOk; exact inferInstance
def monB (n d : Int) : List (List Int) := if MonOk n d then monsF [] (n - 1).toNat d.toNat else []
theorem monB_t {n d : Int} (h : MonOk n d) : monB n d = monsF [] (n - 1).toNat d.toNat := if_pos h
theorem monB_f {n d : Int} (h : ¬ MonOk n d) : monB n d = [] := if_neg h
theorem monB_len (n d : Int) : (monB n d).length ≤ 252 := by
  unfold monB
  split
  · rename_i h
    rw [monsF_len]
    have h1 := h.1; have h2 := h.2.1; have h3 := h.2.2.1; have h4 := h.2.2.2
    exact monC_le (by omega) (by omega)
  · simp
theorem monB_cnt (n d : Int) : cnt (monB n d) ≤ 1000000 := by
  have h := cnt_bd (M := monB n d) (B := 6) (n := 252) (fun k hk => by
    have hm := gr_mem hk
    generalize gr (monB n d) k = r at hm
    unfold monB at hm
    split at hm
    · rename_i h
      have := monsF_rows hm
      have h1 := h.1; have h2 := h.2.1
      simp at this; omega
    · simp at hm) (monB_len n d)
  omega
theorem ints_ones (xs : List Int) : ∀ u ∈ ints xs, u.oneCell' = true := fun u h => by
  obtain ⟨x, _, rfl⟩ := List.mem_map.1 h; rfl

set_option maxHeartbeats 4000000 in
set_option maxRecDepth 100000 in
theorem l12Fill_c (k : Nat) : ∀ (u sv : Value) (vs : List Value) (M : List (List Int)) (st : List Int) (n : Int) (d : Nat) (w0 w : World) (env : List Ent), k ≤ 5 → d ≤ 5 → n = (st.length : Int) + k + 1 → n ≤ 6 → vs.length = M.length → M.length + monC k d ≤ 1000 → (⟨sv, 3, ints st⟩ : Ent) ∈ env → St w0 w (⟨u, 34, vs⟩ :: rowsOn vs M env) →
    Calls Try.prog 48 #[.int .i64 n, .int .i64 (d : Int), sv, u] w fun e w' => ∃ u' vs', e = .returned u' ∧ vs'.length = (M ++ monsF st k d).length ∧ St w0 w' (⟨u', 34, vs'⟩ :: rowsOn vs' (M ++ monsF st k d) env) := by
  induction k with
  | zero =>
    intro u sv vs M st n d w0 w env _ hd hn hn6 hl hb hm hS
    have hrd := hS.dropRows.own.rd hm
    have ls := hrd.iln tI
    have E0 : Hid (monsF st 0 d = [st ++ [(d : Int)]]) := monsF_zero st d
    have hM1 : M.length ≤ 1000 := by omega
    have hst : st.length ≤ 5 := by omega
    have qn : ((st.length : Int) == n - 1) = true := by rw [beq_iff_eq]; omega
    have HA := hid (hS.newAt #[] 3 (by simp) rfl)
    have HL := hid hl
    have HR := hid (hS.dropRows.own.rd hm)
    have HM := hid hm
    clear hrd hS hl hm
    go_enter Try.func48, Try.ntmps48
    go_wp2_with (at_builtin; refine wpList_app rfl _ _ rfl tI HA.out.own (HA.out.tail.dropRows.own.rd HM.out) (ints_ones _) (by simp; omega) rfl rfl ?_)
    intro v1 w1 hO1 hb1
    have HS1 := hid (HA.out.mut hO1 hb1)
    clear hO1 hb1
    go_wp2_with (at_builtin; refine wpList_push rfl _ _ rfl tI HS1.out.own (.int .i64 (d : Int)) rfl (by simp; omega) rfl rfl ?_)
    intro v2 w2 hO2 hb2
    have hS2 := HS1.out.mut hO2 hb2
    first | rw [ints_snoc] at hS2 | (rw [show (#[] : Array Value).toList = [] from rfl, List.nil_append, ints_snoc] at hS2)
    obtain ⟨rp, rl, rc, rfl⟩ := hS2.hd.form
    have HS2 := hid hS2
    clear hS2 hO2 hb2
    go_wp2_with (at_builtin; refine wpList_push rfl _ _ rfl tSS HS2.out.swap.own (.slice rp rl rc) rfl (by have := HL.out; omega) rfl rfl ?_)
    intro v3 w3 hO3 hb3
    have hS3 := (HS2.out.swap.mut hO3 hb3).snocRow HL.out
    rw [← E0.out] at hS3
    have HS3 := hid hS3
    clear hS3 hO3 hb3
    go_wp2_with fail
    go_ret
    have h9 : (vs ++ [Value.slice rp rl rc]).length = (M ++ monsF st 0 d).length := by rw [E0.out]; simp; exact HL.out
    rw [List.length_append] at h9
    first | exact ⟨v3, vs ++ [Value.slice rp rl rc], rfl, h9, HS3.out⟩ | exact ⟨v3, rfl, vs ++ [Value.slice rp rl rc], h9, HS3.out⟩ | (refine ⟨v3, vs ++ [Value.slice rp rl rc], rfl, ?_, HS3.out⟩; simpa using h9)
  | succ k ih =>
    intro u sv vs M st n d w0 w env hk hd hn hn6 hl hb hm hS
    have hrd := hS.dropRows.own.rd hm
    have ls := hrd.iln tI
    have hst : st.length ≤ 5 := by omega
    have qn : ((st.length : Int) == n - 1) = false := by rw [beq_eq_false_iff_ne]; omega
    have HM := hid hm
    have HT0 : Hid (M ++ monsT st k d 0 = M) := by show _ = _; simp [monsT]
    have HT1 : Hid (monsT st k d (d + 1) = monsF st (k + 1) d) := monsT_all st k d
    have HTL : Hid (∀ t, t ≤ d → (monsT st k d t).length + monC k t ≤ monC (k + 1) d) := fun t ht => by
      have h1 := monsT_le st k d (show t + 1 ≤ d + 1 by omega)
      rw [monsT_all, monsF_len, monsT_succ, List.length_append, monsF_len] at h1
      exact h1
    have HIH := hid ih
    have HS0 := hid hS
    have HL := hid hl
    have HB := hid hb
    have HN := hid hn
    have n0 : 1 ≤ n := by omega
    clear ih hrd hS hl hm hb hn
    go_enter Try.func48, Try.ntmps48
    go_wp2_with fail
    go_loopw [3, 9] (fun o c wr => ∃ (t : Nat) (X : Int) (u : Value) (vs : List Value), t ≤ d + 1 ∧ Hid (X = (d : Int) - t) ∧ c = .int .i64 X ∧ o = u ∧ vs.length = (M ++ monsT st k d t).length ∧ St w0 wr (⟨u, 34, vs⟩ :: rowsOn vs (M ++ monsT st k d t) env)) (fun _ c _ => (intOf c + 1).toNat)
    case atStart => exact ⟨0, (d : Int), u, vs, by omega, by show _ = _; simp, rfl, rfl, by rw [HT0.out]; exact HL.out, by rw [HT0.out]; exact HS0.out⟩
    case round =>
      obtain ⟨t, X, u, vs, ht, hXm, rfl, ho, hvl, hS⟩ := hrel
      have ho' := ho.symm
      subst ho'
      have hX := hXm.out
      by_cases htd : t ≤ d
      · have q1 : decide ((0 : Int) ≤ X) = true := decide_eq_true (by omega)
        have HA := hid (hS.newAt #[] 3 (by simp) rfl)
        have HVL := hid hvl
        have hbt := HTL.out t htd
        have hbb := HB.out
        have E1 := hid (monsT_succ st k d t)
        have eX : ((d - t : Nat) : Int) = X := by omega
        have eD : (d : Int) - X = (t : Int) := by omega
        have hX0 : 0 ≤ X := by omega
        have hX5 : X ≤ 5 := by omega
        have u1 : IntKind.i64.wrap (d : Int) = (d : Int) := IntWalk.i64_in _ (by omega)
        clear hS hvl hX
        go_wp2_with (at_builtin; refine wpList_app rfl _ _ rfl tI HA.out.own (HA.out.tail.dropRows.own.rd HM.out) (ints_ones _) (by simp; omega) rfl rfl ?_)
        intro v1 w1 hO1 hb1
        have HS1 := hid (HA.out.mut hO1 hb1)
        clear hO1 hb1
        go_wp2_with (at_builtin; refine wpList_push rfl _ _ rfl tI HS1.out.own (.int .i64 X) rfl (by simp; omega) rfl rfl ?_)
        intro v2 w2 hO2 hb2
        have hS2 := HS1.out.mut hO2 hb2
        first | rw [ints_snoc] at hS2 | (rw [show (#[] : Array Value).toList = [] from rfl, List.nil_append, ints_snoc] at hS2)
        have HS2 := hid (hS2.perm rowsLift.symm)
        clear hS2 hO2 hb2
        go_wp2_with fail
        refine (HIH.out _ v2 vs (M ++ monsT st k d t) (st ++ [X]) n t w0 _ _ (by omega) (by omega) (by have := HN.out; simp; omega) hn6 HVL.out (by rw [List.length_append]; omega) (.head _) HS2.out).mono ?_
        rintro e w3 ⟨u', vs', rfl, hl3, hS3⟩
        have hS4 : St w0 w3 (⟨u', 34, vs'⟩ :: rowsOn vs' (M ++ monsT st k d (t + 1)) env) := by
          rw [E1.out, ← List.append_assoc, eX]
          exact hS3.sub (.cons_cons _ (List.Sublist.append_left (.cons _ (List.Sublist.refl _)) _))
        have hl4 : vs'.length = (M ++ monsT st k d (t + 1)).length := by rw [E1.out, ← List.append_assoc, eX]; exact hl3
        have HS4 := hid hS4
        have HL4 := hid hl4
        clear hS3 hl3 hS4 hl4 hbt hbb
        go_wp2_with fail
        go_roundw
        case rel => exact ⟨t + 1, X - 1, u', vs', by omega, by show _ = _; have := hXm.out; omega, by go_num, rfl, HL4.out, HS4.out⟩
        case measure => simp [intOf]; omega
      · have et : Hid (t = d + 1) := by show _ = _; omega
        have q1 : decide ((0 : Int) ≤ X) = false := decide_eq_false (by omega)
        have HS := hid hS
        have HVL := hid hvl
        clear hS hvl hX
        go_wp2_with fail
        go_ret
        have h8 := HS.out
        have h9 := HVL.out
        rw [et.out, HT1.out] at h8 h9
        rw [List.length_append] at h9
        first | exact ⟨_, vs, rfl, h9, h8⟩ | exact ⟨_, rfl, vs, h9, h8⟩

end Go.Proofs.Ytkfkmncecihflaa
