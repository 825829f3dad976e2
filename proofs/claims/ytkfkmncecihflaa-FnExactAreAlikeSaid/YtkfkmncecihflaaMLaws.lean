/-
  The laws' own helpers for slices of slices of integers.
-/
import Derived.Test.YtkfkmncecihflaaMat
import Derived.Test.YtkfkmncecihflaaLaws
namespace Go.Proofs.Ytkfkmncecihflaa
open Go.RowKit

theorem rowsPerm {e : Ent} {vs : List Value} {M : List (List Int)} {X Y : List Ent} (h : X.Perm Y) : (e :: rowsOn vs M X).Perm (e :: rowsOn vs M Y) := List.Perm.cons _ (h.append_left _)
theorem rowsLift {e x : Ent} {vs : List Value} {M : List (List Int)} {Y : List Ent} : (e :: rowsOn vs M (x :: Y)).Perm (x :: e :: rowsOn vs M Y) := (List.Perm.cons _ List.perm_middle).trans (List.Perm.swap _ _ _)
theorem rowsSwap {e e' : Ent} {vs us : List Value} {M N : List (List Int)} {Z : List Ent} : (e :: rowsOn vs M (e' :: rowsOn us N Z)).Perm (e' :: rowsOn us N (e :: rowsOn vs M Z)) := by
  refine rowsLift.trans (List.Perm.cons _ ?_)
  have h : (rowsOn vs M (rowsOn us N Z)).Perm (rowsOn us N (rowsOn vs M Z)) := by
    simp only [rowsOn]
    rw [← List.append_assoc, ← List.append_assoc]
    exact (List.perm_append_comm (l₁ := rows vs M) (l₂ := rows us N)).append_right Z
  exact (List.Perm.cons _ h).trans List.perm_middle.symm
theorem quiet_drew {P : Program} {f : FuncId} {args : Array Value} {w : World} {n : Nat} {v : Value}
    (h : Calls P f args (w.drewN n) fun e w' => e = .returned v ∧ ∃ m, w' = (w.drewN n).drewN m) : Calls P f args (w.drewN n) fun e w'' => e = .returned v ∧ ∃ m, w'' = w.drewN m :=
  h.mono fun _ _ ⟨he, m, hm⟩ => ⟨he, n + m, by rw [hm, World.drewN_drewN]⟩
theorem take_succ_eq_gr {M N : List (List Int)} {k : Nat} (h : k < M.length) (h' : k < N.length) (hp : M.take k = N.take k) (he : gr M k = gr N k) : M.take (k + 1) = N.take (k + 1) := by
  rw [take_succ_gr h, take_succ_gr h', hp, he]

set_option maxHeartbeats 1000000 in
theorem eqIntSS_c (va vb : Value) (vs us : List Value) (M N : List (List Int)) (w : World) (ha : RdM w va vs M) (hb : RdM w vb us N) : Calls Try.prog 15 #[va, vb] w fun e w' => e = .returned (.bool (decide (M = N))) ∧ ∃ n, w' = w.drewN n := by
  have la := ha.ln
  have lb := hb.ln
  have ba := ha.le
  by_cases hlen : M.length = N.length
  · have hl1 : ((M.length : Int) != (N.length : Int)) = false := by simp [hlen]
    have HL := hid hlen
    clear hlen
    go_enter Try.func15, Try.ntmps15
    go_wp2_with fail
    go_loopw [5] (fun i wr => ∃ k n : Nat, k ≤ M.length ∧ i = .int .i64 k ∧ wr = w.drewN n ∧ Hid (M.take k = N.take k)) (fun i _ => M.length - (intOf i).toNat)
    case atStart => exact ⟨0, 0, Nat.zero_le _, rfl, rfl, by simp [Hid]⟩
    case round =>
      obtain ⟨k, n, hk, rfl, hw, HP⟩ := hrel
      have HW := hid hw
      have ha2 : RdM wr va vs M := by rw [hw]; exact ha.drew n
      have hb2 : RdM wr vb us N := by rw [hw]; exact hb.drew n
      clear hw
      by_cases hlt : k < M.length
      · have hlt' : k < N.length := by have := HL.out; omega
        have h1 := ha2.ix k hlt
        have h2 := ha2.cell k hlt
        have h3 := hb2.ix k hlt'
        have h4 := hb2.cell k hlt'
        have HA := hid (ha2.row k hlt)
        have HB := hid (hb2.row k hlt')
        clear ha2 hb2
        go_wp2_with fail
        by_cases hne : gr M k = gr N k
        · have hd : decide (gr M k = gr N k) = true := decide_eq_true hne
          have HN := hid hne
          clear hne
          go_quiet ((go_at_call 34; exact quiet_drew (eqIntS_c _ _ _ _ _ (HA.out.drew _) (HB.out.drew _))))
          go_wp2_with fail
          go_roundw
          case rel => exact ⟨k + 1, n + nq, by omega, by go_num, by rw [HW.out, World.drewN_drewN], take_succ_eq_gr hlt hlt' HP.out HN.out⟩
          case measure => simp [intOf]; omega
        · have hd : decide (gr M k = gr N k) = false := decide_eq_false hne
          have HD : Hid (decide (M = N) = false) := by show _ = _; simp; rintro rfl; exact hne rfl
          clear hne
          go_quiet ((go_at_call 34; exact quiet_drew (eqIntS_c _ _ _ _ _ (HA.out.drew _) (HB.out.drew _))))
          go_wp2_with fail
          go_ret
          exact ⟨by rw [HD.out]; rfl, n + nq, by rw [HW.out, World.drewN_drewN]⟩
      · have hd : decide (M = N) = true := by
          have e1 : M.take k = M := List.take_of_length_le (by omega)
          have e2 : N.take k = N := List.take_of_length_le (by have := HL.out; omega)
          have := HP.out
          rw [e1, e2] at this
          simpa using this
        have HD := hid hd
        clear hd
        go_wp2_with fail
        go_ret
        exact ⟨by rw [HD.out]; rfl, n, HW.out⟩
  · have hl1 : ((M.length : Int) != (N.length : Int)) = true := by simp; omega
    have hd : decide (M = N) = false := by simp; intro h; exact hlen (by rw [h])
    have HD := hid hd
    clear hlen hd
    go_enter Try.func15, Try.ntmps15
    go_wp2_with fail
    go_ret
    exact ⟨by rw [HD.out]; rfl, 0, rfl⟩

/-- How many numbers the first i rows have. -/
def cntTo (M : List (List Int)) : Nat → Nat
  | 0 => 0
  | i + 1 => cntTo M i + (gr M i).length
def cnt (M : List (List Int)) : Nat := cntTo M M.length
theorem cntTo_mono (M : List (List Int)) {i j : Nat} (h : i ≤ j) : cntTo M i ≤ cntTo M j := by
  induction j with
  | zero => have : i = 0 := by omega
            subst this; exact Nat.le_refl _
  | succ j ih =>
    by_cases e : i = j + 1
    · subst e; exact Nat.le_refl _
    · have := ih (by omega)
      rw [cntTo]; omega
theorem cntTo_le (M : List (List Int)) {i : Nat} (h : i ≤ M.length) : cntTo M i ≤ cnt M := cntTo_mono M h
theorem cntTo_bd {M : List (List Int)} {B : Nat} (h : ∀ k, k < M.length → (gr M k).length ≤ B) {i : Nat} (hi : i ≤ M.length) : cntTo M i ≤ B * i := by
  induction i with
  | zero => simp [cntTo]
  | succ i ih =>
    have h1 := ih (by omega)
    have h2 := h i (by omega)
    rw [cntTo, Nat.mul_succ]; omega
theorem cnt_bd {M : List (List Int)} {B n : Nat} (h : ∀ k, k < M.length → (gr M k).length ≤ B) (hn : M.length ≤ n) : cnt M ≤ B * n :=
  Nat.le_trans (cntTo_bd h (Nat.le_refl _)) (Nat.mul_le_mul_left _ hn)
/-- The first i rows marked. -/
def markTo (k : Int) (M : List (List Int)) (i : Nat) : List (List Int) := (List.range M.length).map fun a => if a < i then marks (k + (cntTo M a : Int)) (gr M a).length else gr M a
theorem markTo_len (k : Int) (M : List (List Int)) (i : Nat) : (markTo k M i).length = M.length := by simp [markTo]
theorem markTo_gr {k : Int} {M : List (List Int)} {i a : Nat} (h : a < M.length) : gr (markTo k M i) a = if a < i then marks (k + (cntTo M a : Int)) (gr M a).length else gr M a := by simp [gr, markTo, List.getD, h]
theorem ext_gr {M N : List (List Int)} (hl : M.length = N.length) (h : ∀ k, k < M.length → gr M k = gr N k) : M = N := by
  refine List.ext_getElem hl fun k h1 h2 => ?_
  have := h k h1
  rwa [gr_eq h1, gr_eq h2] at this
theorem markTo_zero (k : Int) (M : List (List Int)) : markTo k M 0 = M := ext_gr (markTo_len k M 0) fun a ha => by
  rw [markTo_gr (by rwa [markTo_len] at ha), if_neg (by omega)]
theorem markTo_succ {k : Int} {M : List (List Int)} {i : Nat} (h : i < M.length) : (markTo k M i).set i (marks (k + (cntTo M i : Int)) (gr M i).length) = markTo k M (i + 1) := ext_gr (by simp [markTo]) fun a ha => by
  have ha' : a < M.length := by simpa [markTo] using ha
  rw [gr_set (by rw [markTo_len]; exact h), markTo_gr ha', markTo_gr ha']
  by_cases e : a = i
  · subst e; rw [if_pos rfl, if_pos (by omega)]
  · rw [if_neg e]
    by_cases h2 : a < i
    · rw [if_pos h2, if_pos (by omega)]
    · rw [if_neg h2, if_neg (by omega)]

set_option maxHeartbeats 1000000 in
theorem markIntSS_c (va : Value) (t : TypeId) (vs : List Value) (M : List (List Int)) (k : Int) (w0 w : World) (env : List Ent) (hS : St w0 w (⟨va, t, vs⟩ :: rowsOn vs M env)) (hl : vs.length = M.length) (h0 : 0 ≤ k) (hk : k + (cnt M : Int) ≤ 1099511627776) :
    Calls Try.prog 16 #[va, .int .i64 k] w fun e w' => e = .returned (.int .i64 (k + (cnt M : Int))) ∧ St w0 w' (⟨va, t, vs⟩ :: rowsOn vs (markTo k M M.length) env) := by
  have lM := (hS.rdM hl).ln
  have ll := (hS.rdM hl).le
  have HS0 := hid hS
  have E0 := hid (markTo_zero k M)
  clear hS
  go_enter Try.func16, Try.ntmps16
  go_wp2_with fail
  go_loopw [1, 5] (fun c i wr => ∃ j : Nat, j ≤ M.length ∧ i = .int .i64 j ∧ c = .int .i64 (k + (cntTo M j : Int)) ∧ St w0 wr (⟨va, t, vs⟩ :: rowsOn vs (markTo k M j) env)) (fun _ i _ => M.length - (intOf i).toNat)
  case atStart => exact ⟨0, Nat.zero_le _, rfl, by simp [cntTo], by rw [E0.out]; exact HS0.out⟩
  case round =>
    obtain ⟨j, hj, rfl, rfl, hS⟩ := hrel
    have hl2 : vs.length = (markTo k M j).length := by rw [markTo_len]; exact hl
    by_cases hlt : j < M.length
    · have hlt2 : j < (markTo k M j).length := by rw [markTo_len]; exact hlt
      have hM := hS.rdM hl2
      have f1 := hM.ix j hlt2
      have f2 := hM.cell j hlt2
      have eg : gr (markTo k M j) j = gr M j := by rw [markTo_gr hlt, if_neg (by omega)]
      have hP := hS.pick hl2 hlt2
      rw [eg] at hP
      have hc1 := cntTo_le M (show j + 1 ≤ M.length by omega)
      have hc2 : cntTo M (j + 1) = cntTo M j + (gr M j).length := rfl
      have HP := hid hP
      have HE := hid (markTo_succ (k := k) hlt)
      clear hS hM hP
      go_wp2_with fail
      refine (markIntS_c _ _ _ _ _ _ HP.out.own (ints_cells _) (by omega) (by simp; omega)).mono ?_
      rintro e w2 ⟨rfl, hO, hN⟩
      rw [length_ints] at hO
      have hS2 := (HP.out.mut hO hN).unpick hl2 hlt2
      rw [set_gv (by omega), HE.out] at hS2
      have HS2 := hid hS2
      clear hO hN hS2
      simp only [length_ints]
      go_wp2_with fail
      go_roundw
      case rel => exact ⟨j + 1, by omega, by go_num, by rw [hc2]; go_num, HS2.out⟩
      case measure => simp [intOf]; omega
    · have e : j = M.length := by omega
      have HS := hid hS
      clear hS
      subst e
      go_wp2_with fail
      go_ret
      exact ⟨rfl, HS.out⟩

set_option maxHeartbeats 1000000 in
theorem heldIntSS_c (va : Value) (vs : List Value) (M : List (List Int)) (k : Int) (w : World) (ha : RdM w va vs (markTo k M M.length)) (h0 : 0 ≤ k) (hk : k + (cnt M : Int) ≤ 1099511627776) :
    Calls Try.prog 17 #[va, .int .i64 k] w fun e w' => e = .returned (.int .i64 (k + (cnt M : Int))) ∧ ∃ m, w' = w.drewN m := by
  have lM := ha.ln
  have ll := ha.le
  rw [markTo_len] at lM ll
  go_enter Try.func17, Try.ntmps17
  go_wp2_with fail
  go_loopw [1, 5] (fun c i wr => ∃ j m : Nat, j ≤ M.length ∧ i = .int .i64 j ∧ c = .int .i64 (k + (cntTo M j : Int)) ∧ wr = w.drewN m) (fun _ i _ => M.length - (intOf i).toNat)
  case atStart => exact ⟨0, 0, Nat.zero_le _, rfl, by simp [cntTo], rfl⟩
  case round =>
    obtain ⟨j, m, hj, rfl, rfl, rfl⟩ := hrel
    by_cases hlt : j < M.length
    · have hlt2 : j < (markTo k M M.length).length := by rw [markTo_len]; exact hlt
      have f1 := ha.ix j hlt2
      have f2 := ha.cell j hlt2
      have eg : gr (markTo k M M.length) j = marks (k + (cntTo M j : Int)) (gr M j).length := by rw [markTo_gr hlt, if_pos hlt]
      have hr := ha.row j hlt2
      rw [eg] at hr
      have hc1 := cntTo_le M (show j + 1 ≤ M.length by omega)
      have hc2 : cntTo M (j + 1) = cntTo M j + (gr M j).length := rfl
      have HR := hid hr
      clear hr eg
      go_wp2_with fail
      refine (heldIntS_c _ _ _ _ (HR.out.drew m) (by omega) (by omega)).mono ?_
      rintro e w2 ⟨rfl, q, rfl⟩
      rw [World.drewN_drewN]
      go_wp2_with fail
      go_roundw
      case rel => exact ⟨j + 1, m + q, by omega, by go_num, by rw [hc2]; go_num, rfl⟩
      case measure => simp [intOf]; omega
    · have e : j = M.length := by omega
      subst e
      go_wp2_with fail
      go_ret
      exact ⟨rfl, m, rfl⟩

end Go.Proofs.Ytkfkmncecihflaa
