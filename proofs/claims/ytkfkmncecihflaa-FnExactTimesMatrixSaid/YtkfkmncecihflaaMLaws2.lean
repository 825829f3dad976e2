/-
  The laws' own helpers for slices of slices of integers that come in: their copies, their bulk, how they read.
-/
import Derived.Test.YtkfkmncecihflaaMLaws
import Derived.Test.YtkfkmncecihflaaFill
import Derived.Test.YtkfkmncecihflaaNum
import Derived.Deep.Matrix
namespace Go.Proofs.Ytkfkmncecihflaa
open Go.RowKit

/-- The bulk of a matrix as the laws count it. -/
def szN2 (M : List (List Int)) : Nat := M.length + cnt M
theorem szN2_cnt (M : List (List Int)) : szN2 M = M.length + cnt M := rfl

theorem rd_of_cells {w : World} {a : Addr} {len cap : Nat} {L : List Value} (hL : L.length = len) (hl : len ≤ cap) (hm : cap ≤ maxLen) (hcell : ∀ i, i < len → w.cell? (a.add i) = L[i]?) : Rd w (.slice (some a) len cap) L := by
  subst hL
  refine .inr ⟨a, cap, rfl, hl, hm, fun j hj => ?_⟩
  have hc := hcell j hj
  have hadd : a.add j = ⟨a.block, a.off + j, none⟩ := by
    by_cases h0 : j = 0
    · subst h0
      have hs : a.spot = none := by
        have h1 := hcell 0 hj
        rw [List.getElem?_eq_getElem hj] at h1
        simpa [Addr.add] using World.cell?_spot h1
      cases a
      simp only at hs
      subst hs
      simp [Addr.add]
    · simp [Addr.add, h0]
  exact ⟨by rw [← hadd, hc], hadd⟩
theorem rdM_nil (w : World) : RdM w (.slice none 0 0) [] [] := ⟨.inl ⟨rfl, rfl⟩, rfl, fun k hk => by simp at hk⟩
theorem rdM_of_open {w : World} {base : Nat} {a : Addr} {len cap : Nat} {A : Nat → Option Addr} {L C : Nat → Nat} {Z : Nat → List Int} (hl : len ≤ cap) (hm : cap ≤ maxLen)
    (h : ∀ r, r < cap → w.cell? (a.add r) = some (.slice (A r) (L r) (C r)) ∧ L r ≤ C r ∧ C r ≤ maxLen ∧ (Z r).length = C r ∧ (∀ n ∈ Z r, (Lit.int .i64 n).wf = true) ∧ (A r = none → C r = 0) ∧
      ∀ a', A r = some a' → base ≤ a'.block ∧ ∀ c, c < C r → w.cell? (a'.add c) = some (.int .i64 ((Z r).getD c 0))) :
    RdM w (.slice (some a) len cap) ((List.range len).map fun r => .slice (A r) (L r) (C r)) ((List.range len).map fun r => (Z r).take (L r)) := by
  refine ⟨rd_of_cells (by simp) hl hm fun i hi => ?_, by simp, fun k hk => ?_⟩
  · rw [(h i (by omega)).1]; simp [hi]
  · simp only [List.length_map, List.length_range] at hk
    have e1 : gv ((List.range len).map fun r => Value.slice (A r) (L r) (C r)) k = .slice (A k) (L k) (C k) := by simp [gv, List.getD, hk]
    have e2 : gr ((List.range len).map fun r => (Z r).take (L r)) k = (Z k).take (L k) := by simp [gr, List.getD, hk]
    rw [e1, e2]
    obtain ⟨_, h2, h3, h4, _, h6, h7⟩ := h k (by omega)
    cases hA : A k with
    | none =>
      have hc := h6 hA
      have hL0 : L k = 0 := by omega
      rw [hL0, hc]
      exact .inl ⟨rfl, by simp [ints]⟩
    | some a' => exact rd_of_open h2 h3 (by omega) fun i hi => (h7 a' hA).2 i (by omega)

set_option maxHeartbeats 400000 in
theorem szIntS_ok (va : Value) (xs : List Int) (left : Int) (w : World) (ha : Rd w va (ints xs)) (hl : (xs.length : Int) ≤ left) (h2 : left ≤ 1048576) :
    Calls Try.prog 50 #[va, .int .i64 left] w fun e w' => e = .returned (.int .i64 (left - xs.length)) ∧ w = w' := by
  have la := ha.iln tI
  have ll := ha.ile
  go_enter Try.func50, Try.ntmps50
  go_wp2_with fail
  go_ret
  exact ⟨rfl, rfl⟩
set_option maxHeartbeats 400000 in
theorem szIntS_big (va : Value) (xs : List Int) (left : Int) (w : World) (ha : Rd w va (ints xs)) (hl : left < (xs.length : Int)) (h0 : 0 ≤ left) (h2 : left ≤ 1048576) :
    Calls Try.prog 50 #[va, .int .i64 left] w fun e w' => e = .returned (.int .i64 (-1)) ∧ w = w' := by
  have la := ha.iln tI
  have ll := ha.ile
  go_enter Try.func50, Try.ntmps50
  go_wp2_with fail
  go_ret
  exact ⟨rfl, rfl⟩

set_option maxHeartbeats 1000000 in
theorem szIntSS_ok (va : Value) (vs : List Value) (M : List (List Int)) (left : Int) (w : World) (ha : RdM w va vs M) (hl : (szN2 M : Int) ≤ left) (h2 : left ≤ 1048576) :
    Calls Try.prog 20 #[va, .int .i64 left] w fun e w' => e = .returned (.int .i64 (left - (szN2 M : Int))) ∧ Below w.heap.size w w' := by
  have la := ha.ln
  have ll := ha.le
  have hsz := szN2_cnt M
  have HA := hid ha
  clear ha
  go_enter Try.func20, Try.ntmps20
  go_wp2_with fail
  go_loop [1, 5] (fun c i => ∃ j : Nat, j ≤ M.length ∧ i = .int .i64 j ∧ c = .int .i64 (left - (M.length : Int) - (cntTo M j : Int))) (fun _ i => M.length - (intOf i).toNat)
  case atStart => exact ⟨0, by omega, rfl, by simp [cntTo]⟩
  case round =>
    obtain ⟨j, hj, rfl, rfl⟩ := hrel
    by_cases hlt : j < M.length
    · have f1 := HA.out.ix j hlt
      have f2 := HA.out.cell j hlt
      have hr := HA.out.row j hlt
      have HR := hid hr
      have hc1 := cntTo_le M (show j + 1 ≤ M.length by omega)
      have hc2 : cntTo M (j + 1) = cntTo M j + (gr M j).length := rfl
      clear hr
      go_wp2_with fail
      refine (szIntS_ok _ _ _ _ HR.out (by omega) (by omega)).mono ?_
      rintro e w' ⟨rfl, rfl⟩
      go_wp2_with fail
      go_round
      case rel => exact ⟨j + 1, by omega, by go_num, by rw [hc2]; go_num⟩
      case measure => simp [intOf]; omega
    · have ej : j = M.length := by omega
      subst ej
      have hc : (cntTo M M.length : Int) = (cnt M : Int) := rfl
      go_wp2_with fail
      go_ret
      refine ⟨?_, Below.refl _ _⟩
      exact ret_int (by omega)
set_option maxHeartbeats 1000000 in
theorem szIntSS_big (va : Value) (vs : List Value) (M : List (List Int)) (left : Int) (w : World) (ha : RdM w va vs M) (hl : left < (szN2 M : Int)) (h2 : left ≤ 1048576) (h0 : 0 ≤ left) :
    Calls Try.prog 20 #[va, .int .i64 left] w fun e w' => e = .returned (.int .i64 (-1)) ∧ Below w.heap.size w w' := by
  have la := ha.ln
  have ll := ha.le
  have hsz := szN2_cnt M
  have HA := hid ha
  clear ha
  by_cases hb : left < (M.length : Int)
  · go_enter Try.func20, Try.ntmps20
    go_wp2_with fail
    go_ret
    exact ⟨rfl, Below.refl _ _⟩
  · go_enter Try.func20, Try.ntmps20
    go_wp2_with fail
    go_loop [1, 5] (fun c i => ∃ j : Nat, j ≤ M.length ∧ i = .int .i64 j ∧ c = .int .i64 (left - (M.length : Int) - (cntTo M j : Int)) ∧ (cntTo M j : Int) ≤ left - (M.length : Int)) (fun _ i => M.length - (intOf i).toNat)
    case atStart => exact ⟨0, by omega, rfl, by simp [cntTo], by simp [cntTo]; omega⟩
    case round =>
      obtain ⟨j, hj, rfl, rfl, hq⟩ := hrel
      have hlt : j < M.length := by
        refine Classical.byContradiction fun h => ?_
        have ej : j = M.length := by omega
        subst ej
        have hc : (cntTo M M.length : Int) = (cnt M : Int) := rfl
        omega
      have f1 := HA.out.ix j hlt
      have f2 := HA.out.cell j hlt
      have hr := HA.out.row j hlt
      have HR := hid hr
      have hc2 : cntTo M (j + 1) = cntTo M j + (gr M j).length := rfl
      clear hr
      by_cases hx : left - (M.length : Int) - (cntTo M j : Int) < ((gr M j).length : Int)
      · go_wp2_with fail
        refine (szIntS_big _ _ _ _ HR.out (by omega) (by omega) (by omega)).mono ?_
        rintro e w' ⟨rfl, rfl⟩
        go_wp2_with fail
        go_ret
        exact ⟨rfl, Below.refl _ _⟩
      · go_wp2_with fail
        refine (szIntS_ok _ _ _ _ HR.out (by omega) (by omega)).mono ?_
        rintro e w' ⟨rfl, rfl⟩
        go_wp2_with fail
        go_round
        case rel => exact ⟨j + 1, by omega, by go_num, by rw [hc2]; go_num, by omega⟩
        case measure => simp [intOf]; omega

set_option maxHeartbeats 2000000 in
theorem toIntSS_c (va : Value) (bs : List Value) (M : List (List Int)) (w : World) (ha : RdM w va bs M) (hs : (szN2 M : Int) ≤ 1048576) :
    Calls Try.prog 22 #[va] w fun e w' => ∃ v vs, e = .returned v ∧ vs.length = M.length ∧ St w w' (⟨v, 34, vs⟩ :: rowsOn vs M []) := by
  have la := ha.ln
  have HA := hid ha
  have hsz := szN2_cnt M
  have HW : Hid (∀ k, k < M.length → (gr M k).length ≤ 1048576) := fun k hk => by
    have h1 := cntTo_le M (show k + 1 ≤ M.length by omega)
    have h2 : cntTo M (k + 1) = cntTo M k + (gr M k).length := rfl
    omega
  clear ha
  go_enter Try.func22, Try.ntmps22
  go_wp2_with (at_make; refine wpList_mk rfl _ _ rfl tSS (St.start w).own M.length (by omega) rfl rfl ?_)
  intro u w1 hO hB
  have hS0 := (St.mk hO hB : St w w1 _).nilRows M.length
  rw [← partM_zero] at hS0
  have HS0 := hid hS0
  clear hO hB hS0
  go_wp2_with fail
  go_loopw [4] (fun i wr => ∃ (i' : Nat) (vs : List Value), i' ≤ M.length ∧ i = .int .i64 i' ∧ vs.length = M.length ∧ St w wr (⟨u, 34, vs⟩ :: rowsOn vs (partM M i') [])) (fun i _ => M.length - (intOf i).toNat)
  case atStart => exact ⟨0, _, by omega, rfl, by simp, HS0.out⟩
  case round =>
    obtain ⟨i, vs, hi, rfl, hvl, hS⟩ := hrel
    have HL := hid hvl
    have HS := hid hS
    have ha1 := hS.oldM HA.out
    by_cases hlt : i < M.length
    · have f1 := ha1.ix i hlt
      have f2 := ha1.cell i hlt
      have HR := hid (ha1.row i hlt)
      have hiv : i < vs.length := by omega
      have hpl : vs.length = (partM M i).length := by rw [partM_len]; exact hvl
      have hwi := HW.out i hlt
      have EN := hid (partM_succ (M := M) (i := i) hlt)
      clear hS hvl ha1
      go_wp2_with fail
      refine (toIntS_c _ _ _ HR.out (by omega)).mono ?_
      rintro e w2 ⟨r, rfl, hN⟩
      have hS2 := HS.out.call1 hN
      obtain ⟨rp, rl, rc, hrf⟩ : ∃ p l c, r = .slice p l c := by
        rcases hS2.hd with ⟨h, _⟩ | ⟨a, cap, h, _⟩
        · exact ⟨_, _, _, h⟩
        · exact ⟨_, _, _, h⟩
      subst hrf
      have g1 := hS2.hd2.ix tSS i hiv
      have g2 : w2.cell? (adr u i) = some (gv vs i) := by rw [hS2.hd2.cell i hiv, gv_get hiv]
      have g3 : w2.frozen? (adr u i) = false := hS2.own.free (.tail _ (.head _)) i hiv
      have hS3 := (hS2.swap.set i hiv (.slice rp rl rc)).swap.putRow hpl (k := i) (by rw [partM_len]; omega)
      rw [EN.out] at hS3
      have HS3 := hid hS3
      clear hN hS2 hS3
      go_wp2_with fail
      go_roundw
      case rel => exact ⟨i + 1, _, by omega, by go_num, by have := HL.out; simp; omega, HS3.out⟩
      case measure => simp [intOf]; omega
    · have ep : Hid (partM M i = M) := partM_all (by omega)
      clear hS hvl ha1
      go_wp2_with fail
      go_ret
      first | exact ⟨_, vs, rfl, HL.out, by have := HS.out; rwa [ep.out] at this⟩ | exact ⟨_, rfl, vs, HL.out, by have := HS.out; rwa [ep.out] at this⟩

end Go.Proofs.Ytkfkmncecihflaa
