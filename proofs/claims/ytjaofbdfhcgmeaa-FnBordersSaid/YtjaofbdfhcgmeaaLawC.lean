/-
  The laws' small tests on lists of lists.
-/
import Derived.Test.YtjaofbdfhcgmeaaHLaw
import Derived.Test.YtjaofbdfhcgmeaaMLaws
namespace Go.Proofs.Ytjaofbdfhcgmeaa
open Go.RowKit

theorem St.callM2 {w0 w w' : World} {v v2 : Value} {t t2 : TypeId} {vs vs2 : List Value} {M M2 : List (List Int)} {env : List Ent} (h : St w0 w env) (h' : St w w' (⟨v2, t2, vs2⟩ :: rowsOn vs2 M2 (⟨v, t, vs⟩ :: rowsOn vs M []))) :
    St w0 w' (⟨v2, t2, vs2⟩ :: rowsOn vs2 M2 (⟨v, t, vs⟩ :: rowsOn vs M env)) := by
  have := h.call h'
  simp only [rowsOn, List.append_nil, List.cons_append, List.append_assoc] at this ⊢
  exact this
set_option maxHeartbeats 1000000 in
theorem sameM_c (va vb : Value) (vs us : List Value) (M : List (List Int)) (w : World) (ha : RdM w va vs M) (hb : RdM w vb us M) : Calls Try.prog 74 #[va, vb] w fun e w' => e = .returned (.bool true) ∧ ∃ n, w' = w.drewN n := by
  have la := ha.ln
  have lb := hb.ln
  have ba := ha.le
  go_enter Try.func74, Try.ntmps74
  go_wp2_with fail
  go_loopw [5] (fun i wr => ∃ k n : Nat, k ≤ M.length ∧ i = .int .i64 k ∧ wr = w.drewN n) (fun i _ => M.length - (intOf i).toNat)
  case atStart => exact ⟨0, 0, Nat.zero_le _, rfl, rfl⟩
  case round =>
    obtain ⟨k, n, hk, rfl, hw⟩ := hrel
    have HW := hid hw
    have ha2 : RdM wr va vs M := by rw [hw]; exact ha.drew n
    have hb2 : RdM wr vb us M := by rw [hw]; exact hb.drew n
    clear hw
    by_cases hlt : k < M.length
    · have h1 := ha2.ix k hlt
      have h2 := ha2.cell k hlt
      have h3 := hb2.ix k hlt
      have h4 := hb2.cell k hlt
      have HA := hid (ha2.row k hlt)
      have HB := hid (hb2.row k hlt)
      clear ha2 hb2
      go_wp2_with fail
      go_quiet ((go_at_call 17; exact quiet_drew (same_c _ _ _ _ (HA.out.drew _) (HB.out.drew _))))
      go_wp2_with fail
      go_roundw
      case rel => exact ⟨k + 1, n + nq, by omega, by go_num, by rw [HW.out, World.drewN_drewN]⟩
      case measure => simp [intOf]; omega
    · go_wp2_with fail
      go_ret
      exact ⟨rfl, n, HW.out⟩

end Go.Proofs.Ytjaofbdfhcgmeaa
