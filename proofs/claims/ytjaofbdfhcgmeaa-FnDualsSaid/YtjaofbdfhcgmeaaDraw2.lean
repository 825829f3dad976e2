/-
  Drawn sets and drawn complexes of a given number of points.
-/
import Derived.Test.YtjaofbdfhcgmeaaDraw
namespace Go.Proofs.Ytjaofbdfhcgmeaa
open Go.RowKit

/-! ### What stands beside a cursor -/

theorem Cr.open {w0 w : World} {g : Nat} {vb : Value} {bs : List Int} {env : List Ent} (h : Cr w0 w g vb bs env) : ∃ c : Ent, St w0 w (c :: env) ∧ ∀ w' env', St w0 w' (c :: env') → Cr w0 w' g vb bs env' := by
  obtain ⟨hb, i, z, hi, hS⟩ := h
  exact ⟨_, hS, fun w' env' h' => ⟨hb, i, z, hi, h'⟩⟩
theorem Cr.newAt {w0 w : World} {g : Nat} {vb : Value} {bs : List Int} {env : List Ent} (h : Cr w0 w g vb bs env) (cs : Array Value) (e : TypeId) (hm : cs.size ≤ maxLen) {H : Nat} (hH : w.heap.size = H) :
    Cr w0 (w.alloc (.cells cs e)) g vb bs (⟨.slice (some ⟨H, 0, none⟩) cs.size cs.size, e, cs.toList⟩ :: env) := h.map fun _ hS => (hS.newAt cs e hm hH).swap
theorem Cr.boxAt {w0 w : World} {g : Nat} {vb : Value} {bs : List Int} {env : List Ent} (h : Cr w0 w g vb bs env) (n : Int) (v : Value) (e : TypeId) {H : Nat} (hH : w.heap.size = H) :
    Cr w0 (w.alloc (.cells #[.int .i64 n, v] e)) g vb bs (⟨bx H, e, [.int .i64 n, v]⟩ :: env) := h.map fun _ hS => (hS.boxAt n v e hH).swap
theorem Cr.call1 {w0 w w' : World} {g : Nat} {vb : Value} {bs : List Int} {env : List Ent} {x : Ent} (h : Cr w0 w g vb bs env) (h' : St w w' [x]) : Cr w0 w' g vb bs (x :: env) := h.map fun _ hS => (hS.call1 h').swap
theorem Cr.quiet {w0 w w' : World} {g : Nat} {vb : Value} {bs : List Int} {env : List Ent} (h : Cr w0 w g vb bs env) (h' : Below w.heap.size w w') : Cr w0 w' g vb bs env := h.map fun _ hS => hS.quiet h'
theorem Cr.drewN {w0 w : World} {g : Nat} {vb : Value} {bs : List Int} {env : List Ent} (h : Cr w0 w g vb bs env) (n : Nat) : Cr w0 (w.drewN n) g vb bs env := h.map fun _ hS => hS.drewN n
theorem Cr.sub {w0 w : World} {g : Nat} {vb : Value} {bs : List Int} {env env' : List Ent} (h : Cr w0 w g vb bs env) (hs : env'.Sublist env) : Cr w0 w g vb bs env' := h.map fun _ hS => hS.sub (.cons_cons _ hs)
theorem Cr.tail {w0 w : World} {g : Nat} {vb : Value} {bs : List Int} {x : Ent} {env : List Ent} (h : Cr w0 w g vb bs (x :: env)) : Cr w0 w g vb bs env := h.sub (List.sublist_cons_self _ _)
theorem Cr.hd {w0 w : World} {g : Nat} {vb : Value} {bs : List Int} {v : Value} {e : TypeId} {L : List Value} {env : List Ent} (h : Cr w0 w g vb bs (⟨v, e, L⟩ :: env)) : Rd w v L := h.rd (.head _)
theorem Cr.set {w0 w : World} {g : Nat} {vb : Value} {bs : List Int} {v : Value} {e : TypeId} {L : List Value} {env : List Ent} (h : Cr w0 w g vb bs (⟨v, e, L⟩ :: env)) (k : Nat) (hk : k < L.length) (u : Value) :
    Cr w0 (w.setCell (adr v k) u) g vb bs (⟨v, e, L.set k u⟩ :: env) := h.map fun _ hS => (hS.swap.set k hk u).swap
theorem Cr.swap {w0 w : World} {g : Nat} {vb : Value} {bs : List Int} {x y : Ent} {env : List Ent} (h : Cr w0 w g vb bs (x :: y :: env)) : Cr w0 w g vb bs (y :: x :: env) := h.map fun _ hS => hS.perm (List.Perm.cons _ (List.Perm.swap _ _ _))
theorem Cr.free {w0 w : World} {g : Nat} {vb : Value} {bs : List Int} {env : List Ent} (h : Cr w0 w g vb bs env) {v : Value} {e : TypeId} {L : List Value} (hx : ⟨v, e, L⟩ ∈ env) (k : Nat) (hk : k < L.length) : w.frozen? (adr v k) = false := by
  obtain ⟨c, hS, _⟩ := h.open
  exact hS.own.free (.tail _ hx) k hk
theorem Cr.st {w0 w : World} {g : Nat} {vb : Value} {bs : List Int} {env : List Ent} (h : Cr w0 w g vb bs env) : St w0 w env := by
  obtain ⟨c, hS, _⟩ := h.open
  exact hS.tail
theorem Cr.old {w0 w : World} {g : Nat} {vb : Value} {bs : List Int} {env : List Ent} (h : Cr w0 w g vb bs env) {v : Value} {L : List Value} (hr : Rd w0 v L) : Rd w v L := h.st.old hr

set_option maxHeartbeats 2000000 in
set_option maxRecDepth 100000 in
theorem l2Sets_c (g : Nat) (vb : Value) (bs : List Int) (w0 w : World) (env : List Ent) (hC : Cr w0 w g vb bs env) :
    Calls Try.prog 168 #[cp g] w fun e w' => ∃ v xs, e = .returned v ∧ (xs.length ≤ 6 ∧ ∀ x ∈ xs, -1 ≤ x ∧ x ≤ 64) ∧ Cr w0 w' g vb bs (⟨v, 3, ints xs⟩ :: env) := by
  have HC := hid (hC.newAt #[] 3 (by simp) rfl)
  clear hC
  have HK := hid (fun n w env h => l1Below_c n g vb bs w0 w env h)
  have HO := hid (fun n w env h => l1Once_c n g vb bs w0 w env h)
  have HP := hid (fun vl xs w env hv hx h => l1PickInt_c vl xs g vb bs w0 w env hv hx h)
  unfold cp at HK HO HP ⊢
  go_enter Try.func168, Try.ntmps168
  go_wp2_with fail
  refine (HK.out _ _ _ HC.out).mono ?_
  rintro e w1 ⟨n, rfl, hb, hC1⟩
  have HC1 := hid hC1
  obtain ⟨n0, n1⟩ := hb.rng (by omega)
  obtain ⟨N, rfl⟩ : ∃ N : Nat, n = N := ⟨n.toNat, by omega⟩
  clear hC1 hb
  go_wp2_with fail
  go_loopw [3, 5] (fun o c wr => ∃ (k : Nat) (v : Value) (xs : List Int), k ≤ N ∧ c = .int .i64 k ∧ o = v ∧ xs.length = k ∧ (∀ x ∈ xs, 0 ≤ x ∧ x < 64) ∧ Cr w0 wr g vb bs (⟨v, 3, ints xs⟩ :: env)) (fun _ c _ => N - (intOf c).toNat)
  case atStart => exact ⟨0, _, [], Nat.zero_le _, rfl, rfl, rfl, by simp, HC1.out⟩
  case round =>
    obtain ⟨k, v, xs, hk, rfl, rfl, hxl, hxs, hC2⟩ := hrel
    have HX := hid hxs
    have HC2 := hid hC2
    clear hxs hC2
    by_cases hlt : k < N
    · go_wp2_with fail
      refine (HK.out _ _ _ HC2.out).mono ?_
      rintro e w3 ⟨x, rfl, hb, hC3⟩
      have HB := hid (hb.rng (by omega))
      obtain ⟨c, hS, hback⟩ := hC3.open
      have HS := hid hS.swap
      have HBK := hid hback
      clear hb hS hback hC3
      go_wp2_with (at_builtin; refine wpList_push rfl _ _ rfl tI HS.out.own (.int .i64 x) rfl (by simp; omega) rfl rfl ?_)
      intro v4 w4 hO4 hb4
      rw [ints_snoc] at hO4
      have HC4 := hid (HBK.out _ _ (HS.out.mut hO4 hb4).swap)
      clear hO4 hb4
      go_wp2_with fail
      go_roundw
      case rel => exact ⟨k + 1, v4, xs ++ [x], by omega, by go_num, rfl, by simp; omega, (by intro y hy; rcases List.mem_append.1 hy with h | h; exact HX.out y h; rw [List.mem_singleton] at h; subst h; exact HB.out), HC4.out⟩
      case measure => simp [intOf]; omega
    · have HW : Hid (∀ x ∈ xs, -1 ≤ x ∧ x ≤ 64) := fun x hx => by have := HX.out x hx; omega
      by_cases h0 : 0 < N
      · go_wp2_with fail
        refine (HO.out _ _ _ HC2.out).mono ?_
        rintro e w3 ⟨b, rfl, hC3⟩
        have HC3 := hid hC3
        clear hC3
        cases b with
        | false =>
          go_wp2_with fail
          go_ret
          exact ⟨_, xs, rfl, ⟨by omega, HW.out⟩, HC3.out⟩
        | true =>
          go_wp2_with fail
          have HC4 := hid (HC3.out.newAt #[.int .i64 (-1), .int .i64 64, .int .i64 63] 3 (by simp [maxLen]) rfl)
          refine (HP.out _ [-1, 64, 63] _ _ (.head _) (by simp) HC4.out).mono ?_
          rintro e w5 ⟨x, rfl, hx, hC5⟩
          have HXX : Hid (-1 ≤ x ∧ x ≤ 64) := by simp at hx; show _ ∧ _; omega
          have hC6 := hC5.tail
          have f1 : ∀ w' : World, (Instr.indexAt 26 _ (.int .i64 0)).run Try.prog w' = .ok (.pointer (some (adr _ 0))) w' := hC6.hd.iix tI 0 (by omega)
          have f2 := hC6.hd.intCell 0 (by omega)
          have f3 := hC6.free (.head _) 0 (by simp; omega)
          have HC6 := hid hC6
          clear hC5 hC6 hx
          go_wp2_with fail
          go_ret
          have hC7 := HC6.out.set 0 (by simp; omega) (.int .i64 x)
          rw [ints_set] at hC7
          refine ⟨_, _, rfl, ⟨by simp; omega, fun y hy => ?_⟩, hC7⟩
          rcases List.mem_or_eq_of_mem_set hy with h | h
          · exact HW.out y h
          · subst h; exact HXX.out
      · have e : N = 0 := by omega
        subst e
        go_wp2_with fail
        go_ret
        exact ⟨_, xs, rfl, ⟨by omega, HW.out⟩, HC2.out⟩

end Go.Proofs.Ytjaofbdfhcgmeaa
