/-
  The laws' own helpers over complexes: copies, comparisons, marks.
-/
import Derived.Test.YtkfkmncecihflaaCx
import Derived.Test.YtkfkmncecihflaaLaws
import Derived.Deep.DeepCutAuto
namespace Go.Proofs.Ytkfkmncecihflaa
open Go.RowKit

theorem szIntS_big (va : Value) (xs : List Int) (l : Int) (w : World) (ha : Rd w va (ints xs)) (h0 : 0 ≤ l) (h : l < xs.length) : Calls Try.prog 50 #[va, .int .i64 l] w fun e w' => e = .returned (.int .i64 (-1)) ∧ w = w' := by
  have la := ha.iln tI
  have ll := ha.ile
  go_enter Try.func50, Try.ntmps50
  go_wp2_with fail
  go_ret
  exact ⟨rfl, rfl⟩
theorem szIntS_ok (va : Value) (xs : List Int) (l : Int) (w : World) (ha : Rd w va (ints xs)) (h0 : l ≤ 1048576) (h : xs.length ≤ l) : Calls Try.prog 50 #[va, .int .i64 l] w fun e w' => e = .returned (.int .i64 (l - xs.length)) ∧ w = w' := by
  have la := ha.iln tI
  have ll := ha.ile
  go_enter Try.func50, Try.ntmps50
  go_wp2_with fail
  go_ret
  exact ⟨rfl, rfl⟩
set_option maxHeartbeats 1000000 in
theorem szComplex_big (n : Int) (va : Value) (xs : List Int) (l : Int) (w : World) (ha : Rd w va (ints xs)) (h0 : 0 ≤ l) (h : l < xs.length) : Calls Try.prog 28 #[cx n va, .int .i64 l] w fun e w' => e = .returned (.int .i64 (-1)) ∧ Below w.heap.size w w' := by
  have hS := (St.start w).box n va 36
  have c0 := hS.hd.c0
  have c1 := hS.hd.c1
  have ha' := hS.old ha
  have HB := hid hS.bel
  clear hS
  unfold cx
  go_enter Try.func28, Try.ntmps28
  go_wp2_with (go_at_call 50; refine (szIntS_big _ xs l _ ha' h0 h).mono ?_; rintro e w' ⟨rfl, rfl⟩)
  go_ret
  exact ⟨rfl, HB.out⟩
set_option maxHeartbeats 1000000 in
theorem szComplex_ok (n : Int) (va : Value) (xs : List Int) (l : Int) (w : World) (ha : Rd w va (ints xs)) (h0 : l ≤ 1048576) (h : xs.length ≤ l) : Calls Try.prog 28 #[cx n va, .int .i64 l] w fun e w' => e = .returned (.int .i64 (l - xs.length)) ∧ Below w.heap.size w w' := by
  have hS := (St.start w).box n va 36
  have c0 := hS.hd.c0
  have c1 := hS.hd.c1
  have ha' := hS.old ha
  have HB := hid hS.bel
  clear hS
  unfold cx
  go_enter Try.func28, Try.ntmps28
  go_wp2_with (go_at_call 50; refine (szIntS_ok _ xs l _ ha' h0 h).mono ?_; rintro e w' ⟨rfl, rfl⟩)
  go_ret
  exact ⟨rfl, HB.out⟩
set_option maxHeartbeats 1000000 in
theorem toComplex_c (n : Int) (va : Value) (xs : List Int) (w : World) (ha : Rd w va (ints xs)) (hlen : xs.length ≤ 1099511627776) : Calls Try.prog 30 #[cx n va] w fun e w' => ∃ v, e = .returned (cx n v) ∧ St w w' [⟨v, 3, ints xs⟩] := by
  obtain ⟨pa, la, ca, rfl⟩ := ha.form
  have hS := (((St.start w).box n (.slice pa la ca) 36).boxAt 0 (.slice none 0 0) 38 (H := w.heap.size + 1) (by simp)).boxAt n (.slice none 0 0) 38 (H := w.heap.size + 1 + 1) (by simp)
  have ha' := hS.old ha
  have HS := hid hS
  clear hS
  unfold cx
  go_enter Try.func30, Try.ntmps30
  go_wp2_with fail
  refine (toIntS_c _ xs _ ha' hlen).mono ?_
  rintro e w1 ⟨v, rfl, hS1⟩
  have hS := HS.out.call1 hS1
  obtain ⟨p, l, c, rfl⟩ := hS.hd.form
  have c0 := hS.hd2.c0
  have c1 := hS.hd2.c1
  have r0 : w1.frozen? ⟨w.heap.size + 1 + 1, 0, none⟩ = false := hS.own.free (v := bx (w.heap.size + 1 + 1)) (.tail _ (.head _)) 0 (by simp)
  have r1 : w1.frozen? ⟨w.heap.size + 1 + 1, 1, none⟩ = false := hS.own.free (v := bx (w.heap.size + 1 + 1)) (.tail _ (.head _)) 1 (by simp)
  have d0 := hS.hd3.c0
  have d1 := hS.hd3.c1
  have s0 : w1.frozen? ⟨w.heap.size + 1, 0, none⟩ = false := hS.own.free (v := bx (w.heap.size + 1)) (.tail _ (.tail _ (.head _))) 0 (by simp)
  have s1 : w1.frozen? ⟨w.heap.size + 1, 1, none⟩ = false := hS.own.free (v := bx (w.heap.size + 1)) (.tail _ (.tail _ (.head _))) 1 (by simp)
  have HS2 := hid hS
  clear hS hS1
  go_wp2_with fail
  have hS3 := (HS2.out.swap.set 1 (by simp) (.slice p l c)).bring (l1 := [_, _])
  have hS4 := (hS3.set 0 (by simp) (.int .i64 n)).set 1 (by simp) (.slice p l c)
  exact bodyPost_ret (ret_cx rfl rfl hS4.hd) rfl ⟨_, rfl, hS4.sub (.cons _ (.cons _ (.cons_cons _ (.cons _ .slnil))))⟩
set_option maxHeartbeats 1000000 in
theorem eqComplex_c (n : Int) (va vb : Value) (xs : List Int) (w : World) (ha : Rd w va (ints xs)) (hb : Rd w vb (ints xs)) : Calls Try.prog 33 #[cx n va, cx n vb] w fun e w' => e = .returned (.bool true) ∧ Below w.heap.size w w' := by
  have hS := ((St.start w).box n va 38).boxAt n vb 38 (H := w.heap.size + 1) (by simp)
  have ha' := hS.old ha
  have hb' := hS.old hb
  have HB := hid hS.bel
  clear hS
  have hn : (n != n) = false := by simp
  unfold cx
  go_enter Try.func33, Try.ntmps33
  go_wp2_with fail
  refine (eqIntS_c _ _ xs xs _ ha' hb').mono ?_
  rintro e w1 ⟨rfl, m, rfl⟩
  go_wp2_with fail
  go_ret
  exact ⟨rfl, below_drewN HB.out m⟩
set_option maxHeartbeats 1000000 in
theorem markComplex_c (n : Int) (va : Value) (L : List Value) (k : Int) (B : Nat) (env : List Ent) (w : World) (hO : Owns B w (⟨va, 3, L⟩ :: env)) (hL : ∀ j, j < L.length → ∃ n, L[j]? = some (.int .i64 n)) (h0 : 0 ≤ k) (hk : k + L.length ≤ 1099511627776) :
    Calls Try.prog 35 #[cx n va, .int .i64 k] w fun e w' => e = .returned (.int .i64 (k + L.length)) ∧ Owns B w' (⟨va, 3, ints (marks k L.length)⟩ :: env) ∧ Below B w w' := by
  have hO1 := hO.alloc (.cells #[.int .i64 n, va] 38)
  have hB := (Below.refl B w).alloc hO.base (.cells #[.int .i64 n, va] 38)
  have HB := hid hB
  have hS := (St.start w).box n va 38
  have c0 := hS.hd.c0
  have c1 := hS.hd.c1
  clear hS hB
  unfold cx
  go_enter Try.func35, Try.ntmps35
  go_wp2_with fail
  refine (markIntS_c _ L k B env _ hO1 hL h0 hk).mono ?_
  rintro e w1 ⟨rfl, hO2, hB2⟩
  go_wp2_with fail
  go_ret
  exact ⟨rfl, hO2, HB.out.trans hB2⟩
set_option maxHeartbeats 1000000 in
theorem heldComplex_c (n : Int) (va : Value) (k : Int) (m : Nat) (w : World) (ha : Rd w va (ints (marks k m))) (h0 : 0 ≤ k) (hk : k + m ≤ 1099511627776) :
    Calls Try.prog 37 #[cx n va, .int .i64 k] w fun e w' => e = .returned (.int .i64 (k + m)) ∧ Below w.heap.size w w' := by
  have hS := (St.start w).box n va 38
  have c0 := hS.hd.c0
  have c1 := hS.hd.c1
  have ha' := hS.old ha
  have HB := hid hS.bel
  clear hS
  unfold cx
  go_enter Try.func37, Try.ntmps37
  go_wp2_with fail
  refine (heldIntS_c _ k m _ ha' h0 hk).mono ?_
  rintro e w1 ⟨rfl, q, rfl⟩
  go_wp2_with fail
  go_ret
  exact ⟨rfl, below_drewN HB.out q⟩

end Go.Proofs.Ytkfkmncecihflaa
