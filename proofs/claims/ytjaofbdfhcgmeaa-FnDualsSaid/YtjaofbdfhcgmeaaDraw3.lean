/-
  Drawn complexes of a given number of points.
-/
import Derived.Test.YtjaofbdfhcgmeaaDraw2
namespace Go.Proofs.Ytjaofbdfhcgmeaa
open Go.RowKit

theorem and64_fin : ∀ a b : Fin 64, 0 ≤ bits .and .i64 (a.val : Int) (b.val : Int) ∧ bits .and .i64 (a.val : Int) (b.val : Int) < 64 := by decide +kernel
theorem and64 {a b : Int} (a0 : 0 ≤ a) (a1 : a < 64) (b0 : 0 ≤ b) (b1 : b < 64) : 0 ≤ bits .and .i64 a b ∧ bits .and .i64 a b < 64 := by
  obtain ⟨x, rfl⟩ := fin64 a0 a1
  obtain ⟨y, rfl⟩ := fin64 b0 b1
  exact and64_fin x y
theorem mem_snoc_rng {xs : List Int} {x lo hi : Int} (h : ∀ y ∈ xs, lo ≤ y ∧ y < hi) (hx : lo ≤ x ∧ x < hi) : ∀ y ∈ xs ++ [x], lo ≤ y ∧ y < hi := by
  intro y hy
  rcases List.mem_append.1 hy with h' | h'
  · exact h y h'
  · rw [List.mem_singleton] at h'; subst h'; exact hx

set_option maxHeartbeats 2000000 in
set_option maxRecDepth 100000 in
theorem l3Size_c (n : Int) (h0 : 1 ≤ n) (h6 : n ≤ 6) (g : Nat) (vb : Value) (bs : List Int) (w0 w : World) (env : List Ent) (hC : Cr w0 w g vb bs env) :
    Calls Try.prog 174 #[cp g, .int .i64 n] w fun e w' => ∃ v fs, e = .returned (cx n v) ∧ fs.length ≤ 448 ∧ Cr w0 w' g vb bs (⟨v, 3, ints fs⟩ :: env) := by
  have HC := hid (((hC.boxAt 0 (.slice none 0 0) 30 (H := w.heap.size) rfl).newAt #[] 3 (by simp) (H := w.heap.size + 1) (by simp)).newAt #[.int .i64 0, .int .i64 1, .int .i64 2, .int .i64 3, .int .i64 4, .int .i64 4, .int .i64 5, .int .i64 6] 3 (by simp [maxLen]) (H := w.heap.size + 1 + 1) (by simp))
  clear hC
  have HK := hid (fun n w env h => l1Below_c n g vb bs w0 w env h)
  have HO := hid (fun n w env h => l1Once_c n g vb bs w0 w env h)
  have HP := hid (fun vl xs w env hv hx h => l1PickInt_c vl xs g vb bs w0 w env hv hx h)
  have EP : Hid (wrap64 (2 ^ n.toNat) = pw n) := pw_wrap (by omega) h6
  have HR := hid (pw_rng (show 0 ≤ n by omega) h6)
  unfold cp at HK HO HP ⊢
  go_enter Try.func174, Try.ntmps174
  go_wp2_with fail
  refine (HP.out _ [0, 1, 2, 3, 4, 4, 5, 6] _ _ (.head _) (by simp) HC.out).mono ?_
  rintro e w1 ⟨m, rfl, hm, hC1⟩
  have hmr : 0 ≤ m ∧ m ≤ 6 := by simp at hm; omega
  obtain ⟨m0, m1⟩ := hmr
  obtain ⟨M, rfl⟩ : ∃ M : Nat, m = M := ⟨m.toNat, by omega⟩
  have HC1 := hid hC1.tail
  clear hC1 hm
  go_wp2_with fail
  go_loopw [5, 7] (fun o c wr => ∃ (k : Nat) (v : Value) (xs : List Int), k ≤ M ∧ c = .int .i64 k ∧ o = v ∧ xs.length = k ∧ (∀ x ∈ xs, 0 ≤ x ∧ x < 64) ∧ Cr w0 wr g vb bs (⟨v, 3, ints xs⟩ :: ⟨bx w.heap.size, 30, [.int .i64 0, .slice none 0 0]⟩ :: env)) (fun _ c _ => M - (intOf c).toNat)
  case atStart => exact ⟨0, _, [], Nat.zero_le _, rfl, rfl, rfl, by simp, HC1.out⟩
  case round =>
    obtain ⟨k, v, xs, hk, rfl, rfl, hxl, hxs, hC2⟩ := hrel
    have HX := hid hxs
    have HC2 := hid hC2
    clear hxs
    by_cases hlt : k < M
    · clear hC2
      go_wp2_with fail
      refine (HK.out _ _ _ HC2.out).mono ?_
      rintro e w3 ⟨x, rfl, hb, hC3⟩
      have HB := hid (hb.rng (by rw [EP.out]; have := HR.out.1; omega))
      have HC3 := hid hC3
      clear hb hC3
      go_wp2_with fail
      refine (HO.out _ _ _ HC3.out).mono ?_
      rintro e w4 ⟨b, rfl, hC4⟩
      have hX : 0 ≤ x ∧ x < 64 := by have h1 := HB.out; have h2 := HR.out; rw [EP.out] at h1; omega
      have HXX := hid hX
      clear hX
      cases b with
      | false =>
        obtain ⟨c, hS, hback⟩ := hC4.open
        have HS := hid hS.swap
        have HBK := hid hback
        clear hS hback hC4
        go_wp2_with (at_builtin; refine wpList_push rfl _ _ rfl tI HS.out.own (.int .i64 x) rfl (by simp; omega) rfl rfl ?_)
        intro v4 w5 hO4 hb4
        rw [ints_snoc] at hO4
        have HC4 := hid (HBK.out _ _ (HS.out.mut hO4 hb4).swap)
        clear hO4 hb4
        go_wp2_with fail
        go_roundw
        case rel => exact ⟨k + 1, v4, xs ++ [x], by omega, by go_num, rfl, by simp; omega, mem_snoc_rng HX.out HXX.out, HC4.out⟩
        case measure => simp [intOf]; omega
      | true =>
        have HC4 := hid hC4
        clear hC4
        go_wp2_with fail
        refine (HK.out _ _ _ HC4.out).mono ?_
        rintro e w5 ⟨y, rfl, hb, hC5⟩
        have hY : 0 ≤ y ∧ y < 64 := by have h1 := hb.rng (by rw [EP.out]; have := HR.out.1; omega); have h2 := HR.out; rw [EP.out] at h1; omega
        have HXY := hid (and64 HXX.out.1 HXX.out.2 hY.1 hY.2)
        obtain ⟨c, hS, hback⟩ := hC5.open
        have HS := hid hS.swap
        have HBK := hid hback
        clear hS hback hC5 hb hY
        go_wp2_with (at_builtin; refine wpList_push rfl _ _ rfl tI HS.out.own (.int .i64 (bits .and .i64 x y)) rfl (by simp; omega) rfl rfl ?_)
        intro v4 w6 hO4 hb4
        rw [ints_snoc] at hO4
        have HC6 := hid (HBK.out _ _ (HS.out.mut hO4 hb4).swap)
        clear hO4 hb4
        go_wp2_with fail
        go_roundw
        case rel => exact ⟨k + 1, v4, xs ++ [_], by omega, by go_num, rfl, by simp; omega, mem_snoc_rng HX.out HXY.out, HC6.out⟩
        case measure => simp [intOf]; omega
    · have hrd := hC2.hd
      clear hC2
      go_wp2_with fail
      refine (l3Make_c n _ xs _ hrd HX.out).mono ?_
      rintro e w3 ⟨v2, rfl, hS3⟩
      have hC3 := (HC2.out.call1 hS3).sub (.cons_cons _ (.cons _ (List.Sublist.refl _)))
      obtain ⟨p, l, c, rfl⟩ := hS3.hd.form
      have hC4 := hC3.swap
      have k0 := hC4.hd.c0
      have k1 := hC4.hd.c1
      have s0 : w3.frozen? ⟨w.heap.size, 0, none⟩ = false := hC4.free (v := bx w.heap.size) (.head _) 0 (by simp)
      have s1 : w3.frozen? ⟨w.heap.size, 1, none⟩ = false := hC4.free (v := bx w.heap.size) (.head _) 1 (by simp)
      have HC4 := hid hC4
      clear hC3 hC4 hS3
      unfold cx
      go_wp2_with fail
      have hC6 := (HC4.out.set 0 (by simp) (.int .i64 n)).set 1 (by simp) (.slice p l c)
      exact bodyPost_ret (ret_cx rfl rfl hC6.hd) rfl ⟨_, _, rfl, maxL_len _, hC6.tail⟩

set_option maxHeartbeats 2000000 in
set_option maxRecDepth 100000 in
theorem BorderComplex_c (n : Int) (h0 : 1 ≤ n) (h6 : n ≤ 6) (w : World) :
    Calls Try.prog 179 #[.int .i64 n] w fun e w' => ∃ v fs, e = .returned (.tuple #[cx n v, .bool true]) ∧ fs.length ≤ 448 ∧ St w w' [⟨v, 3, ints fs⟩] := by
  have HS := hid (((St.start w).box 0 (.slice none 0 0) 30).newAt #[] 3 (by simp) (H := w.heap.size + 1) (by simp))
  obtain ⟨N, hN⟩ : ∃ N : Nat, (N : Int) = pw n - 1 := ⟨(pw n - 1).toNat, by have := pw_rng (show 0 ≤ n by omega) h6; omega⟩
  have hN64 : N < 64 := by have := pw_rng (show 0 ≤ n by omega) h6; omega
  have q1 : inB n 1 6 = true := by simp [inB]; omega
  have Q1 := hid q1
  have e1 : wrap64 (wrap64 (2 ^ n.toNat) - 1) = (N : Int) := by rw [pw_wrap (by omega) h6, hN]; have := pw_rng (show 0 ≤ n by omega) h6; exact IntWalk.wrap64_in _ (by omega)
  clear q1 hN
  go_enter Try.func179, Try.ntmps179
  go_wp2_with (go_at_call 112; refine (l1In_c _ _ _ _).mono ?_; rw [Q1.out]; rintro e w' ⟨rfl, rfl⟩)
  go_loopw [4, 5] (fun o c wr => ∃ (k : Nat) (v : Value) (xs : List Int), k ≤ N ∧ c = .int .i64 k ∧ o = v ∧ xs.length = k ∧ (∀ x ∈ xs, 0 ≤ x ∧ x < 64) ∧ St w wr [⟨v, 3, ints xs⟩, ⟨bx w.heap.size, 30, [.int .i64 0, .slice none 0 0]⟩]) (fun _ c _ => N - (intOf c).toNat)
  case atStart => exact ⟨0, _, [], Nat.zero_le _, rfl, rfl, rfl, by simp, HS.out⟩
  case round =>
    obtain ⟨k, v, xs, hk, rfl, rfl, hxl, hxs, hS2⟩ := hrel
    have HX := hid hxs
    have HS2 := hid hS2
    clear hxs
    by_cases hlt : k < N
    · have q2 : decide ((k : Int) < wrap64 (wrap64 (2 ^ n.toNat) - 1)) = true := by rw [e1]; exact decide_eq_true (by omega)
      clear hS2 e1
      go_wp2_with (at_builtin; refine wpList_push rfl _ _ rfl tI HS2.out.own (.int .i64 (k : Int)) rfl (by simp; omega) rfl rfl ?_)
      intro v4 w5 hO4 hb4
      rw [ints_snoc] at hO4
      have HS4 := hid (HS2.out.mut hO4 hb4)
      clear hO4 hb4
      go_wp2_with fail
      go_roundw
      case rel => exact ⟨k + 1, v4, xs ++ [(k : Int)], by omega, by go_num, rfl, by simp; omega, mem_snoc_rng HX.out (by omega), HS4.out⟩
      case measure => simp [intOf]; omega
    · have q2 : decide ((k : Int) < wrap64 (wrap64 (2 ^ n.toNat) - 1)) = false := by rw [e1]; exact decide_eq_false (by omega)
      have hrd := hS2.hd
      clear hS2 e1
      go_wp2_with fail
      refine (l3Make_c n _ xs _ hrd HX.out).mono ?_
      rintro e w3 ⟨v2, rfl, hS3⟩
      have hS4 := (HS2.out.call1 hS3).sub (.cons_cons _ (.cons _ (List.Sublist.refl _)))
      obtain ⟨p, l, c, rfl⟩ := hS3.hd.form
      have hS5 := hS4.swap
      have k0 := hS5.hd.c0
      have k1 := hS5.hd.c1
      have s0 : w3.frozen? ⟨w.heap.size, 0, none⟩ = false := hS5.own.free (v := bx w.heap.size) (.head _) 0 (by simp)
      have s1 : w3.frozen? ⟨w.heap.size, 1, none⟩ = false := hS5.own.free (v := bx w.heap.size) (.head _) 1 (by simp)
      have HS5 := hid hS5
      clear hS5 hS4 hS3
      unfold cx
      go_wp2_with fail
      have hS6 := (HS5.out.set 0 (by simp) (.int .i64 n)).set 1 (by simp) (.slice p l c)
      exact bodyPost_ret (ret_cx2 rfl rfl rfl hS6.hd) rfl ⟨_, _, rfl, maxL_len _, hS6.tail⟩

end Go.Proofs.Ytjaofbdfhcgmeaa
