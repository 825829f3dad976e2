/-
  Drawn complexes whose facets have one size.
-/
import Derived.Test.YtjaofbdfhcgmeaaDraw3
namespace Go.Proofs.Ytjaofbdfhcgmeaa
open Go.RowKit

def ofSz (z : Int) (k : Nat) : List Int := rowTo (fun _ => true) z k
theorem ofSz_pos_fin : ∀ n z : Fin 7, 1 ≤ z.val → z.val ≤ n.val → 0 < (ofSz (z.val : Int) (2 ^ n.val)).length := by decide +kernel
theorem ofSz_pos {n z : Int} (h1 : 1 ≤ z) (h2 : z ≤ n) (h6 : n ≤ 6) : 0 < (ofSz z (pw n).toNat).length := by
  have := ofSz_pos_fin ⟨n.toNat, by omega⟩ ⟨z.toNat, by omega⟩ (by simp; omega) (by simp; omega)
  have e : (pw n).toNat = 2 ^ n.toNat := by
    have : pw n = ((2 ^ n.toNat : Nat) : Int) := by simp [pw]
    rw [this, Int.toNat_natCast]
  rw [e]
  simpa [Int.toNat_of_nonneg (show 0 ≤ z by omega)] using this
theorem ofSz_rng {z : Int} {k : Nat} (hk : k ≤ 64) : ∀ x ∈ ofSz z k, 0 ≤ x ∧ x < 64 := fun x hx => by
  have := mem_rowTo.1 hx
  omega
theorem ofSz_len (z : Int) (k : Nat) : (ofSz z k).length ≤ k := rowTo_len _ z k

set_option maxHeartbeats 4000000 in
set_option maxRecDepth 100000 in
theorem l3Pure_c (n : Int) (h0 : 1 ≤ n) (h6 : n ≤ 6) (g : Nat) (vb : Value) (bs : List Int) (w0 w : World) (env : List Ent) (hC : Cr w0 w g vb bs env) :
    Calls Try.prog 181 #[cp g, .int .i64 n] w fun e w' => ∃ v fs, e = .returned (cx n v) ∧ fs.length ≤ 448 ∧ Cr w0 w' g vb bs (⟨v, 3, ints fs⟩ :: env) := by
  have HC := hid (hC.boxAt 0 (.slice none 0 0) 30 (H := w.heap.size) rfl)
  clear hC
  have HK := hid (fun n w env h => l1Below_c n g vb bs w0 w env h)
  obtain ⟨N, hN⟩ : ∃ N : Nat, (N : Int) = pw n := ⟨(pw n).toNat, by have := pw_rng (show 0 ≤ n by omega) h6; omega⟩
  have hN64 : N ≤ 64 := by have := pw_rng (show 0 ≤ n by omega) h6; omega
  have e1 : wrap64 (2 ^ n.toNat) = (N : Int) := by rw [pw_wrap (by omega) h6, hN]
  have E1 := hid e1
  have EN := hid hN
  clear e1 hN
  unfold cp at HK ⊢
  go_enter Try.func181, Try.ntmps181
  go_wp2_with fail
  refine (HK.out _ _ _ HC.out).mono ?_
  rintro e w1 ⟨m, rfl, hm, hC1⟩
  obtain ⟨m0, m1⟩ := hm.rng (by omega)
  have HC1 := hid (hC1.newAt #[] 3 (by simp) (H := w1.heap.size) rfl)
  clear hC1 hm
  have g1 : IntKind.i64.wrap (1 + m) = 1 + m := IntWalk.i64_in _ (by omega)
  obtain ⟨Z, hZ⟩ : ∃ Z, Z = 1 + m := ⟨_, rfl⟩
  have HZ := hid hZ
  have hp0 : 0 < (ofSz Z N).length := by have := ofSz_pos (n := n) (z := Z) (by omega) (by omega) h6; rwa [← EN.out, Int.toNat_natCast] at this
  clear hZ
  go_wp2_with fail
  rw [← HZ.out]
  clear g1
  go_loopw [6, 7] (fun o c wr => ∃ (k : Nat) (v : Value), k ≤ N ∧ c = .int .i64 k ∧ o = v ∧ Cr w0 wr g vb bs (⟨v, 3, ints (ofSz Z k)⟩ :: ⟨bx w.heap.size, 30, [.int .i64 0, .slice none 0 0]⟩ :: env)) (fun _ c _ => N - (intOf c).toNat)
  case atStart => exact ⟨0, _, Nat.zero_le _, rfl, rfl, HC1.out⟩
  case round =>
    obtain ⟨k, v, hk, rfl, rfl, hC2⟩ := hrel
    by_cases hlt : k < N
    · have q2 : decide ((k : Int) < wrap64 (2 ^ n.toNat)) = true := by rw [E1.out]; exact decide_eq_true (by omega)
      have hfl := ofSz_len Z k
      by_cases hz : pc k = Z
      · have EK : Hid (ofSz Z (k + 1) = ofSz Z k ++ [(k : Int)]) := by show _ = _; rw [ofSz, rowTo, if_pos ⟨rfl, hz⟩]; rfl
        have hz' : (pc k == Z) = true := by simp [hz]
        obtain ⟨c, hS, hback⟩ := hC2.open
        have HS := hid hS.swap
        have HBK := hid hback
        clear hS hback hC2 hz
        go_wp2_with (first | (go_at_call 106; refine (l2Size_c _ _ (by omega) (by omega)).mono ?_; rintro e w' ⟨rfl, rfl⟩) | (at_builtin; refine wpList_push rfl _ _ rfl tI HS.out.own (.int .i64 (k : Int)) rfl (by simp; omega) rfl rfl ?_))
        intro v4 w5 hO4 hb4
        rw [ints_snoc, ← EK.out] at hO4
        have HC4 := hid (HBK.out _ _ (HS.out.mut hO4 hb4).swap)
        clear hO4 hb4
        go_wp2_with fail
        go_roundw
        case rel => exact ⟨k + 1, v4, by omega, by go_num, rfl, HC4.out⟩
        case measure => simp [intOf]; omega
      · have EK : Hid (ofSz Z (k + 1) = ofSz Z k) := by show _ = _; rw [ofSz, rowTo, if_neg (fun h => hz h.2)]; rfl
        have hz' : (pc k == Z) = false := by simp [hz]
        have HC2 := hid hC2
        clear hz hC2
        go_wp2_with (go_at_call 106; refine (l2Size_c _ _ (by omega) (by omega)).mono ?_; rintro e w' ⟨rfl, rfl⟩)
        go_roundw
        case rel => exact ⟨k + 1, _, by omega, by go_num, rfl, by rw [EK.out]; exact HC2.out⟩
        case measure => simp [intOf]; omega
    · have q2 : decide ((k : Int) < wrap64 (2 ^ n.toNat)) = false := by rw [E1.out]; exact decide_eq_false (by omega)
      have ek : k = N := by omega
      subst ek
      have HR := hid (ofSz_rng (z := Z) hN64)
      have hpl := ofSz_len Z k
      obtain ⟨A, hA⟩ : ∃ A, A = ofSz Z k := ⟨_, rfl⟩
      rw [← hA] at hC2 HR hp0 hpl
      clear hA
      have HC2 := hid (hC2.newAt #[] 3 (by simp) (H := wr.heap.size) rfl)
      clear hC2
      go_wp2_with fail
      refine (HK.out _ _ _ HC2.out).mono ?_
      rintro e w3 ⟨x, rfl, hb, hC3⟩
      obtain ⟨x0, x1⟩ := hb.rng (by omega)
      obtain ⟨X, rfl⟩ : ∃ X : Nat, x = X := ⟨x.toNat, by omega⟩
      have HC3 := hid hC3
      have g1 : IntKind.i64.wrap (1 + (X : Int)) = ((X + 1 : Nat) : Int) := by rw [show (((X + 1 : Nat)) : Int) = 1 + (X : Int) by omega]; exact IntWalk.i64_in _ (by omega)
      clear hC3 hb
      go_wp2_with fail
      clear g1
      go_loopw [8, 10] (fun o c wi => ∃ (t : Nat) (v : Value) (xs : List Int), t ≤ X + 1 ∧ c = .int .i64 t ∧ o = v ∧ xs.length = t ∧ (∀ x ∈ xs, 0 ≤ x ∧ x < 64) ∧ Cr w0 wi g vb bs (⟨v, 3, ints xs⟩ :: ⟨u6, 3, ints A⟩ :: ⟨bx w.heap.size, 30, [.int .i64 0, .slice none 0 0]⟩ :: env)) (fun _ c _ => X + 1 - (intOf c).toNat)
      case atStart => exact ⟨0, _, [], Nat.zero_le _, rfl, rfl, rfl, by simp, HC3.out⟩
      case round =>
        obtain ⟨t, v, xs, ht, rfl, rfl, hxl, hxs, hC2⟩ := hrel
        have HX := hid hxs
        have HC2 := hid hC2
        clear hxs
        by_cases hlt2 : t < X + 1
        · have la := (hC2.rd (.tail _ (.head _))).iln tI
          clear hC2
          go_wp2_with fail
          refine (HK.out _ _ _ HC2.out).mono ?_
          rintro e w4 ⟨y, rfl, hb, hC4⟩
          obtain ⟨y0, y1⟩ := hb.rng (by omega)
          obtain ⟨Y, rfl⟩ : ∃ Y : Nat, y = Y := ⟨y.toNat, by omega⟩
          have hY : Y < A.length := by omega
          have f1 := (hC4.rd (.tail _ (.head _))).iix tI Y hY
          have f2 := (hC4.rd (.tail _ (.head _))).intCell Y hY
          have HG := hid (HR.out (gi A Y) (by rw [gi_eq A Y hY]; exact List.getElem_mem _))
          obtain ⟨c, hS, hback⟩ := hC4.open
          have HS := hid hS.swap
          have HBK := hid hback
          clear hS hback hC4 hb
          go_wp2_with (at_builtin; refine wpList_push rfl _ _ rfl tI HS.out.own (.int .i64 (gi A Y)) rfl (by simp; omega) rfl rfl ?_)
          intro v4 w5 hO4 hb4
          rw [ints_snoc] at hO4
          have HC5 := hid (HBK.out _ _ (HS.out.mut hO4 hb4).swap)
          clear hO4 hb4
          go_wp2_with fail
          go_roundw
          case rel => exact ⟨t + 1, v4, xs ++ [_], by omega, by go_num, rfl, by simp; omega, mem_snoc_rng HX.out HG.out, HC5.out⟩
          case measure => simp [intOf]; omega
        · have hrd := hC2.hd
          clear hC2
          go_wp2_with fail
          refine (l3Make_c n _ xs _ hrd HX.out).mono ?_
          rintro e w4 ⟨v2, rfl, hS3⟩
          have hC3 := (HC2.out.call1 hS3).sub (.cons_cons _ (.cons _ (.cons _ (List.Sublist.refl _))))
          obtain ⟨p, l, c, rfl⟩ := hS3.hd.form
          have hC4 := hC3.swap
          have k0 := hC4.hd.c0
          have k1 := hC4.hd.c1
          have s0 : w4.frozen? ⟨w.heap.size, 0, none⟩ = false := hC4.free (v := bx w.heap.size) (.head _) 0 (by simp)
          have s1 : w4.frozen? ⟨w.heap.size, 1, none⟩ = false := hC4.free (v := bx w.heap.size) (.head _) 1 (by simp)
          have HC4 := hid hC4
          clear hC3 hC4 hS3
          unfold cx
          go_wp2_with fail
          have hC6 := (HC4.out.set 0 (by simp) (.int .i64 n)).set 1 (by simp) (.slice p l c)
          exact bodyPost_ret (ret_cx rfl rfl hC6.hd) rfl ⟨_, _, rfl, maxL_len _, hC6.tail⟩

end Go.Proofs.Ytjaofbdfhcgmeaa
