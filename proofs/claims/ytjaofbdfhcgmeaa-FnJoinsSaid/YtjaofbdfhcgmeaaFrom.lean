/-
  The complex of the sets that avoid others.
-/
import Derived.Test.YtjaofbdfhcgmeaaOf
namespace Go.Proofs.Ytjaofbdfhcgmeaa
open Go.RowKit

def avoidP (xs : List Int) (s : Int) : Bool := !(xs.any fun t => sub t s)
def fromL (n : Int) (xs : List Int) : List Int := maxL (upToP (pw n) (avoidP xs))
theorem fromL_len (n : Int) (xs : List Int) : (fromL n xs).length ≤ 448 := maxL_len _


set_option maxHeartbeats 2000000 in
theorem l7From_c (n : Int) (va : Value) (xs : List Int) (w : World) (ha : Rd w va (ints xs)) (hx : ∀ x ∈ xs, 0 ≤ x ∧ x < 64) (n0 : 0 ≤ n) (n6 : n ≤ 6) : Calls Try.prog 131 #[.int .i64 n, va] w fun e w' => ∃ v, e = .returned (cx n v) ∧ St w w' [⟨v, 3, ints (fromL n xs)⟩] := by
  have la := ha.iln tI
  have ll := ha.ile
  obtain ⟨p0, p1⟩ := pw_rng n0 n6
  have e1 := pw_wrap n0 n6
  have hB := (St.start w).box 0 (.slice none 0 0) 30
  have HB := hid hB
  have HX := hid hx
  clear hB hx
  go_enter Try.func131, Try.ntmps131
  go_wp2_with fail
  go_loopw [5, 6] (fun o i wr => ∃ (s : Nat) (u : Value), (s : Int) ≤ pw n ∧ i = .int .i64 s ∧ o = u ∧ St w wr [⟨u, 3, ints (numTo (avoidP xs) s)⟩, ⟨bx w.heap.size, 30, [.int .i64 0, .slice none 0 0]⟩]) (fun _ i _ => 64 - (intOf i).toNat)
  case atStart => exact ⟨0, _, by omega, rfl, rfl, HB.out.newAt #[] _ (by simp) (by simp)⟩
  case round =>
    obtain ⟨s, u, hs, rfl, rfl, hS⟩ := hrel
    have HS := hid hS
    have ha' := hS.old ha
    have hl := numTo_len (avoidP xs) s
    clear hS
    by_cases hlt : (s : Int) < pw n
    · have ds : decide ((s : Int) < pw n) = true := by simp [hlt]
      obtain ⟨wo, rfl⟩ : ∃ wo : World, wo = wr := ⟨_, rfl⟩
      go_wp2_with fail
      go_loopw [7, 8] (fun b i wr => ∃ (j m : Nat), j ≤ xs.length ∧ b = .bool (avoidP (xs.take j) (s : Int)) ∧ i = .int .i64 j ∧ wr = wo.drewN m) (fun _ i _ => xs.length - (intOf i).toNat)
      case atStart => exact ⟨0, 0, by omega, rfl, rfl, rfl⟩
      case round =>
        obtain ⟨j, m, hj, rfl, rfl, hw⟩ := hrel
        have HS2 : Hid (St w wr [⟨u5, 3, ints (numTo (avoidP xs) s)⟩, ⟨bx w.heap.size, 30, [.int .i64 0, .slice none 0 0]⟩]) := by show St _ _ _; rw [hw]; exact HS.out.drewN m
        have HW := hid hw; clear hw
        have ha2 := HS2.out.old ha
        by_cases hjl : j < xs.length
        · have f1 := ha2.iix tI j hjl
          have f2 := ha2.intCell j hjl
          obtain ⟨t0, t1⟩ := gi_rng HX.out hjl
          have an := and_sub t0 t1 (show 0 ≤ (s : Int) by omega) (show (s : Int) < 64 by omega)
          have N2 : Hid (avoidP (xs.take (j + 1)) (s : Int) = (avoidP (xs.take j) (s : Int) && !sub (gi xs j) (s : Int))) := by
            show _ = _
            rw [avoidP, avoidP, take_succ_gi hjl, List.any_append]; simp [Bool.not_or]
          cases hq : avoidP (xs.take j) (s : Int) with
          | false =>
            have HQ := hid hq; clear hq
            go_wp2_with fail
            go_region
            go_wp2_with fail
            go_roundw
            case rel => exact ⟨j + 1, m + 1, by omega, by rw [N2.out, HQ.out, Bool.false_and], by go_num, by rw [HW.out]; rfl⟩
            case measure => simp [intOf]; omega
          | true =>
            have HQ := hid hq; clear hq
            cases hs2 : sub (gi xs j) (s : Int) with
            | true =>
              rw [hs2] at an
              have an2 : (bits .and .i64 (gi xs j) (s : Int) != gi xs j) = false := by rw [bne, an]; rfl
              have HH := hid hs2; clear hs2
              go_wp2_with fail
              go_region
              go_wp2_with fail
              go_roundw
              case rel => exact ⟨j + 1, m + 1, by omega, by rw [N2.out, HQ.out, HH.out]; rfl, by go_num, by rw [HW.out]; rfl⟩
              case measure => simp [intOf]; omega
            | false =>
              rw [hs2] at an
              have an2 : (bits .and .i64 (gi xs j) (s : Int) != gi xs j) = true := by rw [bne, an]; rfl
              have HH := hid hs2; clear hs2
              go_wp2_with fail
              go_region
              go_wp2_with fail
              go_roundw
              case rel => exact ⟨j + 1, m + 1, by omega, by rw [N2.out, HQ.out, HH.out]; rfl, by go_num, by rw [HW.out]; rfl⟩
              case measure => simp [intOf]; omega
        · have et : avoidP (xs.take j) (s : Int) = avoidP xs (s : Int) := by rw [List.take_of_length_le (by omega)]
          rw [et]
          cases hb : avoidP xs (s : Int) with
          | true =>
            have E2 : Hid (numTo (avoidP xs) (s + 1) = numTo (avoidP xs) s ++ [(s : Int)]) := by show _ = _; rw [numTo, if_pos hb]
            clear hb et
            go_wp2_with (at_builtin; refine wpList_push rfl _ _ rfl tI HS2.out.own (.int .i64 (s : Int)) rfl (by simp; omega) rfl rfl ?_)
            intro v2 w2 hO2 hb2
            go_wp2_with fail
            go_roundw
            case rel => exact ⟨s + 1, v2, by omega, by go_num, rfl, by rw [E2.out, ints_append]; exact HS2.out.mut hO2 hb2⟩
            case measure => simp [intOf]; omega
          | false =>
            have E2 : Hid (numTo (avoidP xs) (s + 1) = numTo (avoidP xs) s) := by show _ = _; rw [numTo, if_neg (by rw [hb]; simp)]
            clear hb et
            go_wp2_with fail
            go_roundw
            case rel => exact ⟨s + 1, _, by omega, by go_num, rfl, by rw [E2.out]; exact HS2.out⟩
            case measure => simp [intOf]; omega
    · have es : s = (pw n).toNat := by omega
      have EM : Hid (maxL (mem (numTo (avoidP xs) s)) = fromL n xs) := by
        show _ = _
        rw [es]
        exact maxL_congr fun t h0 _ => mem_numTo_pw _ h0 n0 n6
      have HN : Hid (∀ x ∈ numTo (avoidP xs) s, 0 ≤ x ∧ x < 64) := by rw [es]; exact numTo_pw_rng n0 n6
      clear es
      go_wp2_with fail
      refine (l3Make_c n _ _ _ HS.out.hd HN.out).mono ?_
      rintro e w2 ⟨u2, rfl, hS2⟩
      have hS := HS.out.call1 hS2
      obtain ⟨p, l, c, rfl⟩ := hS.hd.form
      have d0 := hS.hd3.c0
      have d1 := hS.hd3.c1
      have s0 : w2.frozen? ⟨w.heap.size, 0, none⟩ = false := hS.own.free (v := bx w.heap.size) (.tail _ (.tail _ (.head _))) 0 (by simp)
      have s1 : w2.frozen? ⟨w.heap.size, 1, none⟩ = false := hS.own.free (v := bx w.heap.size) (.tail _ (.tail _ (.head _))) 1 (by simp)
      have HS3 := hid hS
      clear hS hS2
      unfold cx
      go_wp2_with fail
      have hS4 := ((HS3.out.bring (l1 := [_, _])).set 0 (by simp) (.int .i64 n)).set 1 (by simp) (.slice p l c)
      exact bodyPost_ret (ret_cx rfl rfl hS4.hd) rfl ⟨_, rfl, by rw [← EM.out]; exact hS4.sub (.cons _ (.cons_cons _ (.cons _ .slnil)))⟩
set_option maxHeartbeats 2000000 in
theorem sFromMissing_c (n : Int) (va : Value) (xs : List Int) (w : World) (ha : Rd w va (ints xs)) : Calls Try.prog 39 #[.int .i64 n, va] w fun e w' =>
    ∃ v, e = .returned (.tuple #[cx (resN (areB n xs) n) v, .bool (areB n xs)]) ∧ St w w' [⟨v, 3, ints (resL (areB n xs) (fromL n xs))⟩] := by
  have hB := (St.start w).box 0 (.slice none 0 0) 30
  have ha' := hB.old ha
  have HB := hid hB
  clear hB
  by_cases hA : AreS n xs
  · have hb := areB_t hA
    have h0 : 0 ≤ n := by have := hA.1; omega
    have h6 := hA.2.1
    have HR := hid hA.rng
    clear hA
    rw [hb]
    go_enter Try.func39, Try.ntmps39
    go_wp2_with fail
    refine (sMakeComplex_c n va xs _ ha').mono ?_
    rw [hb]
    rintro e w1 ⟨v, rfl, hS1⟩
    obtain ⟨p, l, c, rfl⟩ := hS1.hd.form
    have hS2 := (HB.out.call1 hS1).box (resN true n) (.slice p l c) 30
    have HS2 := hid hS2
    have ha2 := hS2.old ha
    clear hS1 hS2
    unfold cx
    go_wp2_with fail
    refine (l7From_c n va xs _ ha2 HR.out h0 h6).mono ?_
    rintro e w2 ⟨v2, rfl, hS3⟩
    have hS := HS2.out.call1 hS3
    obtain ⟨p2, l2, c2, rfl⟩ := hS.hd.form
    have d0 := hS.hd4.c0
    have d1 := hS.hd4.c1
    have s0 : w2.frozen? ⟨w.heap.size, 0, none⟩ = false := hS.own.free (v := bx w.heap.size) (.tail _ (.tail _ (.tail _ (.head _)))) 0 (by simp)
    have s1 : w2.frozen? ⟨w.heap.size, 1, none⟩ = false := hS.own.free (v := bx w.heap.size) (.tail _ (.tail _ (.tail _ (.head _)))) 1 (by simp)
    have HS3 := hid hS
    clear hS hS3
    unfold cx
    go_wp2_with fail
    have hS4 := ((HS3.out.bring (l1 := [_, _, _])).set 0 (by simp) (.int .i64 n)).set 1 (by simp) (.slice p2 l2 c2)
    refine bodyPost_ret (ret_cx2 rfl rfl rfl hS4.hd) rfl ⟨.slice p2 l2 c2, rfl, ?_⟩
    exact hS4.sub (.cons _ (.cons_cons _ (.cons _ (.cons _ .slnil))))
  · have hb := areB_f hA
    clear hA
    rw [hb]
    go_enter Try.func39, Try.ntmps39
    go_wp2_with fail
    refine (sMakeComplex_c n va xs _ ha').mono ?_
    rw [hb]
    rintro e w1 ⟨v, rfl, hS1⟩
    obtain ⟨p, l, c, rfl⟩ := hS1.hd.form
    have hS2 := (HB.out.call1 hS1).box (resN false n) (.slice p l c) 30
    have HS2 := hid hS2
    have d0 := hS2.hd3.c0
    have d1 := hS2.hd3.c1
    have s0 : (w1.alloc (.cells #[.int .i64 (resN false n), .slice p l c] 30)).frozen? ⟨w.heap.size, 0, none⟩ = false := hS2.own.free (v := bx w.heap.size) (.tail _ (.tail _ (.head _))) 0 (by simp)
    have s1 : (w1.alloc (.cells #[.int .i64 (resN false n), .slice p l c] 30)).frozen? ⟨w.heap.size, 1, none⟩ = false := hS2.own.free (v := bx w.heap.size) (.tail _ (.tail _ (.head _))) 1 (by simp)
    clear hS1 hS2
    unfold cx
    go_wp2_with fail
    have hS4 := ((HS2.out.bring (l1 := [_, _])).set 0 (by simp) (.int .i64 0)).set 1 (by simp) (.slice none 0 0)
    exact bodyPost_ret (ret_cx2 rfl rfl rfl hS4.hd) rfl ⟨.slice none 0 0, rfl, (hS4.sub (.cons _ (.cons _ (.cons _ .slnil)))).nilRow _⟩

end Go.Proofs.Ytjaofbdfhcgmeaa
