/-
  Minimal sets; the reference's order and extreme sets.
-/
import Derived.Test.YtjaofbdfhcgmeaaSet
namespace Go.Proofs.Ytjaofbdfhcgmeaa
open Go.RowKit

set_option maxHeartbeats 1000000 in
theorem minimalIn_c (P : Int → Bool) (w : World) : Calls Try.prog 122 #[.int .u64 (fam P)] w fun e w' => ∃ v, e = .returned v ∧ St w w' [⟨v, 3, ints (minL P)⟩] := by
  have EA := hid (min_all P)
  have HM : Hid (∀ k, k < (setsL P).length → (minP P (gi (setsL P) k) = true ↔ ∀ t ∈ ((setsL P).take k).filter (minP P), sub t (gi (setsL P) k) = false)) := fun k hk => min_iff_prev hk
  have HR : Hid (∀ k, k < (setsL P).length → 0 ≤ gi (setsL P) k ∧ gi (setsL P) k < 64 ∧ P (gi (setsL P) k) = true) := fun k hk => setsL_rng hk
  have HF : Hid (∀ k, ∀ t ∈ ((setsL P).take k).filter (minP P), 0 ≤ t ∧ t < 64) := fun k t ht => by
    obtain ⟨⟨i, _, hi, rfl⟩, _⟩ := take_filter_mem.1 ht
    have := setsL_rng hi
    exact ⟨this.1, this.2.1⟩
  have hlen := setsL_len P
  go_enter Try.func122, Try.ntmps122
  go_wp2_with fail
  refine (setsIn_c P _).mono ?_
  rintro e w1 ⟨va, rfl, hS1⟩
  generalize setsL P = A at *
  have HS1 := hid hS1
  have la := hS1.hd.iln tI
  clear hS1
  go_wp2_with fail
  go_loopw [3, 12] (fun o i wr => ∃ (k : Nat) (v : Value), k ≤ A.length ∧ i = .int .i64 k ∧ o = v ∧ St w wr [⟨v, 3, ints ((A.take k).filter (minP P))⟩, ⟨va, 3, ints A⟩]) (fun _ i _ => A.length - (intOf i).toNat)
  case atStart => exact ⟨0, _, by omega, rfl, rfl, HS1.out.nilRow _⟩
  case round =>
    obtain ⟨k, v, hk, rfl, rfl, hS⟩ := hrel
    have HS := hid hS
    by_cases hlt : k < A.length
    · have f1 := hS.hd2.iix tI k hlt
      have f2 := hS.hd2.intCell k hlt
      have hfl : ((A.take k).filter (minP P)).length ≤ k := by
        have := List.length_filter_le (minP P) (A.take k)
        rw [List.length_take] at this
        omega
      obtain ⟨s0, s1, _⟩ := HR.out _ hlt
      have hf := HF.out k
      have hm := HM.out k hlt
      have ht : Hid (minP P (gi A k) = true → (A.take (k + 1)).filter (minP P) = (A.take k).filter (minP P) ++ [gi A k]) := fun h => filter_succ_t hlt h
      have hn : Hid (minP P (gi A k) = false → (A.take (k + 1)).filter (minP P) = (A.take k).filter (minP P)) := fun h => filter_succ_f hlt h
      generalize (A.take k).filter (minP P) = D at *
      have HF2 := hid hf
      have HM2 := hid hm
      have lv := hS.hd.iln tI
      clear hS hf hm
      go_wp2_with fail
      go_loop [6, 18] (fun b i => ∃ (j : Nat), j ≤ D.length ∧ b = .bool false ∧ i = .int .i64 j ∧ Hid (∀ t, t < j → sub (gi D t) (gi A k) = false)) (fun _ i => A.length - (intOf i).toNat)
      case atStart => exact ⟨0, by omega, rfl, rfl, fun t h => by omega⟩
      case round =>
        obtain ⟨j, hj, rfl, rfl, hN⟩ := hrel
        by_cases hjl : j < D.length
        · have g1 := HS.out.hd.iix tI j (by omega)
          have g2 := HS.out.hd.intCell j (by omega)
          obtain ⟨t0, t1⟩ := HF2.out (gi D j) (gi_mem hjl)
          have an := andNot_sub t0 t1 s0 s1
          cases hs : sub (gi D j) (gi A k) with
          | true =>
            rw [hs] at an
            have hm : minP P (gi A k) = false := by
              rw [← Bool.not_eq_true, HM2.out]
              intro h
              have := h _ (gi_mem hjl)
              rw [hs] at this; cases this
            have E2 := hid (hn.out hm)
            clear hs hm
            go_wp2_with fail
            go_roundw
            case rel => exact ⟨k + 1, _, by omega, by go_num, rfl, by rw [E2.out]; exact HS.out⟩
            case measure => simp [intOf]; omega
          | false =>
            rw [hs] at an
            have N2 : Hid (∀ t, t < j + 1 → sub (gi D t) (gi A k) = false) := by
              intro t ht
              by_cases e : t = j
              · subst e; exact hs
              · exact hN.out t (by omega)
            clear hs
            go_wp2_with fail
            go_round
            case rel => exact ⟨j + 1, by omega, rfl, by go_num, N2⟩
            case measure => simp [intOf]; omega
        · have hm : minP P (gi A k) = true := HM2.out.2 fun t ht => by
            obtain ⟨i, hi, rfl⟩ := mem_gi ht
            exact hN.out i (by omega)
          have E2 := hid (ht.out hm)
          clear hm
          go_wp2_with (at_builtin; refine wpList_push rfl _ _ rfl tI HS.out.own (.int .i64 (gi A k)) rfl (by simp; omega) rfl rfl ?_)
          intro v2 w2 hO2 hb2
          go_wp2_with fail
          go_roundw
          case rel => exact ⟨k + 1, v2, by omega, by go_num, rfl, by rw [E2.out, ints_append]; exact HS.out.mut hO2 hb2⟩
          case measure => simp [intOf]; omega
    · have E2 : Hid ((A.take k).filter (minP P) = minL P) := by show _ = _; rw [List.take_of_length_le (by omega)]; exact EA.out
      clear hS
      go_wp2_with fail
      go_ret
      exact ⟨_, rfl, by rw [← E2.out]; exact HS.out.sub (.cons_cons _ (.cons _ .slnil))⟩

instance (a b : Int) : Decidable (bef a b) := by unfold bef; exact inferInstance
def befB (a b : Int) : Bool := decide (bef a b)
theorem befB_iff {a b : Int} : befB a b = true ↔ bef a b := by simp [befB]
set_option maxHeartbeats 1000000 in
theorem l2Before_c (a b : Int) (w : World) (a0 : 0 ≤ a) (a1 : a < 64) (b0 : 0 ≤ b) (b1 : b < 64) : Calls Try.prog 164 #[.int .i64 a, .int .i64 b] w fun e w' => e = .returned (.bool (befB a b)) ∧ w = w' := by
  have EB : Hid (befB a b = decide (pc a < pc b ∨ pc a = pc b ∧ a < b)) := by show _ = _; rw [Bool.eq_iff_iff, befB_iff]; simp [bef]
  by_cases h1 : pc a < pc b
  · have d1 : decide (pc a < pc b) = true := by simp [h1]
    have E : Hid (befB a b = true) := by show _ = _; rw [EB.out]; simp [h1]
    clear h1
    go_enter Try.func164, Try.ntmps164
    go_wp2_with (go_at_call 106; refine (l2Size_c _ _ (by omega) (by omega)).mono ?_; rintro e w' ⟨rfl, rfl⟩)
    go_ret
    exact ⟨ret_bool E.out.symm, rfl⟩
  · have d1 : decide (pc a < pc b) = false := by simp [h1]
    by_cases h2 : pc a = pc b
    · have d2 : (pc a == pc b) = true := by simp [h2]
      have E : Hid (befB a b = decide (a < b)) := by show _ = _; rw [EB.out, Bool.eq_iff_iff]; simp [h2]
      clear h1 h2
      go_enter Try.func164, Try.ntmps164
      go_wp2_with (go_at_call 106; refine (l2Size_c _ _ (by omega) (by omega)).mono ?_; rintro e w' ⟨rfl, rfl⟩)
      all_goals (go_ret; first | exact ⟨ret_bool (E.out.symm), rfl⟩ | (refine ⟨ret_bool ?_, rfl⟩; rw [E.out]; simp; try omega))
    · have d2 : (pc a == pc b) = false := by simp [h2]
      have E : Hid (befB a b = false) := by show _ = _; rw [EB.out]; simp [h1, h2]
      clear h1 h2
      go_enter Try.func164, Try.ntmps164
      go_wp2_with (go_at_call 106; refine (l2Size_c _ _ (by omega) (by omega)).mono ?_; rintro e w' ⟨rfl, rfl⟩)
      go_ret
      exact ⟨ret_bool E.out.symm, rfl⟩

theorem tB : SlT Try.prog 111 4 (.bool false) := slT_mk (b := 1) (by kernel_rfl) (by kernel_rfl) rfl (by omega)
set_option maxHeartbeats 1000000 in
theorem l2Order_c (va : Value) (xs : List Int) (w : World) (ha : Rd w va (ints xs)) (hx : ∀ x ∈ xs, 0 ≤ x ∧ x < 64) :
    Calls Try.prog 133 #[va] w fun e w' => ∃ v, e = .returned v ∧ St w w' [⟨v, 3, ints (setsL (mem xs))⟩] := by
  have la := ha.iln tI
  have ll := ha.ile
  have HX := hid hx; clear hx
  go_enter Try.func133, Try.ntmps133
  go_wp2_with (at_make; refine wpList_mk rfl _ _ rfl tB (Owns.start w) 64 (by omega) rfl rfl ?_)
  intro vt w1 hO hb
  have hS0 : St w w1 [⟨vt, 4, bools (tabB (mem (xs.take 0)))⟩] := by
    rw [List.take_zero, show tabB (mem []) = tabB (fun _ => false) from tabB_congr fun s _ _ => mem_nil s, ← tabB_none]
    exact ⟨hO, hb⟩
  have HS0 := hid hS0
  clear hO hb hS0
  go_wp2_with fail
  go_loopw [4] (fun i wr => ∃ (j : Nat), j ≤ xs.length ∧ i = .int .i64 j ∧ St w wr [⟨vt, 4, bools (tabB (mem (xs.take j)))⟩]) (fun i _ => xs.length - (intOf i).toNat)
  case atStart => exact ⟨0, by omega, rfl, HS0.out⟩
  case round =>
    obtain ⟨j, hj, rfl, hS⟩ := hrel
    have HS := hid hS; clear hS
    by_cases hlt : j < xs.length
    · have f1 := ha.iix tI j hlt
      have f2 := (HS.out.old ha).intCell j hlt
      have hr := HX.out _ (gi_mem hlt)
      obtain ⟨n, hn⟩ : ∃ n : Nat, gi xs j = n := ⟨(gi xs j).toNat, by omega⟩
      have h64 : n < 64 := by omega
      have E2 : Hid (bools (tabB (mem (xs.take (j + 1)))) = (bools (tabB (mem (xs.take j)))).set n (.bool true)) := by
        show _ = _
        rw [tabB_set _ n h64]
        refine congrArg bools (tabB_congr fun s _ _ => ?_)
        rw [mem_succ hlt, hn]
      rw [hn] at f2
      have g1 := HS.out.hd.ix tB n (by rw [tabB_len]; exact h64)
      have g2 := HS.out.hd.cell n (by rw [tabB_len]; exact h64)
      rw [tabB_get _ n h64] at g2
      have g5 := HS.out.own.free (List.mem_cons_self ..) n (by rw [tabB_len]; exact h64)
      clear hn hr
      go_wp2_with fail
      go_roundw
      case rel => exact ⟨j + 1, by omega, by go_num, by rw [E2.out]; exact HS.out.set n (by rw [tabB_len]; exact h64) _⟩
      case measure => simp [intOf]; omega
    · have HS2 : Hid (St w wr [⟨vt, 4, bools (tabB (mem xs))⟩]) := by
        have := HS.out
        rw [List.take_of_length_le (by omega)] at this
        exact this
      clear HS
      go_wp2_with fail
      go_loopw [5, 6] (fun o i wr => ∃ (z : Nat) (v : Value), z ≤ 7 ∧ i = .int .i64 z ∧ o = v ∧ St w wr [⟨v, 3, ints (allTo (mem xs) z)⟩, ⟨vt, 4, bools (tabB (mem xs))⟩]) (fun _ i _ => 7 - (intOf i).toNat)
      case atStart => exact ⟨0, _, by omega, rfl, rfl, HS2.out.new #[] _ (by simp)⟩
      case round =>
        obtain ⟨z, v, hz, rfl, rfl, hS⟩ := hrel
        have HS := hid hS; clear hS HS2
        by_cases hlt : z ≤ 6
        · have dz : decide ((z : Int) ≤ 6) = true := by simp; omega
          go_wp2_with fail
          go_loopw [5, 7] (fun o i wr => ∃ (s : Nat) (v : Value), s ≤ 64 ∧ i = .int .i64 s ∧ o = v ∧ St w wr [⟨v, 3, ints (allTo (mem xs) z ++ rowTo (mem xs) z s)⟩, ⟨vt, 4, bools (tabB (mem xs))⟩]) (fun _ i _ => 64 - (intOf i).toNat)
          case atStart => exact ⟨0, _, by omega, rfl, rfl, by rw [rowTo, List.append_nil]; exact HS.out⟩
          case round =>
            obtain ⟨s, v, hs, rfl, rfl, hS⟩ := hrel
            have HS := hid hS
            have hl1 := allTo_len (mem xs) z
            have hl2 := rowTo_len (mem xs) z s
            by_cases hlt : s < 64
            · have g1 := hS.hd2.ix tB s (by rw [tabB_len]; exact hlt)
              have g2 := hS.hd2.cell s (by rw [tabB_len]; exact hlt)
              rw [tabB_get _ s hlt] at g2
              clear hS
              by_cases hp : mem xs (s : Int) = true
              · by_cases hq : pc s = z
                · have hq' : (pc s == (z : Int)) = true := by simp [hq]
                  have E2 : Hid (allTo (mem xs) z ++ rowTo (mem xs) z (s + 1) = (allTo (mem xs) z ++ rowTo (mem xs) z s) ++ [(s : Int)]) := by show _ = _; rw [rowTo, if_pos ⟨hp, hq⟩, List.append_assoc]
                  clear hq
                  go_wp2_with (first | (go_at_call 106; refine (l2Size_c _ _ (by omega) (by omega)).mono ?_; rintro e w' ⟨rfl, rfl⟩) | (at_builtin; refine wpList_push rfl _ _ rfl tI HS.out.own (.int .i64 (s : Int)) rfl (by simp; omega) rfl rfl ?_))
                  intro v2 w2 hO2 hb2
                  go_wp2_with fail
                  go_roundw
                  case rel => exact ⟨s + 1, v2, by omega, by go_num, rfl, by rw [E2.out, ints_append]; exact HS.out.mut hO2 hb2⟩
                  case measure => simp [intOf]; omega
                · have hq' : (pc s == (z : Int)) = false := by simp [hq]
                  have E2 : Hid (rowTo (mem xs) z (s + 1) = rowTo (mem xs) z s) := by show _ = _; rw [rowTo, if_neg (fun h => hq h.2)]
                  clear hq
                  go_wp2_with (first | (go_at_call 106; refine (l2Size_c _ _ (by omega) (by omega)).mono ?_; rintro e w' ⟨rfl, rfl⟩))
                  go_roundw
                  case rel => exact ⟨s + 1, _, by omega, by go_num, rfl, by rw [E2.out]; exact HS.out⟩
                  case measure => simp [intOf]; omega
              · have hp' : mem xs (s : Int) = false := by simpa using hp
                have E2 : Hid (rowTo (mem xs) z (s + 1) = rowTo (mem xs) z s) := by show _ = _; rw [rowTo, if_neg (fun h => hp h.1)]
                clear hp
                go_wp2_with fail
                go_roundw
                case rel => exact ⟨s + 1, _, by omega, by go_num, rfl, by rw [E2.out]; exact HS.out⟩
                case measure => simp [intOf]; omega
            · have es : s = 64 := by omega
              subst es
              clear hS
              go_wp2_with fail
              go_roundw
              case rel => exact ⟨z + 1, _, by omega, by go_num, rfl, HS.out⟩
              case measure => simp [intOf]; omega
        · have es : z = 7 := by omega
          subst es
          go_wp2_with fail
          go_ret
          exact ⟨_, rfl, HS.out.sub (.cons_cons _ (.cons _ .slnil))⟩

set_option maxHeartbeats 1000000 in
theorem l2Max_c (va : Value) (xs : List Int) (w : World) (ha : Rd w va (ints xs)) (hx : ∀ x ∈ xs, 0 ≤ x ∧ x < 64) :
    Calls Try.prog 159 #[va, .bool true] w fun e w' => ∃ v, e = .returned v ∧ St w w' [⟨v, 3, ints (maxL (mem xs))⟩] := by
  have EA := hid (max_all (mem xs))
  have HR : Hid (∀ k, k < (setsL (mem xs)).length → 0 ≤ gi (setsL (mem xs)) k ∧ gi (setsL (mem xs)) k < 64 ∧ mem xs (gi (setsL (mem xs)) k) = true) := fun k hk => setsL_rng hk
  have HM : Hid (∀ k, k < (setsL (mem xs)).length → maxP (mem xs) (gi (setsL (mem xs)) k) = !((setsL (mem xs)).any fun t => t != gi (setsL (mem xs)) k && sub (gi (setsL (mem xs)) k) t)) := fun k hk => by
    rw [maxP, (HR.out k hk).2.2, Bool.true_and]
  have hlen := setsL_len (mem xs)
  have HX := hid hx; clear hx
  go_enter Try.func159, Try.ntmps159
  go_wp2_with fail
  refine (l2Order_c va xs _ ha HX.out).mono ?_
  rintro e w1 ⟨vb, rfl, hS1⟩
  generalize setsL (mem xs) = A at *
  have HS1 := hid hS1
  have la := hS1.hd.iln tI
  clear hS1
  go_wp2_with fail
  go_loopw [6, 7] (fun o i wr => ∃ (k : Nat) (v : Value), k ≤ A.length ∧ i = .int .i64 k ∧ o = v ∧ St w wr [⟨v, 3, ints ((A.take k).filter (maxP (mem xs)))⟩, ⟨vb, 3, ints A⟩]) (fun _ i _ => A.length - (intOf i).toNat)
  case atStart => exact ⟨0, _, by omega, rfl, rfl, HS1.out.new #[] _ (by simp)⟩
  case round =>
    obtain ⟨k, v, hk, rfl, rfl, hS⟩ := hrel
    have HS := hid hS
    by_cases hlt : k < A.length
    · have f1 := hS.hd2.iix tI k hlt
      have f2 := hS.hd2.intCell k hlt
      have hfl : ((A.take k).filter (maxP (mem xs))).length ≤ k := by
        have := List.length_filter_le (maxP (mem xs)) (A.take k)
        rw [List.length_take] at this
        omega
      obtain ⟨s0, s1, _⟩ := HR.out _ hlt
      have dk : decide ((k : Int) < (A.length : Int)) = true := by simp; omega
      clear hS
      go_wp2_with fail
      go_loop [8, 9] (fun b i => ∃ (j : Nat), j ≤ A.length ∧ b = .bool (!((A.take j).any fun t => t != gi A k && sub (gi A k) t)) ∧ i = .int .i64 j) (fun _ i => A.length - (intOf i).toNat)
      case atStart => exact ⟨0, by omega, rfl, rfl⟩
      case round =>
        obtain ⟨j, hj, rfl, rfl⟩ := hrel
        by_cases hjl : j < A.length
        · have g1 := HS.out.hd2.iix tI j hjl
          have g2 := HS.out.hd2.intCell j hjl
          obtain ⟨t0, t1, _⟩ := HR.out j hjl
          have an := and_sub s0 s1 t0 t1
          have N2 : Hid (((A.take (j + 1)).any fun t => t != gi A k && sub (gi A k) t) = (((A.take j).any fun t => t != gi A k && sub (gi A k) t) || (gi A j != gi A k && sub (gi A k) (gi A j)))) := by
            show _ = _
            rw [take_succ_gi hjl, List.any_append]; simp
          by_cases he : gi A k = gi A j
          · have d1 : (gi A k != gi A j) = false := by simp [he]
            have d2 : Hid ((gi A j != gi A k) = false) := by show _ = _; simp [he]
            clear he
            go_wp2_with fail
            go_round
            case rel => exact ⟨j + 1, by omega, by rw [N2.out, d2.out, Bool.false_and, Bool.or_false], by go_num⟩
            case measure => simp [intOf]; omega
          · have d1 : (gi A k != gi A j) = true := by simp [he]
            have d2 : Hid ((gi A j != gi A k) = true) := by show _ = _; simp [Ne.symm he]
            clear he
            cases hs : sub (gi A k) (gi A j) with
            | true =>
              rw [hs] at an
              have HHS := hid hs; clear hs
              go_wp2_with fail
              go_round
              case rel => exact ⟨j + 1, by omega, by rw [N2.out, d2.out, HHS.out]; simp, by go_num⟩
              case measure => simp [intOf]; omega
            | false =>
              rw [hs] at an
              have HHS := hid hs; clear hs
              go_wp2_with fail
              go_round
              case rel => exact ⟨j + 1, by omega, by rw [N2.out, d2.out, HHS.out]; simp, by go_num⟩
              case measure => simp [intOf]; omega
        · have hm := HM.out k hlt
          have et : A.take j = A := List.take_of_length_le (by omega)
          rw [et, ← hm]
          cases hb : maxP (mem xs) (gi A k) with
          | true =>
            have E2 := hid (filter_succ_t hlt hb)
            clear hb hm et
            go_wp2_with (at_builtin; refine wpList_push rfl _ _ rfl tI HS.out.own (.int .i64 (gi A k)) rfl (by simp; omega) rfl rfl ?_)
            intro v2 w2 hO2 hb2
            go_wp2_with fail
            go_roundw
            case rel => exact ⟨k + 1, v2, by omega, by go_num, rfl, by rw [E2.out, ints_append]; exact HS.out.mut hO2 hb2⟩
            case measure => simp [intOf]; omega
          | false =>
            have E2 := hid (filter_succ_f hlt hb)
            clear hb hm et
            go_wp2_with fail
            go_roundw
            case rel => exact ⟨k + 1, _, by omega, by go_num, rfl, by rw [E2.out]; exact HS.out⟩
            case measure => simp [intOf]; omega
    · have E2 : Hid ((A.take k).filter (maxP (mem xs)) = maxL (mem xs)) := by show _ = _; rw [List.take_of_length_le (by omega)]; exact EA.out
      clear hS
      go_wp2_with fail
      go_ret
      exact ⟨_, rfl, by rw [← E2.out]; exact HS.out.sub (.cons_cons _ (.cons _ .slnil))⟩

set_option maxHeartbeats 1000000 in
theorem l2Min_c (va : Value) (xs : List Int) (w : World) (ha : Rd w va (ints xs)) (hx : ∀ x ∈ xs, 0 ≤ x ∧ x < 64) :
    Calls Try.prog 159 #[va, .bool false] w fun e w' => ∃ v, e = .returned v ∧ St w w' [⟨v, 3, ints (minL (mem xs))⟩] := by
  have EA := hid (min_all (mem xs))
  have HR : Hid (∀ k, k < (setsL (mem xs)).length → 0 ≤ gi (setsL (mem xs)) k ∧ gi (setsL (mem xs)) k < 64 ∧ mem xs (gi (setsL (mem xs)) k) = true) := fun k hk => setsL_rng hk
  have HM : Hid (∀ k, k < (setsL (mem xs)).length → minP (mem xs) (gi (setsL (mem xs)) k) = !((setsL (mem xs)).any fun t => t != gi (setsL (mem xs)) k && sub t (gi (setsL (mem xs)) k))) := fun k hk => by
    rw [minP, (HR.out k hk).2.2, Bool.true_and]
  have hlen := setsL_len (mem xs)
  have HX := hid hx; clear hx
  go_enter Try.func159, Try.ntmps159
  go_wp2_with fail
  refine (l2Order_c va xs _ ha HX.out).mono ?_
  rintro e w1 ⟨vb, rfl, hS1⟩
  generalize setsL (mem xs) = A at *
  have HS1 := hid hS1
  have la := hS1.hd.iln tI
  clear hS1
  go_wp2_with fail
  go_loopw [6, 7] (fun o i wr => ∃ (k : Nat) (v : Value), k ≤ A.length ∧ i = .int .i64 k ∧ o = v ∧ St w wr [⟨v, 3, ints ((A.take k).filter (minP (mem xs)))⟩, ⟨vb, 3, ints A⟩]) (fun _ i _ => A.length - (intOf i).toNat)
  case atStart => exact ⟨0, _, by omega, rfl, rfl, HS1.out.new #[] _ (by simp)⟩
  case round =>
    obtain ⟨k, v, hk, rfl, rfl, hS⟩ := hrel
    have HS := hid hS
    by_cases hlt : k < A.length
    · have f1 := hS.hd2.iix tI k hlt
      have f2 := hS.hd2.intCell k hlt
      have hfl : ((A.take k).filter (minP (mem xs))).length ≤ k := by
        have := List.length_filter_le (minP (mem xs)) (A.take k)
        rw [List.length_take] at this
        omega
      obtain ⟨s0, s1, _⟩ := HR.out _ hlt
      have dk : decide ((k : Int) < (A.length : Int)) = true := by simp; omega
      clear hS
      go_wp2_with fail
      go_loop [8, 9] (fun b i => ∃ (j : Nat), j ≤ A.length ∧ b = .bool (!((A.take j).any fun t => t != gi A k && sub t (gi A k))) ∧ i = .int .i64 j) (fun _ i => A.length - (intOf i).toNat)
      case atStart => exact ⟨0, by omega, rfl, rfl⟩
      case round =>
        obtain ⟨j, hj, rfl, rfl⟩ := hrel
        by_cases hjl : j < A.length
        · have g1 := HS.out.hd2.iix tI j hjl
          have g2 := HS.out.hd2.intCell j hjl
          obtain ⟨t0, t1, _⟩ := HR.out j hjl
          have an := and_sub' s0 s1 t0 t1
          have N2 : Hid (((A.take (j + 1)).any fun t => t != gi A k && sub t (gi A k)) = (((A.take j).any fun t => t != gi A k && sub t (gi A k)) || (gi A j != gi A k && sub (gi A j) (gi A k)))) := by
            show _ = _
            rw [take_succ_gi hjl, List.any_append]; simp
          by_cases he : gi A k = gi A j
          · have d1 : (gi A k != gi A j) = false := by simp [he]
            have d2 : Hid ((gi A j != gi A k) = false) := by show _ = _; simp [he]
            clear he
            go_wp2_with fail
            go_round
            case rel => exact ⟨j + 1, by omega, by rw [N2.out, d2.out, Bool.false_and, Bool.or_false], by go_num⟩
            case measure => simp [intOf]; omega
          · have d1 : (gi A k != gi A j) = true := by simp [he]
            have d2 : Hid ((gi A j != gi A k) = true) := by show _ = _; simp [Ne.symm he]
            clear he
            cases hs : sub (gi A j) (gi A k) with
            | true =>
              rw [hs] at an
              have HHS := hid hs; clear hs
              go_wp2_with fail
              go_round
              case rel => exact ⟨j + 1, by omega, by rw [N2.out, d2.out, HHS.out]; simp, by go_num⟩
              case measure => simp [intOf]; omega
            | false =>
              rw [hs] at an
              have HHS := hid hs; clear hs
              go_wp2_with fail
              go_round
              case rel => exact ⟨j + 1, by omega, by rw [N2.out, d2.out, HHS.out]; simp, by go_num⟩
              case measure => simp [intOf]; omega
        · have hm := HM.out k hlt
          have et : A.take j = A := List.take_of_length_le (by omega)
          rw [et, ← hm]
          cases hb : minP (mem xs) (gi A k) with
          | true =>
            have E2 := hid (filter_succ_t hlt hb)
            clear hb hm et
            go_wp2_with (at_builtin; refine wpList_push rfl _ _ rfl tI HS.out.own (.int .i64 (gi A k)) rfl (by simp; omega) rfl rfl ?_)
            intro v2 w2 hO2 hb2
            go_wp2_with fail
            go_roundw
            case rel => exact ⟨k + 1, v2, by omega, by go_num, rfl, by rw [E2.out, ints_append]; exact HS.out.mut hO2 hb2⟩
            case measure => simp [intOf]; omega
          | false =>
            have E2 := hid (filter_succ_f hlt hb)
            clear hb hm et
            go_wp2_with fail
            go_roundw
            case rel => exact ⟨k + 1, _, by omega, by go_num, rfl, by rw [E2.out]; exact HS.out⟩
            case measure => simp [intOf]; omega
    · have E2 : Hid ((A.take k).filter (minP (mem xs)) = minL (mem xs)) := by show _ = _; rw [List.take_of_length_le (by omega)]; exact EA.out
      clear hS
      go_wp2_with fail
      go_ret
      exact ⟨_, rfl, by rw [← E2.out]; exact HS.out.sub (.cons_cons _ (.cons _ .slnil))⟩


end Go.Proofs.Ytjaofbdfhcgmeaa
