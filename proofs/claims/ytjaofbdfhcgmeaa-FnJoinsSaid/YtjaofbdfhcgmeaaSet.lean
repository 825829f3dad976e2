/-
  The walks over families of sets: of the program by bits of a number, of the reference by tables.
-/
import Derived.Test.YtjaofbdfhcgmeaaFam
namespace Go.Proofs.Ytjaofbdfhcgmeaa
open Go.RowKit

set_option maxHeartbeats 1000000 in
theorem hasSet_c (P : Int → Bool) (s : Int) (w : World) (h0 : 0 ≤ s) (h1 : s < 64) : Calls Try.prog 163 #[.int .u64 (fam P), .int .i64 s] w fun e w' => e = .returned (.bool (P s)) ∧ w = w' := by
  obtain ⟨r0, r1⟩ := fam_rng P
  go_enter Try.func163, Try.ntmps163
  go_wp2_with fail
  go_ret
  exact ⟨ret_bool (fam_has P h0 h1), rfl⟩

set_option maxHeartbeats 1000000 in
theorem setsIn_c (P : Int → Bool) (w : World) : Calls Try.prog 169 #[.int .u64 (fam P)] w fun e w' => ∃ v, e = .returned v ∧ St w w' [⟨v, 3, ints (setsL P)⟩] := by
  go_enter Try.func169, Try.ntmps169
  go_wp2_with fail
  go_loopw [3, 4] (fun o i wr => ∃ (z : Nat) (v : Value), z ≤ 7 ∧ i = .int .i64 z ∧ o = v ∧ St w wr [⟨v, 3, ints (allTo P z)⟩]) (fun _ i _ => 7 - (intOf i).toNat)
  case atStart => exact ⟨0, _, by omega, rfl, rfl, (St.start w).nilRow _⟩
  case round =>
    obtain ⟨z, v, hz, rfl, rfl, hS⟩ := hrel
    have HS := hid hS; clear hS
    by_cases hlt : z ≤ 6
    · have dz : decide ((z : Int) ≤ 6) = true := by simp; omega
      go_wp2_with fail
      go_loopw [3, 5] (fun o i wr => ∃ (s : Nat) (v : Value), s ≤ 64 ∧ i = .int .i64 s ∧ o = v ∧ St w wr [⟨v, 3, ints (allTo P z ++ rowTo P z s)⟩]) (fun _ i _ => 64 - (intOf i).toNat)
      case atStart => exact ⟨0, _, by omega, rfl, rfl, by rw [rowTo, List.append_nil]; exact HS.out⟩
      case round =>
        obtain ⟨s, v, hs, rfl, rfl, hS⟩ := hrel
        have HS := hid hS
        have hl1 := allTo_len P z
        have hl2 := rowTo_len P z s
        by_cases hlt : s < 64
        · by_cases hp : P (s : Int) = true
          · by_cases hq : pc s = z
            · have hq' : (pc s == (z : Int)) = true := by simp [hq]
              have E2 : Hid (allTo P z ++ rowTo P z (s + 1) = (allTo P z ++ rowTo P z s) ++ [(s : Int)]) := by show _ = _; rw [rowTo, if_pos ⟨hp, hq⟩, List.append_assoc]
              clear hq hS
              go_wp2_with (first | (go_at_call 163; refine (hasSet_c _ _ _ (by omega) (by omega)).mono ?_; rintro e w' ⟨rfl, rfl⟩) | (go_at_call 111; refine (SizeOf_s _ _ (by omega) (by omega)).mono ?_; rintro e w' ⟨rfl, rfl⟩) | (at_builtin; refine wpList_push rfl _ _ rfl tI HS.out.own (.int .i64 (s : Int)) rfl (by simp; omega) rfl rfl ?_))
              intro v2 w2 hO2 hb2
              go_wp2_with fail
              go_roundw
              case rel => exact ⟨s + 1, v2, by omega, by go_num, rfl, by rw [E2.out, ints_append]; exact HS.out.mut hO2 hb2⟩
              case measure => simp [intOf]; omega
            · have hq' : (pc s == (z : Int)) = false := by simp [hq]
              have E2 : Hid (rowTo P z (s + 1) = rowTo P z s) := by show _ = _; rw [rowTo, if_neg (fun h => hq h.2)]
              clear hq hS
              go_wp2_with (first | (go_at_call 163; refine (hasSet_c _ _ _ (by omega) (by omega)).mono ?_; rintro e w' ⟨rfl, rfl⟩) | (go_at_call 111; refine (SizeOf_s _ _ (by omega) (by omega)).mono ?_; rintro e w' ⟨rfl, rfl⟩))
              go_roundw
              case rel => exact ⟨s + 1, _, by omega, by go_num, rfl, by rw [E2.out]; exact HS.out⟩
              case measure => simp [intOf]; omega
          · have hp' : P (s : Int) = false := by simpa using hp
            have E2 : Hid (rowTo P z (s + 1) = rowTo P z s) := by show _ = _; rw [rowTo, if_neg (fun h => hp h.1)]
            clear hp hS
            go_wp2_with (first | (go_at_call 163; refine (hasSet_c _ _ _ (by omega) (by omega)).mono ?_; rintro e w' ⟨rfl, rfl⟩))
            go_roundw
            case rel => exact ⟨s + 1, _, by omega, by go_num, rfl, by rw [E2.out]; exact HS.out⟩
            case measure => simp [intOf]; omega
        · have es : s = 64 := by omega
          subst es
          clear hS
          go_wp2_with fail
          go_roundw
          case rel => exact ⟨z + 1, _, by omega, by go_num, rfl, HS.out⟩
          case measure => simp [intOf]; omega
    · have es : z = 7 := by omega
      subst es
      go_wp2_with fail
      go_ret
      exact ⟨_, rfl, HS.out⟩

theorem next_fin : ∀ s t : Fin 64, sub t.val s.val = true → t.val ≠ 0 →
    0 ≤ bits .and .i64 ((t.val : Int) - 1) s.val ∧ bits .and .i64 ((t.val : Int) - 1) s.val < t.val ∧ sub (bits .and .i64 ((t.val : Int) - 1) s.val) s.val = true ∧
    ∀ u : Fin 64, sub u.val s.val = true → (decide ((u.val : Int) > bits .and .i64 ((t.val : Int) - 1) s.val)) = (decide ((u.val : Int) > t.val) || (u.val : Int) == t.val) := by decide +kernel
/-- The subsets of s behind t. -/
def subGt (s t : Int) (u : Int) : Bool := sub u s && decide (u > t)
set_option maxHeartbeats 1000000 in
theorem subsetFamily_c (s : Int) (w : World) (h0 : 0 ≤ s) (h1 : s < 64) : Calls Try.prog 137 #[.int .i64 s] w fun e w' => e = .returned (.int .u64 (fam (subP s))) ∧ w = w' := by
  go_enter Try.func137, Try.ntmps137
  go_wp2_with fail
  go_loop [3, 4] (fun f i => ∃ (t : Int), 0 ≤ t ∧ t < 64 ∧ Hid (sub t s = true) ∧ i = .int .i64 t ∧ f = .int .u64 (fam (subGt s t))) (fun _ i => (intOf i).toNat)
  case atStart => exact ⟨s, h0, h1, sub_refl s, rfl, by
    rw [fam_none']
    intro u u0 u1
    show (sub u s && decide (u > s)) = false
    cases hu : sub u s with
    | false => rfl
    | true =>
      obtain ⟨a, rfl⟩ := fin64 h0 h1
      obtain ⟨b, rfl⟩ := fin64 u0 u1
      have : ∀ a b : Fin 64, sub b.val a.val = true → (true && decide ((b.val : Int) > a.val)) = false := by decide +kernel
      exact this a b hu⟩
  case round =>
    obtain ⟨t, t0, t1, hs, rfl, rfl⟩ := hrel
    by_cases hz : t = 0
    · subst hz
      have E : Hid (bits .or .u64 (fam (subGt s 0)) 1 = fam (subP s)) := by
        show _ = _
        have h := fam_add (subGt s 0) (s := 0) (by omega) (by omega)
        rw [show IntKind.u64.wrap (2 ^ (0 : Int).toNat) = 1 by decide] at h
        rw [h]
        refine fam_congr fun u u0 u1 => ?_
        show (sub u s && decide (u > 0) || u == 0) = sub u s
        by_cases hu : u = 0
        · subst hu; simpa using hs.out.symm
        · have : decide (u > 0) = true := by simp; omega
          simp [hu, this]
      go_wp2_with fail
      go_ret
      exact ⟨ret_u64 E.out, rfl⟩
    · have hz' : (t == 0) = false := by simp [hz]
      obtain ⟨a, ha⟩ := fin64 h0 h1
      obtain ⟨b, hb⟩ := fin64 t0 t1
      have hn := next_fin a b (by rw [ha, hb]; exact hs.out) (by omega)
      rw [ha, hb] at hn
      obtain ⟨n0, n1, n2, n3⟩ := hn
      have N2 := hid n2
      have w1 : IntKind.i64.wrap (t - 1) = t - 1 := IntWalk.i64_in _ (by omega)
      have E : Hid (bits .or .u64 (fam (subGt s t)) (IntKind.u64.wrap (2 ^ t.toNat)) = fam (subGt s (bits .and .i64 (t - 1) s))) := by
        show _ = _
        rw [fam_add _ (by omega) (by omega)]
        refine fam_congr fun u u0 u1 => ?_
        show (sub u s && decide (u > t) || u == t) = (sub u s && decide (u > bits .and .i64 (t - 1) s))
        cases hu : sub u s with
        | false =>
          by_cases e : u = t
          · subst e; rw [hs.out] at hu; cases hu
          · simp [e]
        | true =>
          obtain ⟨c, rfl⟩ := fin64 u0 u1
          rw [n3 c hu]
          simp
      clear n2 n3 ha hb hz
      go_wp2_with fail
      go_round
      case rel => exact ⟨_, n0, by omega, N2, rfl, by rw [← E.out]⟩
      case measure => simp [intOf]; omega

/-- What a wanted test answers: the closure's contract. -/
def Wants (f : FuncId) (p : Value) (n : Int) (Q : Int → Bool) (w : World) : Prop :=
  ∀ (s : Int) (w' : World), 0 ≤ s → s < pw n → Below w.heap.size w w' → Calls Try.prog f #[.int .i64 s, p] w' fun e w'' => e = .returned (.bool (Q s)) ∧ Below w'.heap.size w' w''
/-- .. of two captured variables. -/
def Wants2 (f : FuncId) (p q : Value) (n : Int) (Q : Int → Bool) (w : World) : Prop :=
  ∀ (s : Int) (w' : World), 0 ≤ s → s < pw n → Below w.heap.size w w' → Calls Try.prog f #[.int .i64 s, p, q] w' fun e w'' => e = .returned (.bool (Q s)) ∧ Below w'.heap.size w' w''
set_option maxHeartbeats 1000000 in
set_option maxRecDepth 100000 in
theorem covers_pick (p : Value) (n : Int) (Q : Int → Bool) (w : World) (h0 : 0 ≤ n) (h6 : n ≤ 6) (hf : Wants 124 p n Q w) :
    Calls Try.prog 123 #[.int .i64 n, .func (.func 124) #[] #[p]] w fun e w' => e = .returned (.int .u64 (fam (upToP (pw n) Q))) ∧ Below w.heap.size w w' := by
  obtain ⟨p0, p1⟩ := pw_rng h0 h6
  have e1 := pw_wrap h0 h6
  have HF := hid hf; clear hf
  go_enter Try.func123, Try.ntmps123
  go_wp2_with fail
  go_loopw [5, 6] (fun f i wr => ∃ (s : Nat), (s : Int) ≤ pw n ∧ i = .int .i64 s ∧ f = .int .u64 (fam (upToP (s : Int) Q)) ∧ Below w.heap.size w wr) (fun _ i _ => 64 - (intOf i).toNat)
  case atStart => exact ⟨0, by omega, rfl, by rw [show ((0 : Nat) : Int) = 0 from rfl, upToP_none], Below.refl _ _⟩
  case round =>
    obtain ⟨s, hs, rfl, rfl, hB⟩ := hrel
    have HB := hid hB; clear hB
    by_cases hlt : (s : Int) < pw n
    · cases hq : Q (s : Int) with
      | true =>
        have E2 := hid (upToP_t (k := s) (by omega) hq)
        go_wp2_with (go_at_call 124; refine (HF.out _ _ (by omega) hlt HB.out).mono ?_; rintro e w1 ⟨rfl, hB1⟩; have HB1 := hid ((HB.out).trans (hB1.mono HB.out.size)); clear hB1)
        go_roundw
        case rel => exact ⟨s + 1, by omega, by go_num, by rw [E2.out, Int.natCast_add]; rfl, HB1.out⟩
        case measure => simp [intOf]; omega
      | false =>
        have E2 := hid (upToP_f (k := s) hq)
        go_wp2_with (go_at_call 124; refine (HF.out _ _ (by omega) hlt HB.out).mono ?_; rintro e w1 ⟨rfl, hB1⟩; have HB1 := hid ((HB.out).trans (hB1.mono HB.out.size)); clear hB1)
        go_roundw
        case rel => exact ⟨s + 1, by omega, by go_num, by rw [E2.out, Int.natCast_add]; rfl, HB1.out⟩
        case measure => simp [intOf]; omega
    · have es : (s : Int) = pw n := by omega
      have ES := hid es; clear es
      go_wp2_with fail
      go_ret
      exact ⟨ret_u64 (by rw [ES.out]), HB.out⟩

set_option maxHeartbeats 1000000 in
set_option maxRecDepth 100000 in
theorem dual_pick (p q : Value) (n : Int) (Q : Int → Bool) (w : World) (h0 : 0 ≤ n) (h6 : n ≤ 6) (hf : Wants2 162 p q n Q w) :
    Calls Try.prog 123 #[.int .i64 n, .func (.func 162) #[] #[p, q]] w fun e w' => e = .returned (.int .u64 (fam (upToP (pw n) Q))) ∧ Below w.heap.size w w' := by
  obtain ⟨p0, p1⟩ := pw_rng h0 h6
  have e1 := pw_wrap h0 h6
  have HF := hid hf; clear hf
  go_enter Try.func123, Try.ntmps123
  go_wp2_with fail
  go_loopw [5, 6] (fun f i wr => ∃ (s : Nat), (s : Int) ≤ pw n ∧ i = .int .i64 s ∧ f = .int .u64 (fam (upToP (s : Int) Q)) ∧ Below w.heap.size w wr) (fun _ i _ => 64 - (intOf i).toNat)
  case atStart => exact ⟨0, by omega, rfl, by rw [show ((0 : Nat) : Int) = 0 from rfl, upToP_none], Below.refl _ _⟩
  case round =>
    obtain ⟨s, hs, rfl, rfl, hB⟩ := hrel
    have HB := hid hB; clear hB
    by_cases hlt : (s : Int) < pw n
    · cases hq : Q (s : Int) with
      | true =>
        have E2 := hid (upToP_t (k := s) (by omega) hq)
        go_wp2_with (go_at_call 162; refine (HF.out _ _ (by omega) hlt HB.out).mono ?_; rintro e w1 ⟨rfl, hB1⟩; have HB1 := hid ((HB.out).trans (hB1.mono HB.out.size)); clear hB1)
        go_roundw
        case rel => exact ⟨s + 1, by omega, by go_num, by rw [E2.out, Int.natCast_add]; rfl, HB1.out⟩
        case measure => simp [intOf]; omega
      | false =>
        have E2 := hid (upToP_f (k := s) hq)
        go_wp2_with (go_at_call 162; refine (HF.out _ _ (by omega) hlt HB.out).mono ?_; rintro e w1 ⟨rfl, hB1⟩; have HB1 := hid ((HB.out).trans (hB1.mono HB.out.size)); clear hB1)
        go_roundw
        case rel => exact ⟨s + 1, by omega, by go_num, by rw [E2.out, Int.natCast_add]; rfl, HB1.out⟩
        case measure => simp [intOf]; omega
    · have es : (s : Int) = pw n := by omega
      have ES := hid es; clear es
      go_wp2_with fail
      go_ret
      exact ⟨ret_u64 (by rw [ES.out]), HB.out⟩

set_option maxHeartbeats 1000000 in
set_option maxRecDepth 100000 in
theorem cross_pick (p : Value) (n : Int) (Q : Int → Bool) (w : World) (h0 : 0 ≤ n) (h6 : n ≤ 6) (hf : Wants 139 p n Q w) :
    Calls Try.prog 123 #[.int .i64 n, .func (.func 139) #[] #[p]] w fun e w' => e = .returned (.int .u64 (fam (upToP (pw n) Q))) ∧ Below w.heap.size w w' := by
  obtain ⟨p0, p1⟩ := pw_rng h0 h6
  have e1 := pw_wrap h0 h6
  have HF := hid hf; clear hf
  go_enter Try.func123, Try.ntmps123
  go_wp2_with fail
  go_loopw [5, 6] (fun f i wr => ∃ (s : Nat), (s : Int) ≤ pw n ∧ i = .int .i64 s ∧ f = .int .u64 (fam (upToP (s : Int) Q)) ∧ Below w.heap.size w wr) (fun _ i _ => 64 - (intOf i).toNat)
  case atStart => exact ⟨0, by omega, rfl, by rw [show ((0 : Nat) : Int) = 0 from rfl, upToP_none], Below.refl _ _⟩
  case round =>
    obtain ⟨s, hs, rfl, rfl, hB⟩ := hrel
    have HB := hid hB; clear hB
    by_cases hlt : (s : Int) < pw n
    · cases hq : Q (s : Int) with
      | true =>
        have E2 := hid (upToP_t (k := s) (by omega) hq)
        go_wp2_with (go_at_call 139; refine (HF.out _ _ (by omega) hlt HB.out).mono ?_; rintro e w1 ⟨rfl, hB1⟩; have HB1 := hid ((HB.out).trans (hB1.mono HB.out.size)); clear hB1)
        go_roundw
        case rel => exact ⟨s + 1, by omega, by go_num, by rw [E2.out, Int.natCast_add]; rfl, HB1.out⟩
        case measure => simp [intOf]; omega
      | false =>
        have E2 := hid (upToP_f (k := s) hq)
        go_wp2_with (go_at_call 139; refine (HF.out _ _ (by omega) hlt HB.out).mono ?_; rintro e w1 ⟨rfl, hB1⟩; have HB1 := hid ((HB.out).trans (hB1.mono HB.out.size)); clear hB1)
        go_roundw
        case rel => exact ⟨s + 1, by omega, by go_num, by rw [E2.out, Int.natCast_add]; rfl, HB1.out⟩
        case measure => simp [intOf]; omega
    · have es : (s : Int) = pw n := by omega
      have ES := hid es; clear es
      go_wp2_with fail
      go_ret
      exact ⟨ret_u64 (by rw [ES.out]), HB.out⟩


set_option maxHeartbeats 1000000 in
theorem maximalIn_c (P : Int → Bool) (w : World) : Calls Try.prog 158 #[.int .u64 (fam P)] w fun e w' => ∃ v, e = .returned v ∧ St w w' [⟨v, 3, ints (maxL P)⟩] := by
  have EA := hid (max_all P)
  have HM : Hid (∀ k, k < (setsL P).length → (maxP P (gi (setsL P) k) = true ↔ ∀ i, k < i → i < (setsL P).length → sub (gi (setsL P) k) (gi (setsL P) i) = false)) := fun k hk => max_iff_later hk
  have HR : Hid (∀ k, k < (setsL P).length → 0 ≤ gi (setsL P) k ∧ gi (setsL P) k < 64 ∧ P (gi (setsL P) k) = true) := fun k hk => setsL_rng hk
  have hlen := setsL_len P
  go_enter Try.func158, Try.ntmps158
  go_wp2_with fail
  refine (setsIn_c P _).mono ?_
  rintro e w1 ⟨va, rfl, hS1⟩
  generalize setsL P = A at *
  have HS1 := hid hS1
  have la := hS1.hd.iln tI
  clear hS1
  go_wp2_with fail
  go_loopw [4, 14] (fun o i wr => ∃ (k : Nat) (v : Value), k ≤ A.length ∧ i = .int .i64 k ∧ o = v ∧ St w wr [⟨v, 3, ints ((A.take k).filter (maxP P))⟩, ⟨va, 3, ints A⟩]) (fun _ i _ => A.length - (intOf i).toNat)
  case atStart => exact ⟨0, _, by omega, rfl, rfl, HS1.out.nilRow _⟩
  case round =>
    obtain ⟨k, v, hk, rfl, rfl, hS⟩ := hrel
    have HS := hid hS
    by_cases hlt : k < A.length
    · have f1 := hS.hd2.iix tI k hlt
      have f2 := hS.hd2.intCell k hlt
      have f3 := hS.hd2.runFrom tI (k + 1) (by simp; omega)
      have hv := hS.hd2.ifromTo (l := k + 1) (by omega)
      obtain ⟨D, hv, hd, HG⟩ : ∃ D, Rd wr (fromTo va (k + 1)) (ints D) ∧ D.length + (k + 1) = A.length ∧ Hid (∀ j, gi D j = gi A (k + 1 + j)) := ⟨_, hv, by simp; omega, fun j => gi_drop A (k + 1) j⟩
      have lv := hv.iln tI
      have hfl : ((A.take k).filter (maxP P)).length ≤ k := by
        have := List.length_filter_le (maxP P) (A.take k)
        rw [List.length_take] at this
        omega
      have HV := hid hv
      obtain ⟨s0, s1, _⟩ := HR.out _ hlt
      have w1 : ((k : Int) + 1) = ((k + 1 : Nat) : Int) := by omega
      rw [← w1] at f3
      clear hS hv w1
      go_wp2_with fail
      go_loop [7, 24] (fun b i => ∃ (j : Nat), j ≤ D.length ∧ b = .bool false ∧ i = .int .i64 j ∧ Hid (∀ t, t < j → sub (gi A k) (gi A (k + 1 + t)) = false)) (fun _ i => A.length - (intOf i).toNat)
      case atStart => exact ⟨0, by omega, rfl, rfl, fun t h => by omega⟩
      case round =>
        obtain ⟨j, hj, rfl, rfl, hN⟩ := hrel
        by_cases hjl : j < D.length
        · have g1 := HV.out.iix tI j (by omega)
          have g2 := HV.out.intCell j (by omega)
          rw [HG.out j] at g2
          obtain ⟨t0, t1, _⟩ := HR.out (k + 1 + j) (by omega)
          have an := andNot_sub s0 s1 t0 t1
          cases hs : sub (gi A k) (gi A (k + 1 + j)) with
          | true =>
            rw [hs] at an
            have hm : maxP P (gi A k) = false := by
              rw [← Bool.not_eq_true, HM.out _ hlt]
              intro h
              have := h (k + 1 + j) (by omega) (by omega)
              rw [hs] at this; cases this
            have E2 := hid (filter_succ_f hlt hm)
            clear hs hm
            go_wp2_with fail
            go_roundw
            case rel => exact ⟨k + 1, _, by omega, by go_num, rfl, by rw [E2.out]; exact HS.out⟩
            case measure => simp [intOf]; omega
          | false =>
            rw [hs] at an
            have N2 : Hid (∀ t, t < j + 1 → sub (gi A k) (gi A (k + 1 + t)) = false) := by
              intro t ht
              by_cases e : t = j
              · subst e; exact hs
              · exact hN.out t (by omega)
            clear hs
            go_wp2_with fail
            go_round
            case rel => exact ⟨j + 1, by omega, rfl, by go_num, N2⟩
            case measure => simp [intOf]; omega
        · have hm : maxP P (gi A k) = true := (HM.out _ hlt).2 fun i hi hi' => by
            have := hN.out (i - (k + 1)) (by omega)
            rwa [show k + 1 + (i - (k + 1)) = i by omega] at this
          have E2 := hid (filter_succ_t hlt hm)
          clear hm
          go_wp2_with (at_builtin; refine wpList_push rfl _ _ rfl tI HS.out.own (.int .i64 (gi A k)) rfl (by simp; omega) rfl rfl ?_)
          intro v2 w2 hO2 hb2
          go_wp2_with fail
          go_roundw
          case rel => exact ⟨k + 1, v2, by omega, by go_num, rfl, by rw [E2.out, ints_append]; exact HS.out.mut hO2 hb2⟩
          case measure => simp [intOf]; omega
    · have E2 : Hid ((A.take k).filter (maxP P) = maxL P) := by show _ = _; rw [List.take_of_length_le (by omega)]; exact EA.out
      clear hS
      go_wp2_with fail
      go_ret
      exact ⟨_, rfl, by rw [← E2.out]; exact HS.out.sub (.cons_cons _ (.cons _ .slnil))⟩

end Go.Proofs.Ytjaofbdfhcgmeaa
