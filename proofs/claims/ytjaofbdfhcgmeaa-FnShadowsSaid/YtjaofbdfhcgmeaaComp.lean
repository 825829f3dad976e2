/-
  The compressed complex of face counts.
-/
import Derived.Test.YtjaofbdfhcgmeaaPoss
import Derived.Test.YtjaofbdfhcgmeaaFirst
import Derived.Test.YtjaofbdfhcgmeaaOf
namespace Go.Proofs.Ytjaofbdfhcgmeaa
open Go.RowKit

theorem fsTo_rng {k : Int} {m : Nat} : ∀ {s : Nat} {x : Int}, x ∈ fsTo k m s → 0 ≤ x ∧ x < s := by
  intro s
  induction s with
  | zero => intro x h; simp [fsTo] at h
  | succ s ih =>
    intro x h
    rw [fsTo] at h
    split at h
    · rcases List.mem_append.1 h with h | h
      · have := ih h; omega
      · have := List.mem_singleton.1 h; omega
    · have := ih h; omega
theorem fsB_rng {k m : Int} : ∀ x ∈ fsB k m, 0 ≤ x ∧ x < 64 := by
  intro x h
  unfold fsB at h
  split at h
  · exact fsTo_rng h
  · simp at h
theorem fsB_len64 (k m : Int) : (fsB k m).length ≤ 64 := by
  unfold fsB
  split
  · exact (fsTo_len _ _ _).2
  · simp
/-- The sets of the first j counts. -/
def cmpTo (xs : List Int) : Nat → List Int
  | 0 => []
  | j + 1 => cmpTo xs j ++ fsB (j : Int) (gi xs j)
theorem cmpTo_rng {xs : List Int} {j : Nat} : ∀ x ∈ cmpTo xs j, 0 ≤ x ∧ x < 64 := by
  induction j with
  | zero => intro x h; simp [cmpTo] at h
  | succ j ih =>
    intro x h
    rcases List.mem_append.1 h with h | h
    · exact ih x h
    · exact fsB_rng x h
theorem cmpTo_len (xs : List Int) (j : Nat) : (cmpTo xs j).length ≤ 64 * j := by
  induction j with
  | zero => simp [cmpTo]
  | succ j ih => have := fsB_len64 (j : Int) (gi xs j); rw [cmpTo, List.length_append]; omega
def CmpOk (xs : List Int) : Prop := Poss 1 afStep xs ∧ ∀ j, j < xs.length → gi xs j ≤ chooseB 6 (j : Int)
open Classical in
noncomputable def cmpB (xs : List Int) : Bool := decide (CmpOk xs)
theorem cmpB_t {xs : List Int} (h : CmpOk xs) : cmpB xs = true := by simp [cmpB, h]
theorem cmpB_f {xs : List Int} (h : ¬ CmpOk xs) : cmpB xs = false := by simp [cmpB, h]
def cmpL (xs : List Int) : List Int := maxL (mem (cmpTo xs xs.length))
theorem ints_one (xs : List Int) : ∀ u ∈ ints xs, u.oneCell' = true := fun u h => by
  obtain ⟨x, _, rfl⟩ := List.mem_map.1 h; rfl
theorem fam_mem_app (L N : List Int) : bits .or .u64 (fam (mem L)) (fam (mem N)) = fam (mem (L ++ N)) := by
  rw [fam_or]
  exact fam_congr fun s _ _ => bool_ext (by simp [mem_iff])

set_option maxHeartbeats 1000000 in
theorem familyOf_c (va : Value) (xs : List Int) (w : World) (ha : Rd w va (ints xs)) (hx : ∀ x ∈ xs, 0 ≤ x ∧ x < 64) : Calls Try.prog 103 #[va] w fun e w' => e = .returned (.tuple #[.int .u64 (fam (mem xs)), .bool true]) ∧ w = w' := by
  have la := ha.iln tI
  have ll := ha.ile
  have HX := hid hx
  have E0 : Hid (fam (mem (xs.take 0)) = 0) := by show _ = _; exact fam_none' fun s _ _ => by simp [mem_nil]
  clear hx
  go_enter Try.func103, Try.ntmps103
  go_wp2_with fail
  go_loop [4, 9] (fun f i => ∃ (j : Nat), j ≤ xs.length ∧ i = .int .i64 j ∧ f = .int .u64 (fam (mem (xs.take j)))) (fun _ i => xs.length - (intOf i).toNat)
  case atStart => exact ⟨0, by omega, rfl, by rw [E0.out]⟩
  case round =>
    obtain ⟨j, hj, rfl, rfl⟩ := hrel
    by_cases hlt : j < xs.length
    · have f1 := ha.iix tI j hlt
      have f2 := ha.intCell j hlt
      obtain ⟨r0, r1⟩ := gi_rng HX.out hlt
      have i1 : isSetB 6 (gi xs j) = true := by rw [isSet6]; exact set64_iff.2 ⟨r0, r1⟩
      have e2 : bits .or .u64 (fam (mem (xs.take j))) (IntKind.u64.wrap (2 ^ (gi xs j).toNat)) = fam (mem (xs.take (j + 1))) := by
        rw [fam_add _ r0 r1]
        exact fam_congr fun s _ _ => (mem_succ hlt s).symm
      have E2 := hid e2; clear e2
      go_wp2_with (go_at_call 125; refine (IsSet_c _ _ _).mono ?_; rintro e w' ⟨rfl, rfl⟩)
      go_round
      case rel => exact ⟨j + 1, by omega, by go_num, by rw [← E2.out]⟩
      case measure => simp [intOf]; omega
    · have E2 : Hid (xs.take j = xs) := List.take_of_length_le (by omega)
      go_wp2_with fail
      go_ret2
      rw [E2.out]
      exact ⟨rfl, rfl⟩

set_option maxHeartbeats 4000000 in
theorem CompressedComplex_c (va : Value) (xs : List Int) (w : World) (ha : Rd w va (ints xs)) : Calls Try.prog 12 #[va] w fun e w' =>
    ∃ u, e = .returned (.tuple #[cx (resN (cmpB xs) 6) u, .bool (cmpB xs)]) ∧ St w w' [⟨u, 3, ints (resL (cmpB xs) (cmpL xs))⟩] := by
  have hS := (St.start w).boxAt 0 (.slice none 0 0) 30 (H := w.heap.size) rfl
  have ha' := hS.old ha
  have HS := hid hS
  clear hS
  cases h1 : possB 1 afStep xs with
  | false =>
    have E : cmpB xs = false := cmpB_f fun h => by rw [possB_t h.1] at h1; cases h1
    rw [E]
    clear E
    go_enter Try.func12, Try.ntmps12
    go_wp2_with fail
    refine (AreFaceCounts_c _ xs _ ha').mono ?_
    rw [h1]
    rintro e w1 ⟨rfl, hB⟩
    have HS1 := hid (HS.out.quiet hB)
    have d0 := HS1.out.hd.c0
    have d1 := HS1.out.hd.c1
    have s0 : w1.frozen? ⟨w.heap.size, 0, none⟩ = false := HS1.out.own.free (v := bx (w.heap.size)) (.head _) 0 (by simp)
    have s1 : w1.frozen? ⟨w.heap.size, 1, none⟩ = false := HS1.out.own.free (v := bx (w.heap.size)) (.head _) 1 (by simp)
    clear hB h1
    go_wp2_with fail
    have hS6 := (HS1.out.set 0 (by simp) (.int .i64 0)).set 1 (by simp) (.slice none 0 0)
    exact bodyPost_ret (ret_cx2 rfl rfl rfl hS6.hd) rfl ⟨.slice none 0 0, rfl, (hS6.sub (.cons _ .slnil)).nilRow _⟩
  | true =>
    have HP : Hid (Poss 1 afStep xs) := by
      show Poss _ _ _
      refine Classical.byContradiction fun h => ?_
      rw [possB_f h] at h1; cases h1
    have h7 := HP.out.2.1
    obtain ⟨B, hB0⟩ : ∃ B, B = cmpB xs := ⟨_, rfl⟩
    rw [← hB0]
    have HBB := hid hB0
    clear hB0
    go_enter Try.func12, Try.ntmps12
    go_wp2_with fail
    refine (AreFaceCounts_c _ xs _ ha').mono ?_
    rw [h1]
    rintro e w1 ⟨rfl, hB⟩
    have HS1 := hid (HS.out.quiet hB)
    have ha1 := HS1.out.old ha
    have la := ha1.iln tI
    have E0 : Hid (fam (mem (cmpTo xs 0)) = 0) := by show _ = _; exact fam_none' fun s _ _ => by simp [cmpTo, mem_nil]
    clear hB h1
    go_wp2_with fail
    go_loopw [4, 15] (fun f i wr => ∃ (j : Nat), j ≤ xs.length ∧ i = .int .i64 j ∧ f = .int .u64 (fam (mem (cmpTo xs j))) ∧ St w wr [⟨bx w.heap.size, 30, [.int .i64 0, .slice none 0 0]⟩] ∧ Hid (∀ i, i < j → gi xs i ≤ chooseB 6 (i : Int))) (fun _ i _ => xs.length - (intOf i).toNat)
    case atStart => exact ⟨0, by omega, rfl, by rw [E0.out], HS1.out, fun i h => by omega⟩
    case round =>
      obtain ⟨j, hj, rfl, rfl, hS, hN⟩ := hrel
      have ha2 := hS.old ha
      have la2 := ha2.iln tI
      have HS2 := hid hS
      by_cases hlt : j < xs.length
      · have f1 := ha2.iix tI j hlt
        have f2 := ha2.intCell j hlt
        by_cases hm : chooseB 6 (j : Int) < gi xs j
        · have E : B = false := by rw [HBB.out]; exact cmpB_f fun h => by have := h.2 j hlt; omega
          have d0 := hS.hd.c0
          have d1 := hS.hd.c1
          have s0 : wr.frozen? ⟨w.heap.size, 0, none⟩ = false := hS.own.free (v := bx (w.heap.size)) (.head _) 0 (by simp)
          have s1 : wr.frozen? ⟨w.heap.size, 1, none⟩ = false := hS.own.free (v := bx (w.heap.size)) (.head _) 1 (by simp)
          have HE := hid E
          clear hS E
          go_wp2_with (go_at_call 102; refine (Choose_c _ _ _).mono ?_; rintro e w' ⟨rfl, rfl⟩)
          have hS6 := (HS2.out.set 0 (by simp) (.int .i64 0)).set 1 (by simp) (.slice none 0 0)
          refine bodyPost_ret (ret_cx2 rfl rfl rfl hS6.hd) rfl ⟨.slice none 0 0, ?_, ?_⟩
          · rw [HE.out]; rfl
          · rw [HE.out]; exact (hS6.sub (.cons _ .slnil)).nilRow _
        · have N2 : Hid (∀ i, i < j + 1 → gi xs i ≤ chooseB 6 (i : Int)) := fun i hi => by
            by_cases e : i = j
            · subst e; omega
            · exact hN.out i (by omega)
          clear hS
          go_wp2_with (go_at_call 102; refine (Choose_c _ _ _).mono ?_; rintro e w' ⟨rfl, rfl⟩)
          refine (FirstSets_c _ _ _).mono ?_
          rintro e w3 ⟨v3, rfl, hS3⟩
          have HS4 := hid (HS2.out.call1 hS3)
          clear hS3
          go_wp2_with fail
          refine (familyOf_c _ _ _ HS4.out.hd fsB_rng).mono ?_
          rintro e w4 ⟨rfl, rfl⟩
          have E2 : Hid (bits .or .u64 (fam (mem (cmpTo xs j))) (fam (mem (fsB (j : Int) (gi xs j)))) = fam (mem (cmpTo xs (j + 1)))) := fam_mem_app _ _
          go_wp2_with fail
          go_roundw
          case rel => exact ⟨j + 1, by omega, by go_num, by rw [E2.out], HS4.out.tail, N2⟩
          case measure => simp [intOf]; omega
      · have E : B = true := by rw [HBB.out]; exact cmpB_t ⟨HP.out, fun i hi => hN.out i (by omega)⟩
        have ej : j = xs.length := by omega
        have HE := hid E
        have HJ := hid ej
        clear hS E ej
        go_wp2_with fail
        refine (complexOf_c _ _ _).mono ?_
        rw [HJ.out]
        rintro e w4 ⟨v2, rfl, hS4⟩
        have hS5 := HS2.out.call1 hS4
        obtain ⟨p, l, c, rfl⟩ := hS5.hd.form
        have i0 := hS5.hd2.c0
        have i1 := hS5.hd2.c1
        have s0 : w4.frozen? ⟨w.heap.size, 0, none⟩ = false := hS5.own.free (v := bx (w.heap.size)) (.tail _ (.head _)) 0 (by simp)
        have s1 : w4.frozen? ⟨w.heap.size, 1, none⟩ = false := hS5.own.free (v := bx (w.heap.size)) (.tail _ (.head _)) 1 (by simp)
        have HS5 := hid hS5
        clear hS5 hS4
        unfold cx
        go_wp2_with fail
        have hS6 := ((HS5.out.bring (l1 := [_])).set 0 (by simp) (.int .i64 6)).set 1 (by simp) (.slice p l c)
        refine bodyPost_ret (ret_cx2 rfl rfl rfl hS6.hd) rfl ⟨.slice p l c, ?_, ?_⟩
        · rw [HE.out]; rfl
        · rw [HE.out]; exact hS6.sub (.cons _ (.cons_cons _ .slnil))

set_option maxHeartbeats 4000000 in
theorem sCompressedComplex_c (va : Value) (xs : List Int) (w : World) (ha : Rd w va (ints xs)) : Calls Try.prog 13 #[va] w fun e w' =>
    ∃ u, e = .returned (.tuple #[cx (resN (cmpB xs) 6) u, .bool (cmpB xs)]) ∧ St w w' [⟨u, 3, ints (resL (cmpB xs) (cmpL xs))⟩] := by
  have hS := (St.start w).boxAt 0 (.slice none 0 0) 30 (H := w.heap.size) rfl
  have ha' := hS.old ha
  have HS := hid hS
  clear hS
  cases h1 : possB 1 afStep xs with
  | false =>
    have E : cmpB xs = false := cmpB_f fun h => by rw [possB_t h.1] at h1; cases h1
    rw [E]
    clear E
    go_enter Try.func13, Try.ntmps13
    go_wp2_with fail
    refine (sAreFaceCounts_c _ xs _ ha').mono ?_
    rw [h1]
    rintro e w1 ⟨rfl, hB⟩
    have HS1 := hid (HS.out.quiet hB)
    have d0 := HS1.out.hd.c0
    have d1 := HS1.out.hd.c1
    have s0 : w1.frozen? ⟨w.heap.size, 0, none⟩ = false := HS1.out.own.free (v := bx (w.heap.size)) (.head _) 0 (by simp)
    have s1 : w1.frozen? ⟨w.heap.size, 1, none⟩ = false := HS1.out.own.free (v := bx (w.heap.size)) (.head _) 1 (by simp)
    clear hB h1
    go_wp2_with fail
    have hS6 := (HS1.out.set 0 (by simp) (.int .i64 0)).set 1 (by simp) (.slice none 0 0)
    exact bodyPost_ret (ret_cx2 rfl rfl rfl hS6.hd) rfl ⟨.slice none 0 0, rfl, (hS6.sub (.cons _ .slnil)).nilRow _⟩
  | true =>
    have HP : Hid (Poss 1 afStep xs) := by
      show Poss _ _ _
      refine Classical.byContradiction fun h => ?_
      rw [possB_f h] at h1; cases h1
    have h7 := HP.out.2.1
    obtain ⟨B, hB0⟩ : ∃ B, B = cmpB xs := ⟨_, rfl⟩
    rw [← hB0]
    have HBB := hid hB0
    clear hB0
    go_enter Try.func13, Try.ntmps13
    go_wp2_with fail
    refine (sAreFaceCounts_c _ xs _ ha').mono ?_
    rw [h1]
    rintro e w1 ⟨rfl, hB⟩
    have HS1 := hid (HS.out.quiet hB)
    clear hB h1
    go_wp2_with fail
    go_loopw [4, 5] (fun o i wr => ∃ (j : Nat) (u : Value), j ≤ xs.length ∧ i = .int .i64 j ∧ o = u ∧ St w wr [⟨u, 3, ints (cmpTo xs j)⟩, ⟨bx w.heap.size, 30, [.int .i64 0, .slice none 0 0]⟩] ∧ Hid (∀ i, i < j → gi xs i ≤ chooseB 6 (i : Int))) (fun _ i _ => xs.length - (intOf i).toNat)
    case atStart => exact ⟨0, _, by omega, rfl, rfl, HS1.out.newAt #[] _ (by simp) rfl, fun i h => by omega⟩
    case round =>
      obtain ⟨j, u, hj, rfl, rfl, hS, hN⟩ := hrel
      obtain ⟨wo, rfl⟩ : ∃ wo : World, wo = wr := ⟨_, rfl⟩
      have ha2 := hS.old ha
      have la := ha2.iln tI
      have HS2 := hid hS
      have hcl := cmpTo_len xs j
      have hfl := fsB_len64 (j : Int) (gi xs j)
      by_cases hlt : j < xs.length
      · have f1 := ha2.iix tI j hlt
        have f2 := ha2.intCell j hlt
        by_cases hm : chooseB 6 (j : Int) < gi xs j
        · have E : B = false := by rw [HBB.out]; exact cmpB_f fun h => by have := h.2 j hlt; omega
          have d0 := hS.hd2.c0
          have d1 := hS.hd2.c1
          have s0 : wo.frozen? ⟨w.heap.size, 0, none⟩ = false := hS.own.free (v := bx (w.heap.size)) (.tail _ (.head _)) 0 (by simp)
          have s1 : wo.frozen? ⟨w.heap.size, 1, none⟩ = false := hS.own.free (v := bx (w.heap.size)) (.tail _ (.head _)) 1 (by simp)
          have HE := hid E
          clear hS E
          go_wp2_with fail
          go_quiet ((go_at_call 26; exact quiet_same (sChoose_c _ _ _)))
          go_wp2_with fail
          have hS6 := (((HS2.out.drewN nq).bring (l1 := [_])).set 0 (by simp) (.int .i64 0)).set 1 (by simp) (.slice none 0 0)
          refine bodyPost_ret (ret_cx2 rfl rfl rfl hS6.hd) rfl ⟨.slice none 0 0, ?_, ?_⟩
          · rw [HE.out]; rfl
          · rw [HE.out]; exact (hS6.sub (.cons _ (.cons _ .slnil))).nilRow _
        · have N2 : Hid (∀ i, i < j + 1 → gi xs i ≤ chooseB 6 (i : Int)) := fun i hi => by
            by_cases e : i = j
            · subst e; omega
            · exact hN.out i (by omega)
          clear hS
          go_wp2_with fail
          go_quiet ((go_at_call 26; exact quiet_same (sChoose_c _ _ _)))
          have HS3 := hid (HS2.out.drewN nq)
          have g1 := (ha2.drew nq).iix tI j hlt
          have g2 := (ha2.drew nq).intCell j hlt
          go_wp2_with fail
          refine (sFirstSets_c _ _ _).mono ?_
          rintro e w3 ⟨v3, rfl, hS3⟩
          have HS4 := hid (HS3.out.call1 hS3)
          clear hS3
          go_wp2_with (at_builtin; refine wpList_app rfl _ _ rfl tI HS4.out.swap.own HS4.out.hd (ints_one _) (by simp; omega) rfl rfl ?_)
          intro v5 w5 hO5 hb5
          rw [← ints_append] at hO5
          have HS5 := hid (HS4.out.mut hO5 hb5)
          clear hO5 hb5
          go_wp2_with fail
          go_roundw
          case rel => exact ⟨j + 1, v5, by omega, by go_num, rfl, HS5.out.sub (.cons_cons _ (.cons _ (.cons_cons _ .slnil))), N2⟩
          case measure => simp [intOf]; omega
      · have E : B = true := by rw [HBB.out]; exact cmpB_t ⟨HP.out, fun i hi => hN.out i (by omega)⟩
        have ej : j = xs.length := by omega
        have HE := hid E
        have HJ := hid ej
        clear hS E ej
        go_wp2_with fail
        refine (l3Make_c _ _ _ _ HS2.out.hd cmpTo_rng).mono ?_
        rw [HJ.out]
        rintro e w4 ⟨v2, rfl, hS4⟩
        have hS5 := HS2.out.call1 hS4
        obtain ⟨p, l, c, rfl⟩ := hS5.hd.form
        have i0 := hS5.hd3.c0
        have i1 := hS5.hd3.c1
        have s0 : w4.frozen? ⟨w.heap.size, 0, none⟩ = false := hS5.own.free (v := bx (w.heap.size)) (.tail _ (.tail _ (.head _))) 0 (by simp)
        have s1 : w4.frozen? ⟨w.heap.size, 1, none⟩ = false := hS5.own.free (v := bx (w.heap.size)) (.tail _ (.tail _ (.head _))) 1 (by simp)
        have HS5 := hid hS5
        clear hS5 hS4
        unfold cx
        go_wp2_with fail
        have hS6 := ((HS5.out.bring (l1 := [_, _])).set 0 (by simp) (.int .i64 6)).set 1 (by simp) (.slice p l c)
        refine bodyPost_ret (ret_cx2 rfl rfl rfl hS6.hd) rfl ⟨.slice p l c, ?_, ?_⟩
        · rw [HE.out]; rfl
        · rw [HE.out]; exact hS6.sub (.cons _ (.cons_cons _ (.cons _ .slnil)))

end Go.Proofs.Ytjaofbdfhcgmeaa
