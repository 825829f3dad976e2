/-
  Faces of one size; the matrix of a border.
-/
import Derived.Test.YtjaofbdfhcgmeaaFaces
namespace Go.Proofs.Ytjaofbdfhcgmeaa
open Go.RowKit

def fosB (n : Int) (xs : List Int) (k : Int) : List Int := if isC n xs = true then rowTo (dn (mem xs)) k 64 else []
theorem fosB_rng (n : Int) (xs : List Int) (k : Int) : ∀ x ∈ fosB n xs k, 0 ≤ x ∧ x < 64 ∧ pc x = k := by
  unfold fosB
  split
  · intro x h; have := mem_rowTo.1 h; omega
  · simp
theorem fosB_len (n : Int) (xs : List Int) (k : Int) : (fosB n xs k).length ≤ 64 := by
  unfold fosB
  split
  · exact rowTo_len _ _ _
  · simp
theorem rowTo_none {P : Int → Bool} {k : Int} (h : k < 0 ∨ (sizesN P : Int) ≤ k) : rowTo P k 64 = [] := by
  refine List.eq_nil_iff_forall_not_mem.2 fun x hx => ?_
  have h1 := mem_rowTo.1 hx
  have h2 := pc_rng x
  have h3 := topN_ge (P := P) (s := 64) (t := x.toNat) (by omega) (by rw [Int.toNat_of_nonneg h1.1]; exact h1.2.2.1)
  rw [Int.toNat_of_nonneg h1.1] at h3
  have := sizesN_eq P
  omega
theorem facesB_filter (n : Int) (xs : List Int) (k : Int) : (facesB n xs).filter (fun x => pc x == k) = fosB n xs k := by
  unfold facesB fosB
  split
  · refine sorted_ext ((setsL_sorted _).sublist List.filter_sublist) (rowTo_sorted _ _ _) fun s => ?_
    rw [List.mem_filter, mem_setsL, mem_rowTo]
    simp only [beq_iff_eq]
    constructor
    · rintro ⟨⟨a, b, c⟩, d⟩; exact ⟨a, by omega, c, d⟩
    · rintro ⟨a, b, c, d⟩; exact ⟨⟨a, by omega, c⟩, d⟩
  · rfl

set_option maxHeartbeats 2000000 in
theorem FacesOfSize_c (n : Int) (va : Value) (xs : List Int) (k : Int) (w : World) (ha : Rd w va (ints xs)) : Calls Try.prog 144 #[cx n va, .int .i64 k] w fun e w' => ∃ v, e = .returned v ∧ St w w' [⟨v, 3, ints (fosB n xs k)⟩] := by
  obtain ⟨p1, l1, k1, rfl⟩ := ha.form
  have hS := (St.start w).box n (.slice p1 l1 k1) 30
  have ha' := hS.old ha
  have HS := hid hS
  clear hS
  cases h1 : isC n xs with
  | false =>
    have E : Hid (fosB n xs k = []) := by show _ = _; simp [fosB, h1]
    unfold cx
    go_enter Try.func144, Try.ntmps144
    go_wp2_with fail
    refine (IsComplex_c n _ xs _ ha').mono ?_
    rw [h1]
    rintro e w1 ⟨rfl, hB⟩
    have HS1 := hid (HS.out.quiet hB)
    clear hB
    go_wp2_with fail
    go_ret
    exact ⟨_, rfl, by rw [E.out]; exact HS1.out.tail.nilRow _⟩
  | true =>
    have E : Hid (fosB n xs k = rowTo (dn (mem xs)) k 64) := by show _ = _; simp [fosB, h1]
    have HR := hid (isC_iff.1 h1).rng
    unfold cx
    go_enter Try.func144, Try.ntmps144
    go_wp2_with fail
    refine (IsComplex_c n _ xs _ ha').mono ?_
    rw [h1]
    rintro e w1 ⟨rfl, hB⟩
    have HS1 := hid (HS.out.quiet hB)
    have d0 := HS1.out.hd.c0
    have d1 := HS1.out.hd.c1
    have ha1 := HS1.out.old ha
    clear hB h1
    go_wp2_with fail
    refine (facesIn_c n _ xs _ ha1 HR.out).mono ?_
    rintro e w2 ⟨rfl, hB⟩
    have HS2 := hid (HS1.out.quiet hB)
    clear hB
    go_wp2_with fail
    refine (bySize_c _ _).mono ?_
    generalize dn (mem xs) = P at *
    rintro e w3 ⟨u, vs, rfl, hvl, hS3⟩
    have HS3 := hid (HS2.out.callM hS3)
    have hM := hS3.rdM hvl
    have HL := hid hvl
    have lM := hM.ln
    have hsz : (bySz P).length = sizesN P := by simp [bySz]
    have hz7 := sizesN_le P
    rw [hsz] at lM
    by_cases hk : 0 ≤ k ∧ k < (sizesN P : Int)
    · obtain ⟨K, rfl⟩ : ∃ K : Nat, k = (K : Int) := ⟨k.toNat, by omega⟩
      have hK : K < (bySz P).length := by rw [hsz]; omega
      have f1 := hM.ix K hK
      have f2 := hM.cell K hK
      have hK2 : (K : Int) < (sizesN P : Int) := hk.2
      have EG : Hid (gr (bySz P) K = rowTo P (K : Int) 64) := bySzTo_get (by omega)
      clear hS3 hM hvl hk
      go_wp2_with fail
      go_ret
      have hS4 := HS3.out.pick HL.out hK
      rw [EG.out] at hS4
      exact ⟨gv vs K, rfl, by rw [E.out]; exact hS4.sub (.cons_cons _ (List.nil_sublist _))⟩
    · have EN : Hid (fosB n xs k = []) := by show _ = _; rw [E.out, rowTo_none (by omega)]
      clear hS3 hM hvl
      by_cases h0 : k < 0
      · clear hk
        go_wp2_with fail
        go_ret
        exact ⟨_, rfl, by rw [EN.out]; exact ((HS3.out.dropRows).nilRow _).sub (.cons_cons _ (List.nil_sublist _))⟩
      · have h2 : (sizesN P : Int) ≤ k := by omega
        clear hk
        go_wp2_with fail
        go_ret
        exact ⟨_, rfl, by rw [EN.out]; exact ((HS3.out.dropRows).nilRow _).sub (.cons_cons _ (List.nil_sublist _))⟩

set_option maxHeartbeats 2000000 in
theorem sFacesOfSize_c (n : Int) (va : Value) (xs : List Int) (k : Int) (w : World) (ha : Rd w va (ints xs)) : Calls Try.prog 42 #[cx n va, .int .i64 k] w fun e w' => ∃ v, e = .returned v ∧ St w w' [⟨v, 3, ints (fosB n xs k)⟩] := by
  obtain ⟨p1, l1, k1, rfl⟩ := ha.form
  have hS := ((St.start w).box n (.slice p1 l1 k1) 30).newAt #[] 3 (by simp) (H := w.heap.size + 1) (by simp)
  have ha' := hS.old ha
  have HS := hid hS
  clear hS
  have E := hid (facesB_filter n xs k)
  have HR := hid (facesB_rng n xs)
  have hFl := facesB_len n xs
  unfold cx
  go_enter Try.func42, Try.ntmps42
  go_wp2_with fail
  refine (sFacesOf_c n _ xs _ ha').mono ?_
  generalize facesB n xs = F at *
  rintro e w1 ⟨uf, rfl, hS1⟩
  have HS1 := hid (HS.out.call1 hS1)
  clear hS1
  have lf := HS1.out.hd.iln tI
  go_wp2_with fail
  go_loopw [5, 7] (fun o i wr => ∃ (j : Nat) (u : Value), j ≤ F.length ∧ i = .int .i64 j ∧ o = u ∧ St w wr [⟨u, 3, ints ((F.take j).filter fun x => pc x == k)⟩, ⟨uf, 3, ints F⟩]) (fun _ i _ => F.length - (intOf i).toNat)
  case atStart => exact ⟨0, _, by omega, rfl, rfl, HS1.out.swap.sub (.cons_cons _ (.cons_cons _ (List.nil_sublist _)))⟩
  case round =>
    obtain ⟨j, u, hj, rfl, rfl, hS⟩ := hrel
    have HS2 := hid hS
    by_cases hlt : j < F.length
    · have f1 := hS.hd2.iix tI j hlt
      have f2 := hS.hd2.intCell j hlt
      obtain ⟨r0, r1⟩ := gi_rng HR.out hlt
      have hll : ((F.take j).filter fun x => pc x == k).length ≤ 448 := by
        have := List.length_filter_le (fun x => pc x == k) (F.take j)
        have h2 : (F.take j).length ≤ 448 := by simp; omega
        omega
      have q0 : decide ((j : Int) < (F.length : Int)) = true := decide_eq_true (by omega)
      clear hS
      cases hp : pc (gi F j) == k with
      | true =>
        have E2 : Hid (((F.take (j + 1)).filter fun x => pc x == k) = ((F.take j).filter fun x => pc x == k) ++ [gi F j]) := filter_succ_t hlt hp
        go_wp2_with (first | (go_at_call 106; refine (l2Size_c _ _ (by omega) (by omega)).mono ?_; rintro e w' ⟨rfl, rfl⟩) | (at_builtin; refine wpList_push rfl _ _ rfl tI HS2.out.own (.int .i64 (gi F j)) rfl (by simp only [length_ints]; omega) rfl rfl ?_))
        intro v2 w2 hO2 hb2
        go_wp2_with fail
        go_roundw
        case rel => exact ⟨j + 1, v2, by omega, by go_num, rfl, by rw [E2.out, ints_append]; exact HS2.out.mut hO2 hb2⟩
        case measure => simp [intOf]; omega
      | false =>
        have E2 : Hid (((F.take (j + 1)).filter fun x => pc x == k) = ((F.take j).filter fun x => pc x == k)) := filter_succ_f hlt hp
        go_wp2_with (go_at_call 106; refine (l2Size_c _ _ (by omega) (by omega)).mono ?_; rintro e w' ⟨rfl, rfl⟩)
        go_roundw
        case rel => exact ⟨j + 1, _, by omega, by go_num, rfl, by rw [E2.out]; exact HS2.out⟩
        case measure => simp [intOf]; omega
    · have et : Hid (F.take j = F) := List.take_of_length_le (by omega)
      clear hS
      go_wp2_with fail
      go_ret
      exact ⟨_, rfl, by rw [← E.out, ← et.out]; rw [et.out]; have := HS2.out.sub (env' := [_]) (.cons_cons _ (List.nil_sublist _)); rw [et.out] at this; exact this⟩

/-! ### Signs -/

def sgnS (r s : Int) : Int := if sub r s = true then (if pc (bits .and .i64 s (s - r - 1)) % 2 = 0 then 1 else -1) else 0
theorem sgn_fin : ∀ r s : Fin 64, sub r.val s.val = true → r ≠ s → bits .andNot .i64 (s.val : Int) (r.val : Int) = (s.val : Int) - r.val ∧ 0 ≤ bits .and .i64 (s.val : Int) ((s.val : Int) - r.val - 1) ∧ bits .and .i64 (s.val : Int) ((s.val : Int) - r.val - 1) < 64 ∧ r.val < s.val := by decide +kernel
theorem sgn_facts {r s : Int} (r0 : 0 ≤ r) (r1 : r < 64) (s0 : 0 ≤ s) (s1 : s < 64) (h : sub r s = true) (hne : r ≠ s) : bits .andNot .i64 s r = s - r ∧ 0 ≤ bits .and .i64 s (s - r - 1) ∧ bits .and .i64 s (s - r - 1) < 64 ∧ r < s := by
  have hf := sgn_fin ⟨r.toNat, by omega⟩ ⟨s.toNat, by omega⟩
  simp only [Int.toNat_of_nonneg r0, Int.toNat_of_nonneg s0] at hf
  have := hf h (fun e => hne (by have := congrArg Fin.val e; simp only at this; omega))
  refine ⟨this.1, this.2.1, this.2.2.1, by have := this.2.2.2; omega⟩
theorem sgnS_rng (r s : Int) : -1 ≤ sgnS r s ∧ sgnS r s ≤ 1 := by unfold sgnS; split <;> (try split) <;> omega

set_option maxHeartbeats 1000000 in
theorem borderSign_c (r s : Int) (w : World) (r0 : 0 ≤ r) (r1 : r < 64) (s0 : 0 ≤ s) (s1 : s < 64) (hp : pc s = pc r + 1) : Calls Try.prog 175 #[.int .i64 r, .int .i64 s] w fun e w' => e = .returned (.int .i64 (sgnS r s)) ∧ w = w' := by
  have an := andNot_sub r0 r1 s0 s1
  cases hs : sub r s with
  | false =>
    rw [hs] at an
    have an' : (bits .andNot .i64 r s != 0) = true := by simpa [bne] using an
    have E : Hid (sgnS r s = 0) := by show _ = _; simp [sgnS, hs]
    clear an
    go_enter Try.func175, Try.ntmps175
    go_wp2_with fail
    go_ret
    exact ⟨by rw [E.out]; rfl, rfl⟩
  | true =>
    rw [hs] at an
    have an' : (bits .andNot .i64 r s != 0) = false := by simpa [bne] using an
    obtain ⟨h1, h2, h3, h4⟩ := sgn_facts r0 r1 s0 s1 hs (by rintro rfl; omega)
    have hpr := pc_rng (bits .and .i64 s (s - r - 1))
    by_cases hpar : pc (bits .and .i64 s (s - r - 1)) % 2 = 0
    · have E : Hid (sgnS r s = 1) := by show _ = _; rw [sgnS, if_pos hs, if_pos hpar]
      have q2 : Int.tmod (pc (bits .and .i64 s (s - r - 1))) 2 = 0 := by rw [Int.tmod_eq_emod_of_nonneg (by omega)]; exact hpar
      clear an hp hs hpar
      go_enter Try.func175, Try.ntmps175
      go_wp2_with (go_at_call 111; refine (SizeOf_s _ _ h2 h3).mono ?_; rintro e w' ⟨rfl, rfl⟩)
      go_ret
      exact ⟨by rw [E.out]; rfl, rfl⟩
    · have E : Hid (sgnS r s = -1) := by show _ = _; rw [sgnS, if_pos hs, if_neg hpar]
      have q2 : Int.tmod (pc (bits .and .i64 s (s - r - 1))) 2 = 1 := by rw [Int.tmod_eq_emod_of_nonneg (by omega)]; omega
      clear an hp hs hpar
      go_enter Try.func175, Try.ntmps175
      go_wp2_with (go_at_call 111; refine (SizeOf_s _ _ h2 h3).mono ?_; rintro e w' ⟨rfl, rfl⟩)
      go_ret
      exact ⟨by rw [E.out]; rfl, rfl⟩
set_option maxHeartbeats 1000000 in
theorem l13Sign_c (r s : Int) (w : World) (r0 : 0 ≤ r) (r1 : r < 64) (s0 : 0 ≤ s) (s1 : s < 64) (hp : pc s = pc r + 1) : Calls Try.prog 173 #[.int .i64 r, .int .i64 s] w fun e w' => e = .returned (.int .i64 (sgnS r s)) ∧ w = w' := by
  have an := and_sub r0 r1 s0 s1
  have hq1 := pc_rng r
  cases hs : sub r s with
  | false =>
    rw [hs] at an
    have an' : (bits .and .i64 r s != r) = true := by simpa [bne] using an
    have E : Hid (sgnS r s = 0) := by show _ = _; simp [sgnS, hs]
    clear an hp
    go_enter Try.func173, Try.ntmps173
    go_wp2_with fail
    go_ret
    exact ⟨by rw [E.out]; rfl, rfl⟩
  | true =>
    rw [hs] at an
    have an' : (bits .and .i64 r s != r) = false := by simpa [bne] using an
    obtain ⟨_, h2, h3, h4⟩ := sgn_facts r0 r1 s0 s1 hs (by rintro rfl; omega)
    have hpr := pc_rng (bits .and .i64 s (s - r - 1))
    by_cases hpar : pc (bits .and .i64 s (s - r - 1)) % 2 = 0
    · have E : Hid (sgnS r s = 1) := by show _ = _; rw [sgnS, if_pos hs, if_pos hpar]
      have q2 : Int.tmod (pc (bits .and .i64 s (s - r - 1))) 2 = 0 := by rw [Int.tmod_eq_emod_of_nonneg (by omega)]; exact hpar
      clear an hs hpar
      go_enter Try.func173, Try.ntmps173
      go_wp2_with (go_at_call 106; refine (l2Size_c _ _ (by first | exact s0 | exact r0 | exact h2) (by first | exact s1 | exact r1 | exact h3)).mono ?_; rintro e w' ⟨rfl, rfl⟩)
      go_ret
      exact ⟨by rw [E.out]; rfl, rfl⟩
    · have E : Hid (sgnS r s = -1) := by show _ = _; rw [sgnS, if_pos hs, if_neg hpar]
      have q2 : Int.tmod (pc (bits .and .i64 s (s - r - 1))) 2 = 1 := by rw [Int.tmod_eq_emod_of_nonneg (by omega)]; omega
      clear an hs hpar
      go_enter Try.func173, Try.ntmps173
      go_wp2_with (go_at_call 106; refine (l2Size_c _ _ (by first | exact s0 | exact r0 | exact h2) (by first | exact s1 | exact r1 | exact h3)).mono ?_; rintro e w' ⟨rfl, rfl⟩)
      go_ret
      exact ⟨by rw [E.out]; rfl, rfl⟩

end Go.Proofs.Ytjaofbdfhcgmeaa
