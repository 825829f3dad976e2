/-
  What the laws draw: a complex, h numbers, two numbers for a binomial coefficient.
-/
import Derived.Test.YtoaggenighfhpaaBent
import Derived.Test.YtoaggenighfhpaaH
namespace Go.Proofs.Ytoaggenighfhpaa
open Go.RowKit

set_option maxHeartbeats 1000000 in
set_option maxRecDepth 100000 in
theorem DrawHNumbers_c (vb : Value) (bs : List Int) (w : World) (hb : Rd w vb (byts bs)) : Calls Try.prog 7 #[vb] w fun e w' => ∃ n v fs, e = .returned (cx n v) ∧ fs.length ≤ 1002 ∧ St w w' [⟨v, 3, ints fs⟩] := by
  have HS := hid ((St.start w).box 0 (.slice none 0 0) 26)
  have HB := hid hb
  clear hb
  go_enter Try.func7, Try.ntmps7
  go_wp2_with fail
  refine (l1New_c vb bs w _ _ HS.out HB.out).mono ?_
  rintro e w1 ⟨g, rfl, hC⟩
  have HC := hid hC
  clear hC
  go_wp2_with fail
  refine (l3Bent_c g vb bs w _ _ HC.out).mono ?_
  rintro e w2 ⟨n, v, fs, rfl, hl, hC1⟩
  obtain ⟨p, l, c, rfl⟩ := hC1.hd.form
  have d0 := hC1.tail.hd.c0
  have d1 := hC1.tail.hd.c1
  have s0 : w2.frozen? ⟨w.heap.size, 0, none⟩ = false := hC1.free (v := bx w.heap.size) (.tail _ (.head _)) 0 (by simp)
  have s1 : w2.frozen? ⟨w.heap.size, 1, none⟩ = false := hC1.free (v := bx w.heap.size) (.tail _ (.head _)) 1 (by simp)
  have HC1 := hid hC1
  clear hC1
  unfold cx
  go_wp2_with fail
  have hC6 := (HC1.out.swap.set 0 (by simp) (.int .i64 n)).set 1 (by simp) (.slice p l c)
  exact bodyPost_ret (ret_cx rfl rfl hC6.hd) rfl ⟨_, _, fs, rfl, hl, hC6.tail.st⟩

set_option maxHeartbeats 1000000 in
set_option maxRecDepth 100000 in
theorem DrawMissingSets_c (vb : Value) (bs : List Int) (w : World) (hb : Rd w vb (byts bs)) : Calls Try.prog 25 #[vb] w fun e w' => ∃ n v fs, e = .returned (cx n v) ∧ fs.length ≤ 1002 ∧ St w w' [⟨v, 3, ints fs⟩] := by
  have HS := hid ((St.start w).box 0 (.slice none 0 0) 26)
  have HB := hid hb
  clear hb
  go_enter Try.func25, Try.ntmps25
  go_wp2_with fail
  refine (l1New_c vb bs w _ _ HS.out HB.out).mono ?_
  rintro e w1 ⟨g, rfl, hC⟩
  have HC := hid hC
  clear hC
  go_wp2_with fail
  refine (l3Bent_c g vb bs w _ _ HC.out).mono ?_
  rintro e w2 ⟨n, v, fs, rfl, hl, hC1⟩
  obtain ⟨p, l, c, rfl⟩ := hC1.hd.form
  have d0 := hC1.tail.hd.c0
  have d1 := hC1.tail.hd.c1
  have s0 : w2.frozen? ⟨w.heap.size, 0, none⟩ = false := hC1.free (v := bx w.heap.size) (.tail _ (.head _)) 0 (by simp)
  have s1 : w2.frozen? ⟨w.heap.size, 1, none⟩ = false := hC1.free (v := bx w.heap.size) (.tail _ (.head _)) 1 (by simp)
  have HC1 := hid hC1
  clear hC1
  unfold cx
  go_wp2_with fail
  have hC6 := (HC1.out.swap.set 0 (by simp) (.int .i64 n)).set 1 (by simp) (.slice p l c)
  exact bodyPost_ret (ret_cx rfl rfl hC6.hd) rfl ⟨_, _, fs, rfl, hl, hC6.tail.st⟩

set_option maxHeartbeats 1000000 in
set_option maxRecDepth 100000 in
theorem DrawDualOf_c (vb : Value) (bs : List Int) (w : World) (hb : Rd w vb (byts bs)) : Calls Try.prog 45 #[vb] w fun e w' => ∃ n v fs, e = .returned (cx n v) ∧ fs.length ≤ 1002 ∧ St w w' [⟨v, 3, ints fs⟩] := by
  have HS := hid ((St.start w).box 0 (.slice none 0 0) 26)
  have HB := hid hb
  clear hb
  go_enter Try.func45, Try.ntmps45
  go_wp2_with fail
  refine (l1New_c vb bs w _ _ HS.out HB.out).mono ?_
  rintro e w1 ⟨g, rfl, hC⟩
  have HC := hid hC
  clear hC
  go_wp2_with fail
  refine (l3Bent_c g vb bs w _ _ HC.out).mono ?_
  rintro e w2 ⟨n, v, fs, rfl, hl, hC1⟩
  obtain ⟨p, l, c, rfl⟩ := hC1.hd.form
  have d0 := hC1.tail.hd.c0
  have d1 := hC1.tail.hd.c1
  have s0 : w2.frozen? ⟨w.heap.size, 0, none⟩ = false := hC1.free (v := bx w.heap.size) (.tail _ (.head _)) 0 (by simp)
  have s1 : w2.frozen? ⟨w.heap.size, 1, none⟩ = false := hC1.free (v := bx w.heap.size) (.tail _ (.head _)) 1 (by simp)
  have HC1 := hid hC1
  clear hC1
  unfold cx
  go_wp2_with fail
  have hC6 := (HC1.out.swap.set 0 (by simp) (.int .i64 n)).set 1 (by simp) (.slice p l c)
  exact bodyPost_ret (ret_cx rfl rfl hC6.hd) rfl ⟨_, _, fs, rfl, hl, hC6.tail.st⟩


theorem l1Max_c (a b : Int) (w : World) : Calls Try.prog 62 #[.int .i64 a, .int .i64 b] w fun e w' => e = .returned (.int .i64 (max a b)) ∧ w = w' := by
  by_cases h : b < a
  · have E : Hid (max a b = a) := by show _ = _; omega
    go_enter Try.func62, Try.ntmps62
    go_wp2_with fail
    go_ret
    exact ⟨by rw [E.out]; rfl, rfl⟩
  · have E : Hid (max a b = b) := by show _ = _; omega
    go_enter Try.func62, Try.ntmps62
    go_wp2_with fail
    go_ret
    exact ⟨by rw [E.out]; rfl, rfl⟩
theorem l1Bit_c (b : Bool) (w : World) : Calls Try.prog 63 #[.bool b] w fun e w' => e = .returned (.int .i64 (if b = true then 1 else 0)) ∧ w = w' := by
  cases b
  · go_enter Try.func63, Try.ntmps63
    go_wp2_with fail
    go_ret
    exact ⟨rfl, rfl⟩
  · go_enter Try.func63, Try.ntmps63
    go_wp2_with fail
    go_ret
    exact ⟨rfl, rfl⟩

def twoRet (e : Ending) : Prop := ∃ n k, e = .returned (.tuple #[.int .i64 n, .int .i64 k])
set_option maxHeartbeats 2000000 in
set_option maxRecDepth 100000 in
theorem DrawChoose_c (vb : Value) (bs : List Int) (w : World) (hb : Rd w vb (byts bs)) : Calls Try.prog 10 #[vb] w fun e w' => twoRet e ∧ Below w.heap.size w w' := by
  have HS := hid (St.start w)
  have HB := hid hb
  clear hb
  go_enter Try.func10, Try.ntmps10
  go_wp2_with fail
  refine (l1New_c vb bs w _ _ HS.out HB.out).mono ?_
  rintro e w1 ⟨g, rfl, hC⟩
  have HC := hid hC
  clear hC
  go_wp2_with fail
  refine (l1Below_c _ g vb bs w _ _ HC.out).mono ?_
  rintro e w2 ⟨x, rfl, hx, hC⟩
  have HX := hid (hx.rng (by omega))
  have HC2 := hid hC
  clear hC hx
  go_wp2_with fail
  refine (l1Below_c _ g vb bs w _ _ HC2.out).mono ?_
  rintro e w3 ⟨y, rfl, hy, hC⟩
  have HY := hid (hy.rng (by omega))
  have HC3 := hid (hC.newAt #[.int .i64 x, .int .i64 y, .int .i64 (-1), .int .i64 61, .int .i64 60] 3 (by simp [maxLen]) (H := w3.heap.size) rfl)
  clear hC hy
  go_wp2_with fail
  refine (l1PickInt_c _ [x, y, -1, 61, 60] g vb bs w _ _ (.head _) (by simp) HC3.out).mono ?_
  rintro e w4 ⟨m, rfl, hm, hC⟩
  have hmr : -1 ≤ m ∧ m ≤ 61 := by
    have h1 := HX.out
    have h2 := HY.out
    simp at hm
    omega
  obtain ⟨m0, m1⟩ := hmr
  have HC4 := hid hC
  clear hC hm
  have g1 : IntKind.i64.wrap (m + 2) = m + 2 := IntWalk.i64_in _ (by omega)
  have hz : 1 ≤ max 1 (m + 2) ∧ max 1 (m + 2) ≤ 63 := by omega
  obtain ⟨z, hz'⟩ : ∃ z, max 1 (m + 2) = z := ⟨_, rfl⟩
  rw [hz'] at hz
  have HZ := hid hz'
  clear hz'
  go_wp2_with (go_at_call 62; refine (l1Max_c _ _ _).mono ?_; rw [HZ.out]; rintro e w' ⟨rfl, rfl⟩)
  refine (l1Below_c _ g vb bs w _ _ HC4.out).mono ?_
  rintro e w5 ⟨t, rfl, ht, hC⟩
  obtain ⟨t0, t1⟩ := ht.rng (by omega)
  have HC5 := hid hC
  clear hC ht g1
  go_wp2_with fail
  refine (l1Once_c _ g vb bs w _ _ HC5.out).mono ?_
  rintro e w6 ⟨b, rfl, hC⟩
  have HC6 := hid hC
  clear hC
  cases b with
  | false =>
    go_wp2_with (go_at_call 63; refine (l1Bit_c false _).mono ?_; rintro e w' ⟨rfl, rfl⟩)
    go_ret2
    exact ⟨⟨_, _, rfl⟩, HC6.out.st.bel⟩
  | true =>
    go_wp2_with (go_at_call 63; refine (l1Bit_c true _).mono ?_; rintro e w' ⟨rfl, rfl⟩)
    go_ret2
    exact ⟨⟨_, _, rfl⟩, HC6.out.st.bel⟩

set_option maxHeartbeats 2000000 in
set_option maxRecDepth 100000 in
theorem DrawCountsFromH_c (vb : Value) (bs : List Int) (w : World) (hb : Rd w vb (byts bs)) : Calls Try.prog 9 #[vb] w fun e w' => ∃ v xs, e = .returned v ∧ xs.length ≤ 8 ∧ St w w' [⟨v, 3, ints xs⟩] := by
  have HS := hid (St.start w)
  have HB := hid hb
  clear hb
  go_enter Try.func9, Try.ntmps9
  go_wp2_with fail
  refine (l1New_c vb bs w _ _ HS.out HB.out).mono ?_
  rintro e w1 ⟨g, rfl, hC⟩
  have HC := hid hC
  clear hC
  go_wp2_with fail
  refine (l3Draw_c g vb bs w _ _ HC.out).mono ?_
  rintro e w2 ⟨n, v, fs, rfl, hl, hC⟩
  have hrd := hC.hd
  have HC2 := hid hC
  clear hC
  go_wp2_with fail
  refine (sHNumbers_c n _ fs _ hrd).mono ?_
  rintro e w3 ⟨u, rfl, hS⟩
  have HC3 := hid (HC2.out.call1 hS)
  obtain ⟨h, hh⟩ : ∃ h, h = hB n fs := ⟨_, rfl⟩
  have h7 : h.length ≤ 7 := by rw [hh]; exact hB_len n fs
  rw [← hh] at HC3
  clear hS hh hrd
  go_wp2_with fail
  refine (l1Once_c _ g vb bs w _ _ HC3.out).mono ?_
  rintro e w4 ⟨b, rfl, hC⟩
  cases b with
  | false =>
    have HC4 := hid hC
    clear hC
    have la := HC4.out.hd.iln tI
    by_cases h0 : 0 < h.length
    · go_wp2_with fail
      refine (l1Once_c _ g vb bs w _ _ HC4.out).mono ?_
      rintro e w7 ⟨b2, rfl, hC⟩
      cases b2 with
      | false =>
        have HC8 := hid hC
        clear hC
        go_wp2_with fail
        go_ret
        exact ⟨_, h, rfl, (by omega), HC8.out.st.sub (.cons_cons _ (List.nil_sublist _))⟩
      | true =>
        have HC8 := hid (hC.newAt #[.int .i64 1000, .int .i64 1001, .int .i64 (-1001)] 3 (by simp [maxLen]) (H := w7.heap.size) rfl)
        clear hC
        go_wp2_with fail
        refine (l1PickInt_c _ [1000, 1001, -1001] g vb bs w _ _ (.head _) (by simp) HC8.out).mono ?_
        rintro e w8 ⟨x, rfl, hx, hC⟩
        have hC6 := hC.tail
        have f1 : ∀ w' : World, (Instr.indexAt 24 _ (.int .i64 0)).run Try.prog w' = .ok (.pointer (some (adr _ 0))) w' := hC6.hd.iix tI 0 (by omega)
        have f2 := hC6.hd.intCell 0 (by omega)
        have f3 := hC6.free (.head _) 0 (by simp; omega)
        have HC9 := hid hC6
        clear hC hC6 hx
        go_wp2_with fail
        go_ret
        have hC7 := HC9.out.set 0 (by simp; omega) (.int .i64 x)
        rw [ints_set] at hC7
        exact ⟨_, _, rfl, by simp; omega, hC7.st.sub (.cons_cons _ (List.nil_sublist _))⟩
    · go_wp2_with fail
      go_ret
      exact ⟨_, h, rfl, (by omega), HC4.out.st.sub (.cons_cons _ (List.nil_sublist _))⟩
  | true =>
    have HC4 := hid hC
    clear hC
    go_wp2_with fail
    refine (l1Below_c _ g vb bs w _ _ HC4.out).mono ?_
    rintro e w5 ⟨z, rfl, hz, hC⟩
    obtain ⟨z0, z1⟩ := hz.rng (by omega)
    have g1 : IntKind.i64.wrap (z - 2) = z - 2 := IntWalk.i64_in _ (by omega)
    obtain ⟨c, hS, hback⟩ := hC.open
    have HS := hid hS.swap
    have HBK := hid hback
    clear hS hback hC hz
    go_wp2_with (at_builtin; refine wpList_push rfl _ _ rfl tI HS.out.own (.int .i64 (z - 2)) rfl (by simp; omega) rfl rfl ?_)
    intro v4 w6 hO4 hb4
    rw [ints_snoc] at hO4
    have HC5 := hid (HBK.out _ _ (HS.out.mut hO4 hb4).swap)
    obtain ⟨h', hh'⟩ : ∃ h', h' = h ++ [z - 2] := ⟨_, rfl⟩
    have h8 : h'.length ≤ 8 := by rw [hh']; simp; omega
    rw [← hh'] at HC5
    clear hO4 hb4 hh' g1
    have la := HC5.out.hd.iln tI
    by_cases h0 : 0 < h'.length
    · go_wp2_with fail
      refine (l1Once_c _ g vb bs w _ _ HC5.out).mono ?_
      rintro e w7 ⟨b2, rfl, hC⟩
      cases b2 with
      | false =>
        have HC8 := hid hC
        clear hC
        go_wp2_with fail
        go_ret
        exact ⟨_, h', rfl, h8, HC8.out.st.sub (.cons_cons _ (List.nil_sublist _))⟩
      | true =>
        have HC8 := hid (hC.newAt #[.int .i64 1000, .int .i64 1001, .int .i64 (-1001)] 3 (by simp [maxLen]) (H := w7.heap.size) rfl)
        clear hC
        go_wp2_with fail
        refine (l1PickInt_c _ [1000, 1001, -1001] g vb bs w _ _ (.head _) (by simp) HC8.out).mono ?_
        rintro e w8 ⟨x, rfl, hx, hC⟩
        have hC6 := hC.tail
        have f1 : ∀ w' : World, (Instr.indexAt 24 _ (.int .i64 0)).run Try.prog w' = .ok (.pointer (some (adr _ 0))) w' := hC6.hd.iix tI 0 (by omega)
        have f2 := hC6.hd.intCell 0 (by omega)
        have f3 := hC6.free (.head _) 0 (by simp; omega)
        have HC9 := hid hC6
        clear hC hC6 hx
        go_wp2_with fail
        go_ret
        have hC7 := HC9.out.set 0 (by simp; omega) (.int .i64 x)
        rw [ints_set] at hC7
        exact ⟨_, _, rfl, by simp; omega, hC7.st.sub (.cons_cons _ (List.nil_sublist _))⟩
    · go_wp2_with fail
      go_ret
      exact ⟨_, h', rfl, h8, HC5.out.st.sub (.cons_cons _ (List.nil_sublist _))⟩

end Go.Proofs.Ytoaggenighfhpaa
