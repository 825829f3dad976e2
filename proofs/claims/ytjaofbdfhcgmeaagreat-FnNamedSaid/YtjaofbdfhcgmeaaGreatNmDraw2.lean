/-
  What the law of names draws: a set, a complex, each with names; two complexes.
-/
import Derived.Test.YtjaofbdfhcgmeaaGreatNmDraw
namespace Go.Proofs.YtjaofbdfhcgmeaaGreat
open Go.RowKit

def nmSet (w : World) (e : Ending) (w' : World) : Prop := ∃ s v xs, e = .returned (.tuple #[.int .i64 s, v]) ∧ St w w' [⟨v, 3, ints xs⟩]
def nmCx (w : World) (e : Ending) (w' : World) : Prop := ∃ n v fs vn xs, e = .returned (.tuple #[cx n v, vn]) ∧ fs.length ≤ 1002 ∧ St w w' [⟨vn, 3, ints xs⟩, ⟨v, 3, ints fs⟩]
def nmTwo (w : World) (e : Ending) (w' : World) : Prop := ∃ n v fs m u gs, e = .returned (.tuple #[cx n v, cx m u]) ∧ St w w' [⟨u, 3, ints gs⟩, ⟨v, 3, ints fs⟩]
theorem ret_2cx {fn : Func} {p q : Tmp} {g h : Nat} {w : World} {x y x' y' : Value} {tmps : Array Value} (hf : fn.results = #[.cell p 26, .cell q 26]) (hp : tmps.getD p undef = .pointer (some ⟨g, 0, none⟩)) (hq : tmps.getD q undef = .pointer (some ⟨h, 0, none⟩)) (hr : Rd w (bx g) [x, y]) (hr' : Rd w (bx h) [x', y']) :
    (results fn tmps).run Tryz.prog w = .ok (.tuple #[.agg #[x, y], .agg #[x', y']]) w := by
  have hp' : tmps[p]?.getD undef = .pointer (some ⟨g, 0, none⟩) := by simpa using hp
  have hq' : tmps[q]?.getD undef = .pointer (some ⟨h, 0, none⟩) := by simpa using hq
  have hl := load_cx hr
  have hl' := load_cx hr'
  simp [results, hf, hp', hq', asAddr, hl, hl']

set_option maxHeartbeats 4000000 in
set_option maxRecDepth 100000 in
theorem DrawRenameSet_c (vb : Value) (bs : List Int) (w : World) (hb : Rd w vb (byts bs)) : Calls Tryz.prog 8 #[vb] w (nmSet w) := by
  have HS := hid (St.start w)
  have HB := hid hb
  clear hb
  have HK := hid (fun n g w1 env h => l1Below_c n g vb bs w w1 env h)
  have HO := hid (fun n g w1 env h => l1Once_c n g vb bs w w1 env h)
  go_enter Tryz.func8, Tryz.ntmps8
  go_wp2_with fail
  refine (l1New_c vb bs w _ _ HS.out HB.out).mono ?_
  rintro e w1 ⟨g, rfl, hC⟩
  have HC := hid hC
  clear hC
  go_wp2_with fail
  refine (HK.out 7 g _ _ HC.out).mono ?_
  rintro e w2 ⟨x, rfl, hx, hC⟩
  obtain ⟨x0, x1⟩ := hx.rng (by omega)
  have HC2 := hid hC
  clear hC hx
  have e1 : wrap64 (2 ^ x.toNat) = pw x := pw_wrap x0 (by omega)
  have e2 : IntKind.u64.wrap x = x := IntWalk.u64_in _ (by omega)
  have hpw := pw_rng x0 (show x ≤ 6 by omega)
  have e3 : IntKind.i64.wrap (pw x + 1) = pw x + 1 := IntWalk.i64_in _ (by omega)
  clear hpw
  go_wp2_with fail
  refine (l9Shuffle_c x x0 (by omega) g vb bs w _ _ HC2.out).mono ?_
  rintro e w3 ⟨v, xs, rfl, hs, hC⟩
  have hlen := hs.1
  have HC3 := hid hC
  clear hC hs
  by_cases h0 : 0 < x
  · have q0 : decide (0 < x) = true := decide_eq_true h0
    go_wp2_with fail
    refine (HO.out _ g _ _ HC3.out).mono ?_
    rintro e w4 ⟨b, rfl, hC⟩
    have HC4 := hid hC
    clear hC
    cases b with
    | true =>
      have HC5 := hid (HC4.out.newAt #[.int .i64 (-1), .int .i64 0, .int .i64 6] 3 (by simp [maxLen]) (H := w4.heap.size) rfl)
      go_wp2_with fail
      refine (l1PickInt_c _ [-1, 0, 6] g vb bs w _ _ (.head _) (by simp) HC5.out).mono ?_
      rintro e w5 ⟨y, rfl, hy, hC⟩
      have hC6 := hC.tail
      have f1 : ∀ w' : World, (Instr.indexAt 24 _ (.int .i64 0)).run Tryz.prog w' = .ok (.pointer (some (adr _ 0))) w' := hC6.hd.iix tI 0 (by omega)
      have f2 := hC6.hd.intCell 0 (by omega)
      have f3 := hC6.free (.head _) 0 (by simp; omega)
      have hC7 := hC6.set 0 (by simp; omega) (.int .i64 y)
      rw [ints_set] at hC7
      have HC9 := hid hC7
      clear hC hC6 hC7 hy
      go_wp2_with fail
      refine (HK.out _ g _ _ HC9.out).mono ?_
      rintro e w7 ⟨t, rfl, ht, hC⟩
      have HC7 := hid hC
      clear hC ht
      go_wp2_with fail
      refine (HO.out _ g _ _ HC7.out).mono ?_
      rintro e w8 ⟨b2, rfl, hC⟩
      have HC8 := hid hC
      clear hC
      cases b2 with
      | false =>
        go_wp2_with (go_at_call 41; refine (l1Bit_c false _).mono ?_; rintro e w' ⟨rfl, rfl⟩)
        go_ret2
        exact ⟨_, _, (xs.set 0 y), rfl, HC8.out.st⟩
      | true =>
        go_wp2_with (go_at_call 41; refine (l1Bit_c true _).mono ?_; rintro e w' ⟨rfl, rfl⟩)
        go_ret2
        exact ⟨_, _, (xs.set 0 y), rfl, HC8.out.st⟩
    | false =>
      go_wp2_with fail
      refine (HK.out _ g _ _ HC4.out).mono ?_
      rintro e w7 ⟨t, rfl, ht, hC⟩
      have HC7 := hid hC
      clear hC ht
      go_wp2_with fail
      refine (HO.out _ g _ _ HC7.out).mono ?_
      rintro e w8 ⟨b2, rfl, hC⟩
      have HC8 := hid hC
      clear hC
      cases b2 with
      | false =>
        go_wp2_with (go_at_call 41; refine (l1Bit_c false _).mono ?_; rintro e w' ⟨rfl, rfl⟩)
        go_ret2
        exact ⟨_, _, xs, rfl, HC8.out.st⟩
      | true =>
        go_wp2_with (go_at_call 41; refine (l1Bit_c true _).mono ?_; rintro e w' ⟨rfl, rfl⟩)
        go_ret2
        exact ⟨_, _, xs, rfl, HC8.out.st⟩
  · have q0 : decide (0 < x) = false := decide_eq_false h0
    go_wp2_with fail
    refine (HK.out _ g _ _ HC3.out).mono ?_
    rintro e w7 ⟨t, rfl, ht, hC⟩
    have HC7 := hid hC
    clear hC ht
    go_wp2_with fail
    refine (HO.out _ g _ _ HC7.out).mono ?_
    rintro e w8 ⟨b2, rfl, hC⟩
    have HC8 := hid hC
    clear hC
    cases b2 with
    | false =>
      go_wp2_with (go_at_call 41; refine (l1Bit_c false _).mono ?_; rintro e w' ⟨rfl, rfl⟩)
      go_ret2
      exact ⟨_, _, xs, rfl, HC8.out.st⟩
    | true =>
      go_wp2_with (go_at_call 41; refine (l1Bit_c true _).mono ?_; rintro e w' ⟨rfl, rfl⟩)
      go_ret2
      exact ⟨_, _, xs, rfl, HC8.out.st⟩

set_option maxHeartbeats 4000000 in
set_option maxRecDepth 100000 in
theorem DrawRenameComplex_c (vb : Value) (bs : List Int) (w : World) (hb : Rd w vb (byts bs)) : Calls Tryz.prog 5 #[vb] w (nmCx w) := by
  have HS := hid ((St.start w).box 0 (.slice none 0 0) 26)
  have HB := hid hb
  clear hb
  have HO := hid (fun n g w1 env h => l1Once_c n g vb bs w w1 env h)
  go_enter Tryz.func5, Tryz.ntmps5
  go_wp2_with fail
  refine (l1New_c vb bs w _ _ HS.out HB.out).mono ?_
  rintro e w1 ⟨g, rfl, hC⟩
  have HC := hid hC
  clear hC
  go_wp2_with fail
  refine (l3Bent_c g vb bs w _ _ HC.out).mono ?_
  rintro e w2 ⟨n, v, fs, rfl, hl, hC1⟩
  obtain ⟨p, l, c, rfl⟩ := hC1.hd.form
  obtain ⟨X, hX⟩ : ∃ X, X = w2.heap.size := ⟨_, rfl⟩
  have hC2 := hC1.boxAt n (.slice p l c) 26 (H := X) hX.symm
  have b0 := hC2.hd.c0
  have HX := hid hX
  have HC2 := hid hC2
  have HL := hid hl
  clear hC1 hC2 hl hX
  obtain ⟨m, hm⟩ : ∃ m, max 0 (min 6 n) = m := ⟨_, rfl⟩
  have m0 : 0 ≤ m := by omega
  have m6 : m ≤ 6 := by omega
  have HM := hid hm
  clear hm
  unfold cx
  rw [HX.out] at b0
  go_wp2_with (first | (go_at_call 32; refine (l1Min_c _ _ _).mono ?_; rintro e w' ⟨rfl, rfl⟩) | (go_at_call 31; refine (l1Max_c _ _ _).mono ?_; rw [HM.out]; rintro e w' ⟨rfl, rfl⟩))
  rw [← HX.out]
  refine (l9Shuffle_c m m0 m6 g vb bs w _ _ HC2.out).mono ?_
  rintro e w3 ⟨vn, xs, rfl, hs, hC⟩
  have la := hC.hd.iln tI
  have HC3 := hid hC
  clear hC hs b0
  by_cases h0 : 0 < xs.length
  · have q0 : decide ((0 : Int) < (xs.length : Int)) = true := decide_eq_true (by omega)
    go_wp2_with fail
    refine (HO.out _ g _ _ HC3.out).mono ?_
    rintro e w4 ⟨b, rfl, hC⟩
    have HC4 := hid hC
    clear hC
    cases b with
    | true =>
      have HC5 := hid (HC4.out.newAt #[.int .i64 (-1), .int .i64 0, .int .i64 6] 3 (by simp [maxLen]) (H := w4.heap.size) rfl)
      go_wp2_with fail
      refine (l1PickInt_c _ [-1, 0, 6] g vb bs w _ _ (.head _) (by simp) HC5.out).mono ?_
      rintro e w5 ⟨y, rfl, hy, hC⟩
      have hC6 := hC.tail
      have f1 : ∀ w' : World, (Instr.indexAt 24 _ (.int .i64 0)).run Tryz.prog w' = .ok (.pointer (some (adr _ 0))) w' := hC6.hd.iix tI 0 (by omega)
      have f2 := hC6.hd.intCell 0 (by omega)
      have f3 := hC6.free (.head _) 0 (by simp; omega)
      have hC7 := hC6.set 0 (by simp; omega) (.int .i64 y)
      rw [ints_set] at hC7
      have b0 := hC7.tail.hd.c0
      have b1 := hC7.tail.hd.c1
      have d0 := hC7.tail.tail.tail.hd.c0
      have d1 := hC7.tail.tail.tail.hd.c1
      have s0 : World.frozen? _ ⟨w.heap.size, 0, none⟩ = false := hC6.free (v := bx w.heap.size) (.tail _ (.tail _ (.tail _ (.head _)))) 0 (by simp)
      have s1 : World.frozen? _ ⟨w.heap.size, 1, none⟩ = false := hC6.free (v := bx w.heap.size) (.tail _ (.tail _ (.tail _ (.head _)))) 1 (by simp)
      have HC9 := hid hC7
      clear hC hC6 hC7 hy
      go_wp2_with fail
      have hC9 := ((HC9.out.bring (l1 := [_, _, _])).set 0 (by simp) (.int .i64 n)).set 1 (by simp) (.slice p l c)
      exact bodyPost_ret (ret_cx2 rfl rfl rfl hC9.hd) rfl ⟨n, _, fs, _, (xs.set 0 y), rfl, HL.out, hC9.st.sub (.cons _ (.cons_cons _ (.cons _ (.cons_cons _ (List.nil_sublist _)))))⟩
    | false =>
      have b0 := HC4.out.tail.hd.c0
      have b1 := HC4.out.tail.hd.c1
      have d0 := HC4.out.tail.tail.tail.hd.c0
      have d1 := HC4.out.tail.tail.tail.hd.c1
      have s0 : World.frozen? _ ⟨w.heap.size, 0, none⟩ = false := HC4.out.free (v := bx w.heap.size) (.tail _ (.tail _ (.tail _ (.head _)))) 0 (by simp)
      have s1 : World.frozen? _ ⟨w.heap.size, 1, none⟩ = false := HC4.out.free (v := bx w.heap.size) (.tail _ (.tail _ (.tail _ (.head _)))) 1 (by simp)
      go_wp2_with fail
      have hC9 := ((HC4.out.bring (l1 := [_, _, _])).set 0 (by simp) (.int .i64 n)).set 1 (by simp) (.slice p l c)
      exact bodyPost_ret (ret_cx2 rfl rfl rfl hC9.hd) rfl ⟨n, _, fs, _, xs, rfl, HL.out, hC9.st.sub (.cons _ (.cons_cons _ (.cons _ (.cons_cons _ (List.nil_sublist _)))))⟩
  · have q0 : decide ((0 : Int) < (xs.length : Int)) = false := decide_eq_false (by omega)
    have b0 := HC3.out.tail.hd.c0
    have b1 := HC3.out.tail.hd.c1
    have d0 := HC3.out.tail.tail.tail.hd.c0
    have d1 := HC3.out.tail.tail.tail.hd.c1
    have s0 : World.frozen? _ ⟨w.heap.size, 0, none⟩ = false := HC3.out.free (v := bx w.heap.size) (.tail _ (.tail _ (.tail _ (.head _)))) 0 (by simp)
    have s1 : World.frozen? _ ⟨w.heap.size, 1, none⟩ = false := HC3.out.free (v := bx w.heap.size) (.tail _ (.tail _ (.tail _ (.head _)))) 1 (by simp)
    go_wp2_with fail
    have hC9 := ((HC3.out.bring (l1 := [_, _, _])).set 0 (by simp) (.int .i64 n)).set 1 (by simp) (.slice p l c)
    exact bodyPost_ret (ret_cx2 rfl rfl rfl hC9.hd) rfl ⟨n, _, fs, _, xs, rfl, HL.out, hC9.st.sub (.cons _ (.cons_cons _ (.cons _ (.cons_cons _ (List.nil_sublist _)))))⟩

set_option maxHeartbeats 4000000 in
set_option maxRecDepth 100000 in
theorem DrawAreAlike_c (vb : Value) (bs : List Int) (w : World) (hb : Rd w vb (byts bs)) : Calls Tryz.prog 14 #[vb] w (nmTwo w) := by
  have hS0 := ((St.start w).box 0 (.slice none 0 0) 26).boxAt 0 (.slice none 0 0) 26 (H := w.heap.size + 1) (by simp)
  have HS := hid hS0
  have HB := hid hb
  clear hb hS0
  have HO := hid (fun n g w1 env h => l1Once_c n g vb bs w w1 env h)
  have HF := hid (fun g w1 env h => l9Few_c g vb bs w w1 env h)
  have HSH := hid (fun n n0 n6 g w1 env h => l9Shuffle_c n n0 n6 g vb bs w w1 env h)
  go_enter Tryz.func14, Tryz.ntmps14
  go_wp2_with fail
  refine (l1New_c vb bs w _ _ HS.out HB.out).mono ?_
  rintro e w1 ⟨g, rfl, hC⟩
  have HC := hid hC
  clear hC
  go_wp2_with fail
  refine (HF.out g _ _ HC.out).mono ?_
  rintro e w3 ⟨N, v, fs, rfl, hl, hC⟩
  obtain ⟨p, l, c, rfl⟩ := hC.hd.form
  have HC3 := hid (hC.boxAt N (.slice p l c) 26 (H := w3.heap.size) rfl)
  clear hC hl
  have HIC : Hid (∀ w1, Rd w1 (.slice p l c) (ints fs) → _) := fun w1 h => sIsComplex_c N (.slice p l c) fs w1 h
  have HLC : Hid (∀ vn ys w1, Rd w1 (.slice p l c) (ints fs) → Rd w1 vn (ints ys) → Names N ys → (∀ x ∈ fs, 0 ≤ x ∧ x < 64) → fs.length ≤ 1000 → Calls Tryz.prog 39 #[cx N (.slice p l c), vn] w1 fun e w' => ∃ v, e = .returned (cx N v) ∧ St w1 w' [⟨v, 3, ints (rnL fs ys)⟩]) := fun vn ys w1 h1 h2 h3 h4 h5 => l9Complex_c N N _ vn fs ys w1 h1 h2 h3 h4 h5
  unfold cx at HIC HLC ⊢
  go_wp2_with fail
  refine (HO.out 3 g _ _ HC3.out).mono ?_
  rintro e w4 ⟨b, rfl, hC⟩
  have b0 := hC.hd.c0
  have b1 := hC.hd.c1
  have HC4 := hid hC
  clear hC
  cases b with
  | true =>
    go_wp2_with fail
    go_region_held3 (fun w' => w'.cell? ⟨w3.heap.size, 0, none⟩ = some (.int .i64 N) ∧ w'.cell? ⟨w3.heap.size, 1, none⟩ = some (.slice p l c)) (first | go_keep | exact ⟨n0, n1⟩ | exact ⟨m0, m1⟩ | exact ⟨a0, a1⟩ | exact ⟨b0, b1⟩)
      (first
        | (go_at_call 46; refine (HF.out g _ _ (HC4.out.drewN 1)).mono ?_; rintro e w5 ⟨m, u, gs, rfl, hl, hC⟩; obtain ⟨p2, l2, c2, rfl⟩ := hC.hd.form; (try unfold cx); have a0 := hC.tail.hd.c0; have a1 := hC.tail.hd.c1; have e0 := hC.tail.tail.tail.hd.c0; have e1 := hC.tail.tail.tail.hd.c1; have d0 := hC.tail.tail.tail.tail.hd.c0; have d1 := hC.tail.tail.tail.tail.hd.c1; have s0 : World.frozen? _ ⟨w.heap.size, 0, none⟩ = false := hC.free (v := bx (w.heap.size)) (.tail _ (.tail _ (.tail _ (.tail _ (.head _))))) 0 (by simp); have s1 : World.frozen? _ ⟨w.heap.size, 1, none⟩ = false := hC.free (v := bx (w.heap.size)) (.tail _ (.tail _ (.tail _ (.tail _ (.head _))))) 1 (by simp); have r0 : World.frozen? _ ⟨w.heap.size + 1, 0, none⟩ = false := hC.free (v := bx (w.heap.size + 1)) (.tail _ (.tail _ (.tail _ (.head _)))) 0 (by simp); have r1 : World.frozen? _ ⟨w.heap.size + 1, 1, none⟩ = false := hC.free (v := bx (w.heap.size + 1)) (.tail _ (.tail _ (.tail _ (.head _)))) 1 (by simp); have hC6 := ((hC.bring (l1 := [_, _, _, _])).set 0 (by simp) (.int .i64 N)).set 1 (by simp) (.slice p l c); have m0 := hC6.tail.tail.hd.c0; have m1 := hC6.tail.tail.hd.c1; have f0 := hC6.tail.tail.tail.tail.hd.c0; have f1 := hC6.tail.tail.tail.tail.hd.c1; have t0 : World.frozen? _ ⟨w.heap.size + 1, 0, none⟩ = false := hC6.free (v := bx (w.heap.size + 1)) (.tail _ (.tail _ (.tail _ (.tail _ (.head _))))) 0 (by simp); have t1 : World.frozen? _ ⟨w.heap.size + 1, 1, none⟩ = false := hC6.free (v := bx (w.heap.size + 1)) (.tail _ (.tail _ (.tail _ (.tail _ (.head _))))) 1 (by simp); have hC7 := ((hC6.bring (l1 := [_, _, _, _])).set 0 (by simp) (.int .i64 m)).set 1 (by simp) (.slice p2 l2 c2); have n0 := hC7.tail.tail.tail.hd.c0; have n1 := hC7.tail.tail.tail.hd.c1; have HC7 := hid hC7; clear hC hC6 hC7))
    all_goals
      go_wp2_with fail
      exact bodyPost_ret (ret_2cx rfl rfl rfl HC7.out.tail.hd HC7.out.hd) rfl ⟨_, _, fs, _, _, gs, rfl, HC7.out.st.sub (.cons _ (.cons _ (.cons_cons _ (.cons _ (.cons_cons _ (List.nil_sublist _))))))⟩
  | false =>
    cases hc : isC N fs with
    | false =>
      go_wp2_with fail
      refine (HIC.out _ HC4.out.tail.hd).mono ?_
      rw [hc]
      rintro e wi ⟨rfl, hN⟩
      have hC := HC4.out.quiet hN
      clear b0 b1 hN
      have b0 := hC.hd.c0
      have b1 := hC.hd.c1
      have HC5 := hid hC
      clear hC hc
      go_wp2_with fail
      go_region_held3 (fun w' => w'.cell? ⟨w3.heap.size, 0, none⟩ = some (.int .i64 N) ∧ w'.cell? ⟨w3.heap.size, 1, none⟩ = some (.slice p l c)) (first | go_keep | exact ⟨n0, n1⟩ | exact ⟨m0, m1⟩ | exact ⟨a0, a1⟩ | exact ⟨b0, b1⟩)
        (first
          | (go_at_call 46; refine (HF.out g _ _ (HC5.out.drewN 1)).mono ?_; rintro e w5 ⟨m, u, gs, rfl, hl, hC⟩; obtain ⟨p2, l2, c2, rfl⟩ := hC.hd.form; (try unfold cx); have a0 := hC.tail.hd.c0; have a1 := hC.tail.hd.c1; have e0 := hC.tail.tail.tail.hd.c0; have e1 := hC.tail.tail.tail.hd.c1; have d0 := hC.tail.tail.tail.tail.hd.c0; have d1 := hC.tail.tail.tail.tail.hd.c1; have s0 : World.frozen? _ ⟨w.heap.size, 0, none⟩ = false := hC.free (v := bx (w.heap.size)) (.tail _ (.tail _ (.tail _ (.tail _ (.head _))))) 0 (by simp); have s1 : World.frozen? _ ⟨w.heap.size, 1, none⟩ = false := hC.free (v := bx (w.heap.size)) (.tail _ (.tail _ (.tail _ (.tail _ (.head _))))) 1 (by simp); have r0 : World.frozen? _ ⟨w.heap.size + 1, 0, none⟩ = false := hC.free (v := bx (w.heap.size + 1)) (.tail _ (.tail _ (.tail _ (.head _)))) 0 (by simp); have r1 : World.frozen? _ ⟨w.heap.size + 1, 1, none⟩ = false := hC.free (v := bx (w.heap.size + 1)) (.tail _ (.tail _ (.tail _ (.head _)))) 1 (by simp); have hC6 := ((hC.bring (l1 := [_, _, _, _])).set 0 (by simp) (.int .i64 N)).set 1 (by simp) (.slice p l c); have m0 := hC6.tail.tail.hd.c0; have m1 := hC6.tail.tail.hd.c1; have f0 := hC6.tail.tail.tail.tail.hd.c0; have f1 := hC6.tail.tail.tail.tail.hd.c1; have t0 : World.frozen? _ ⟨w.heap.size + 1, 0, none⟩ = false := hC6.free (v := bx (w.heap.size + 1)) (.tail _ (.tail _ (.tail _ (.tail _ (.head _))))) 0 (by simp); have t1 : World.frozen? _ ⟨w.heap.size + 1, 1, none⟩ = false := hC6.free (v := bx (w.heap.size + 1)) (.tail _ (.tail _ (.tail _ (.tail _ (.head _))))) 1 (by simp); have hC7 := ((hC6.bring (l1 := [_, _, _, _])).set 0 (by simp) (.int .i64 m)).set 1 (by simp) (.slice p2 l2 c2); have n0 := hC7.tail.tail.tail.hd.c0; have n1 := hC7.tail.tail.tail.hd.c1; have HC7 := hid hC7; clear hC hC6 hC7))
      all_goals
        go_wp2_with fail
        exact bodyPost_ret (ret_2cx rfl rfl rfl HC7.out.tail.hd HC7.out.hd) rfl ⟨_, _, fs, _, _, gs, rfl, HC7.out.st.sub (.cons _ (.cons _ (.cons_cons _ (.cons _ (.cons_cons _ (List.nil_sublist _))))))⟩
    | true =>
      go_wp2_with fail
      refine (HIC.out _ HC4.out.tail.hd).mono ?_
      rw [hc]
      rintro e wi ⟨rfl, hN⟩
      have hC := HC4.out.quiet hN
      clear b0 b1 hN
      have b0 := hC.hd.c0
      have b1 := hC.hd.c1
      have HC5 := hid hC
      have HIS := hid (isC_iff.1 hc)
      have h1 : 1 ≤ N := HIS.out.1
      have h6 : N ≤ 6 := HIS.out.2.1
      have hle : fs.length ≤ 1000 := by have := isC_le HIS.out; omega
      clear hC hc
      go_wp2_with fail
      go_region_held3 (fun w' => w'.cell? ⟨w3.heap.size, 0, none⟩ = some (.int .i64 N) ∧ w'.cell? ⟨w3.heap.size, 1, none⟩ = some (.slice p l c)) (first | go_keep | exact ⟨n0, n1⟩ | exact ⟨m0, m1⟩ | exact ⟨a0, a1⟩ | exact ⟨y0, y1⟩ | exact ⟨b0, b1⟩)
        (first
          | (go_at_call 39; refine (HLC.out _ ys _ HCY.out.tail.tail.hd HCY.out.hd HNY.out HIS.out.rng hle).mono ?_; rintro e w5 ⟨u, rfl, hN⟩; have hC := HCY.out.call1 hN; obtain ⟨p2, l2, c2, rfl⟩ := hC.hd.form; clear hN; (try unfold cx); have a0 := hC.tail.tail.hd.c0; have a1 := hC.tail.tail.hd.c1; have e0 := hC.tail.tail.tail.tail.hd.c0; have e1 := hC.tail.tail.tail.tail.hd.c1; have d0 := hC.tail.tail.tail.tail.tail.hd.c0; have d1 := hC.tail.tail.tail.tail.tail.hd.c1; have s0 : World.frozen? _ ⟨w.heap.size, 0, none⟩ = false := hC.free (v := bx (w.heap.size)) (.tail _ (.tail _ (.tail _ (.tail _ (.tail _ (.head _)))))) 0 (by simp); have s1 : World.frozen? _ ⟨w.heap.size, 1, none⟩ = false := hC.free (v := bx (w.heap.size)) (.tail _ (.tail _ (.tail _ (.tail _ (.tail _ (.head _)))))) 1 (by simp); have r0 : World.frozen? _ ⟨w.heap.size + 1, 0, none⟩ = false := hC.free (v := bx (w.heap.size + 1)) (.tail _ (.tail _ (.tail _ (.tail _ (.head _))))) 0 (by simp); have r1 : World.frozen? _ ⟨w.heap.size + 1, 1, none⟩ = false := hC.free (v := bx (w.heap.size + 1)) (.tail _ (.tail _ (.tail _ (.tail _ (.head _))))) 1 (by simp); have hC6 := ((hC.bring (l1 := [_, _, _, _, _])).set 0 (by simp) (.int .i64 N)).set 1 (by simp) (.slice p l c); have m0 := hC6.tail.tail.tail.hd.c0; have m1 := hC6.tail.tail.tail.hd.c1; have f0 := hC6.tail.tail.tail.tail.tail.hd.c0; have f1 := hC6.tail.tail.tail.tail.tail.hd.c1; have t0 : World.frozen? _ ⟨w.heap.size + 1, 0, none⟩ = false := hC6.free (v := bx (w.heap.size + 1)) (.tail _ (.tail _ (.tail _ (.tail _ (.tail _ (.head _)))))) 0 (by simp); have t1 : World.frozen? _ ⟨w.heap.size + 1, 1, none⟩ = false := hC6.free (v := bx (w.heap.size + 1)) (.tail _ (.tail _ (.tail _ (.tail _ (.tail _ (.head _)))))) 1 (by simp); have hC7 := ((hC6.bring (l1 := [_, _, _, _, _])).set 0 (by simp) (.int .i64 N)).set 1 (by simp) (.slice p2 l2 c2); have n0 := hC7.tail.tail.tail.tail.hd.c0; have n1 := hC7.tail.tail.tail.tail.hd.c1; have HC7 := hid hC7; clear hC hC6 hC7)
          | (go_at_call 30; refine (HSH.out N (by omega) (by omega) g _ _ (HC5.out.drewN 1)).mono ?_; rintro e wy ⟨vn, ys, rfl, hs, hC⟩; have y0 := hC.tail.hd.c0; have y1 := hC.tail.hd.c1; have HNY := hid (shuf_names hs (by omega) (by omega)); have HCY := hid hC; clear hC hs))
      all_goals
        go_wp2_with fail
        exact bodyPost_ret (ret_2cx rfl rfl rfl HC7.out.tail.hd HC7.out.hd) rfl ⟨_, _, fs, _, _, _, rfl, HC7.out.st.sub (.cons _ (.cons _ (.cons_cons _ (.cons _ (.cons _ (.cons_cons _ (List.nil_sublist _)))))))⟩

end Go.Proofs.YtjaofbdfhcgmeaaGreat
