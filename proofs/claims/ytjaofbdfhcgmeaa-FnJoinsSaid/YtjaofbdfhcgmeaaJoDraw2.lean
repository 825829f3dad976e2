/-
  What the law of joins draws: two complexes.
-/
import Derived.Test.YtjaofbdfhcgmeaaJoDraw
namespace Go.Proofs.Ytjaofbdfhcgmeaa
open Go.RowKit

theorem ret_2cx {fn : Func} {p q : Tmp} {g h : Nat} {w : World} {x y x' y' : Value} {tmps : Array Value} (hf : fn.results = #[.cell p 30, .cell q 30]) (hp : tmps.getD p undef = .pointer (some ⟨g, 0, none⟩)) (hq : tmps.getD q undef = .pointer (some ⟨h, 0, none⟩)) (hr : Rd w (bx g) [x, y]) (hr' : Rd w (bx h) [x', y']) :
    (results fn tmps).run Try.prog w = .ok (.tuple #[.agg #[x, y], .agg #[x', y']]) w := by
  have hp' : tmps[p]?.getD undef = .pointer (some ⟨g, 0, none⟩) := by simpa using hp
  have hq' : tmps[q]?.getD undef = .pointer (some ⟨h, 0, none⟩) := by simpa using hq
  have hl := load_cx hr
  have hl' := load_cx hr'
  simp [results, hf, hp', hq', asAddr, hl, hl']
def twoCx (w : World) (e : Ending) (w' : World) : Prop := ∃ n v fs m u gs, e = .returned (.tuple #[cx n v, cx m u]) ∧ fs.length ≤ 1002 ∧ gs.length ≤ 1002 ∧ St w w' [⟨u, 3, ints gs⟩, ⟨v, 3, ints fs⟩]

set_option maxHeartbeats 4000000 in
set_option maxRecDepth 100000 in
theorem l6Two_c (vb : Value) (bs : List Int) (w : World) (hb : Rd w vb (byts bs)) : Calls Try.prog 136 #[vb] w (twoCx w) := by
  have HS := hid (((St.start w).box 0 (.slice none 0 0) 30).boxAt 0 (.slice none 0 0) 30 (H := w.heap.size + 1) (by simp))
  have HB := hid hb
  clear hb
  have HK := hid (fun n g w1 env h => l1Below_c n g vb bs w w1 env h)
  have HO := hid (fun n g w1 env h => l1Once_c n g vb bs w w1 env h)
  have HZ := hid (fun n h0 h6 g w1 env h => l3Size_c n h0 h6 g vb bs w w1 env h)
  go_enter Try.func136, Try.ntmps136
  go_wp2_with fail
  refine (l1New_c vb bs w _ _ HS.out HB.out).mono ?_
  rintro e w1 ⟨g, rfl, hC⟩
  have HC := hid hC
  clear hC
  go_wp2_with fail
  refine (HK.out 3 g _ _ HC.out).mono ?_
  rintro e w2 ⟨x, rfl, hx, hC⟩
  obtain ⟨x0, x1⟩ := hx.rng (by omega)
  have HC2 := hid hC
  clear hC hx
  go_wp2_with fail
  refine (HZ.out (1 + x) (by omega) (by omega) g _ _ HC2.out).mono ?_
  rintro e w3 ⟨v, fs, rfl, hl, hC⟩
  obtain ⟨p, l, c, rfl⟩ := hC.hd.form
  obtain ⟨N, hN⟩ : ∃ N, N = 1 + x := ⟨_, rfl⟩
  rw [← hN]
  clear hN
  have HC3 := hid (hC.boxAt N (.slice p l c) 30 (H := w3.heap.size) rfl)
  have HL := hid hl
  clear hC hl
  unfold cx
  go_wp2_with fail
  refine (HO.out 10 g _ _ HC3.out).mono ?_
  rintro e w4 ⟨b, rfl, hC⟩
  have b0 := hC.hd.c0
  have b1 := hC.hd.c1
  have HC4 := hid hC
  clear hC
  cases b with
  | true =>
    go_wp2_with fail
    go_region_held3 (fun w' => w'.cell? ⟨w3.heap.size, 0, none⟩ = some (.int .i64 N) ∧ w'.cell? ⟨w3.heap.size, 1, none⟩ = some (.slice p l c)) (first | go_keep | exact ⟨n0, n1⟩ | exact ⟨m0, m1⟩ | exact ⟨a0, a1⟩ | exact ⟨b0, b1⟩)
      (first
        | (go_at_call 107; refine (l3Bent_c g vb bs w _ _ (HC4.out.drewN 1)).mono ?_; rintro e w5 ⟨m, u, gs, rfl, hl, hC⟩; obtain ⟨p2, l2, c2, rfl⟩ := hC.hd.form; unfold cx; have a0 := hC.tail.hd.c0; have a1 := hC.tail.hd.c1; have e0 := hC.tail.tail.tail.hd.c0; have e1 := hC.tail.tail.tail.hd.c1; have d0 := hC.tail.tail.tail.tail.hd.c0; have d1 := hC.tail.tail.tail.tail.hd.c1; have s0 : w5.frozen? ⟨w.heap.size, 0, none⟩ = false := hC.free (v := bx w.heap.size) (.tail _ (.tail _ (.tail _ (.tail _ (.head _))))) 0 (by simp); have s1 : w5.frozen? ⟨w.heap.size, 1, none⟩ = false := hC.free (v := bx w.heap.size) (.tail _ (.tail _ (.tail _ (.tail _ (.head _))))) 1 (by simp); have r0 : w5.frozen? ⟨w.heap.size + 1, 0, none⟩ = false := hC.free (v := bx (w.heap.size + 1)) (.tail _ (.tail _ (.tail _ (.head _)))) 0 (by simp); have r1 : w5.frozen? ⟨w.heap.size + 1, 1, none⟩ = false := hC.free (v := bx (w.heap.size + 1)) (.tail _ (.tail _ (.tail _ (.head _)))) 1 (by simp); have hC6 := ((hC.bring (l1 := [_, _, _, _])).set 0 (by simp) (.int .i64 N)).set 1 (by simp) (.slice p l c); have m0 := hC6.tail.tail.hd.c0; have m1 := hC6.tail.tail.hd.c1; have f0 := hC6.tail.tail.tail.tail.hd.c0; have f1 := hC6.tail.tail.tail.tail.hd.c1; have t0 : World.frozen? _ ⟨w.heap.size + 1, 0, none⟩ = false := hC6.free (v := bx (w.heap.size + 1)) (.tail _ (.tail _ (.tail _ (.tail _ (.head _))))) 0 (by simp); have t1 : World.frozen? _ ⟨w.heap.size + 1, 1, none⟩ = false := hC6.free (v := bx (w.heap.size + 1)) (.tail _ (.tail _ (.tail _ (.tail _ (.head _))))) 1 (by simp); have hC7 := ((hC6.bring (l1 := [_, _, _, _])).set 0 (by simp) (.int .i64 m)).set 1 (by simp) (.slice p2 l2 c2); have n0 := hC7.tail.tail.tail.hd.c0; have n1 := hC7.tail.tail.tail.hd.c1; have HC7 := hid hC7; have HL2 := hid hl; clear hC hC6 hC7 hl))
    all_goals
      go_wp2_with fail
      exact bodyPost_ret (ret_2cx rfl rfl rfl HC7.out.tail.hd HC7.out.hd) rfl ⟨_, _, fs, _, _, gs, rfl, by have := HL.out; omega, by have := HL2.out; omega, HC7.out.st.sub (.cons _ (.cons _ (.cons_cons _ (.cons _ (.cons_cons _ (List.nil_sublist _))))))⟩
  | false =>
    go_wp2_with fail
    go_region_held3 (fun w' => w'.cell? ⟨w3.heap.size, 0, none⟩ = some (.int .i64 N) ∧ w'.cell? ⟨w3.heap.size, 1, none⟩ = some (.slice p l c)) (first | go_keep | exact ⟨n0, n1⟩ | exact ⟨m0, m1⟩ | exact ⟨a0, a1⟩ | exact ⟨y0', y1'⟩ | exact ⟨b0, b1⟩)
      (first
        | (go_at_call 174; refine (HZ.out (1 + y) (by omega) (by omega) g _ _ HCY.out).mono ?_; rintro e w5 ⟨u, gs, rfl, hl, hC⟩; obtain ⟨p2, l2, c2, rfl⟩ := hC.hd.form; obtain ⟨m, hm⟩ : ∃ m, m = 1 + y := ⟨_, rfl⟩; rw [← hm]; clear hm; unfold cx; have a0 := hC.tail.hd.c0; have a1 := hC.tail.hd.c1; have e0 := hC.tail.tail.tail.hd.c0; have e1 := hC.tail.tail.tail.hd.c1; have d0 := hC.tail.tail.tail.tail.hd.c0; have d1 := hC.tail.tail.tail.tail.hd.c1; have s0 : w5.frozen? ⟨w.heap.size, 0, none⟩ = false := hC.free (v := bx w.heap.size) (.tail _ (.tail _ (.tail _ (.tail _ (.head _))))) 0 (by simp); have s1 : w5.frozen? ⟨w.heap.size, 1, none⟩ = false := hC.free (v := bx w.heap.size) (.tail _ (.tail _ (.tail _ (.tail _ (.head _))))) 1 (by simp); have r0 : w5.frozen? ⟨w.heap.size + 1, 0, none⟩ = false := hC.free (v := bx (w.heap.size + 1)) (.tail _ (.tail _ (.tail _ (.head _)))) 0 (by simp); have r1 : w5.frozen? ⟨w.heap.size + 1, 1, none⟩ = false := hC.free (v := bx (w.heap.size + 1)) (.tail _ (.tail _ (.tail _ (.head _)))) 1 (by simp); have hC6 := ((hC.bring (l1 := [_, _, _, _])).set 0 (by simp) (.int .i64 N)).set 1 (by simp) (.slice p l c); have m0 := hC6.tail.tail.hd.c0; have m1 := hC6.tail.tail.hd.c1; have f0 := hC6.tail.tail.tail.tail.hd.c0; have f1 := hC6.tail.tail.tail.tail.hd.c1; have t0 : World.frozen? _ ⟨w.heap.size + 1, 0, none⟩ = false := hC6.free (v := bx (w.heap.size + 1)) (.tail _ (.tail _ (.tail _ (.tail _ (.head _))))) 0 (by simp); have t1 : World.frozen? _ ⟨w.heap.size + 1, 1, none⟩ = false := hC6.free (v := bx (w.heap.size + 1)) (.tail _ (.tail _ (.tail _ (.tail _ (.head _))))) 1 (by simp); have hC7 := ((hC6.bring (l1 := [_, _, _, _])).set 0 (by simp) (.int .i64 m)).set 1 (by simp) (.slice p2 l2 c2); have n0 := hC7.tail.tail.tail.hd.c0; have n1 := hC7.tail.tail.tail.hd.c1; have HC7 := hid hC7; have HL2 := hid hl; clear hC hC6 hC7 hl)
        | (go_at_call 98; refine (HK.out 3 g _ _ (HC4.out.drewN 1)).mono ?_; rintro e wy ⟨y, rfl, hy, hC⟩; obtain ⟨y0, y1⟩ := hy.rng (by omega); have y0' := hC.hd.c0; have y1' := hC.hd.c1; have ew : IntKind.i64.wrap (1 + y) = 1 + y := IntWalk.i64_in _ (by omega); have HCY := hid hC; clear hC hy))
    all_goals
      go_wp2_with fail
      exact bodyPost_ret (ret_2cx rfl rfl rfl HC7.out.tail.hd HC7.out.hd) rfl ⟨_, _, fs, _, _, gs, rfl, by have := HL.out; omega, by have := HL2.out; omega, HC7.out.st.sub (.cons _ (.cons _ (.cons_cons _ (.cons _ (.cons_cons _ (List.nil_sublist _))))))⟩

set_option maxHeartbeats 2000000 in
set_option maxRecDepth 100000 in
theorem DrawJoinOf_c (vb : Value) (bs : List Int) (w : World) (hb : Rd w vb (byts bs)) : Calls Try.prog 44 #[vb] w (twoCx w) := by
  have hS0 := ((St.start w).box 0 (.slice none 0 0) 30).boxAt 0 (.slice none 0 0) 30 (H := w.heap.size + 1) (by simp)
  have HB := hid (hS0.old hb)
  have HS := hid hS0
  clear hb hS0
  go_enter Try.func44, Try.ntmps44
  go_wp2_with fail
  refine (l6Two_c vb bs _ HB.out).mono ?_
  rintro e w2 ⟨n, v, fs, m, u, gs, rfl, hl, hl2, hN⟩
  obtain ⟨p, l, c, rfl⟩ := hN.tail.hd.form
  obtain ⟨p2, l2, c2, rfl⟩ := hN.hd.form
  have hC := ((HS.out.call hN).boxAt n (.slice p l c) 30 (H := w2.heap.size) rfl).boxAt m (.slice p2 l2 c2) 30 (H := w2.heap.size + 1) (by simp)
  have HC := hid hC
  have HL := hid hl
  have HL2 := hid hl2
  have b0 := hC.hd.c0
  have b1 := hC.hd.c1
  have a0 := hC.tail.hd.c0
  have a1 := hC.tail.hd.c1
  have e0 := hC.tail.tail.tail.tail.hd.c0
  have e1 := hC.tail.tail.tail.tail.hd.c1
  have d0 := hC.tail.tail.tail.tail.tail.hd.c0
  have d1 := hC.tail.tail.tail.tail.tail.hd.c1
  have r0 := hC.own.free (v := bx (w.heap.size + 1)) (.tail _ (.tail _ (.tail _ (.tail _ (.head _))))) 0 (by simp)
  have r1 := hC.own.free (v := bx (w.heap.size + 1)) (.tail _ (.tail _ (.tail _ (.tail _ (.head _))))) 1 (by simp)
  have s0 := hC.own.free (v := bx w.heap.size) (.tail _ (.tail _ (.tail _ (.tail _ (.tail _ (.head _)))))) 0 (by simp)
  have s1 := hC.own.free (v := bx w.heap.size) (.tail _ (.tail _ (.tail _ (.tail _ (.tail _ (.head _)))))) 1 (by simp)
  simp only [adr, bx, Nat.zero_add] at r0 r1 s0 s1
  have hsz : w.heap.size + 2 ≤ w2.heap.size := by have := hN.bel.size; simpa using this
  have q1 : ¬ w.heap.size = w2.heap.size + 1 := by omega
  have q2 : ¬ w.heap.size = w2.heap.size := by omega
  have q3 : ¬ w.heap.size + 1 = w2.heap.size := by omega
  have q4 : ¬ w2.heap.size + 1 = w.heap.size := by omega
  have q5 : ¬ w2.heap.size = w.heap.size := by omega
  have q6 : ¬ w2.heap.size = w.heap.size + 1 := by omega
  clear hC hN hl hl2 hsz
  unfold cx
  go_wp2_with fail
  generalize (w2.alloc _).alloc _ = w3 at *
  go_region
  all_goals
    go_wp2_with fail
    have hC7 := ((((HC.out.bring (l1 := [_, _, _, _, _])).set 0 (by simp) (.int .i64 n)).set 1 (by simp) (.slice p l c)).bring (l1 := [_, _, _, _, _])).set 0 (by simp) (.int .i64 m)
    have hC8 := (hC7.set 1 (by simp) (.slice p2 l2 c2)).drewN 1
    exact bodyPost_ret (ret_2cx rfl rfl rfl hC8.tail.hd hC8.hd) rfl ⟨_, _, fs, _, _, gs, rfl, HL.out, HL2.out, hC8.sub (.cons _ (.cons _ (.cons _ (.cons _ (.cons_cons _ (.cons_cons _ (List.nil_sublist _)))))))⟩

set_option maxHeartbeats 2000000 in
set_option maxRecDepth 100000 in
theorem DrawDisjointOf_c (vb : Value) (bs : List Int) (w : World) (hb : Rd w vb (byts bs)) : Calls Try.prog 47 #[vb] w (twoCx w) := by
  have hS0 := ((St.start w).box 0 (.slice none 0 0) 30).boxAt 0 (.slice none 0 0) 30 (H := w.heap.size + 1) (by simp)
  have HB := hid (hS0.old hb)
  have HS := hid hS0
  clear hb hS0
  go_enter Try.func47, Try.ntmps47
  go_wp2_with fail
  refine (l6Two_c vb bs _ HB.out).mono ?_
  rintro e w2 ⟨n, v, fs, m, u, gs, rfl, hl, hl2, hN⟩
  obtain ⟨p, l, c, rfl⟩ := hN.tail.hd.form
  obtain ⟨p2, l2, c2, rfl⟩ := hN.hd.form
  have hC := ((HS.out.call hN).boxAt n (.slice p l c) 30 (H := w2.heap.size) rfl).boxAt m (.slice p2 l2 c2) 30 (H := w2.heap.size + 1) (by simp)
  have HC := hid hC
  have HL := hid hl
  have HL2 := hid hl2
  have b0 := hC.hd.c0
  have b1 := hC.hd.c1
  have a0 := hC.tail.hd.c0
  have a1 := hC.tail.hd.c1
  have e0 := hC.tail.tail.tail.tail.hd.c0
  have e1 := hC.tail.tail.tail.tail.hd.c1
  have d0 := hC.tail.tail.tail.tail.tail.hd.c0
  have d1 := hC.tail.tail.tail.tail.tail.hd.c1
  have r0 := hC.own.free (v := bx (w.heap.size + 1)) (.tail _ (.tail _ (.tail _ (.tail _ (.head _))))) 0 (by simp)
  have r1 := hC.own.free (v := bx (w.heap.size + 1)) (.tail _ (.tail _ (.tail _ (.tail _ (.head _))))) 1 (by simp)
  have s0 := hC.own.free (v := bx w.heap.size) (.tail _ (.tail _ (.tail _ (.tail _ (.tail _ (.head _)))))) 0 (by simp)
  have s1 := hC.own.free (v := bx w.heap.size) (.tail _ (.tail _ (.tail _ (.tail _ (.tail _ (.head _)))))) 1 (by simp)
  simp only [adr, bx, Nat.zero_add] at r0 r1 s0 s1
  have hsz : w.heap.size + 2 ≤ w2.heap.size := by have := hN.bel.size; simpa using this
  have q1 : ¬ w.heap.size = w2.heap.size + 1 := by omega
  have q2 : ¬ w.heap.size = w2.heap.size := by omega
  have q3 : ¬ w.heap.size + 1 = w2.heap.size := by omega
  have q4 : ¬ w2.heap.size + 1 = w.heap.size := by omega
  have q5 : ¬ w2.heap.size = w.heap.size := by omega
  have q6 : ¬ w2.heap.size = w.heap.size + 1 := by omega
  clear hC hN hl hl2 hsz
  unfold cx
  go_wp2_with fail
  generalize (w2.alloc _).alloc _ = w3 at *
  go_region
  all_goals
    go_wp2_with fail
    have hC7 := ((((HC.out.bring (l1 := [_, _, _, _, _])).set 0 (by simp) (.int .i64 n)).set 1 (by simp) (.slice p l c)).bring (l1 := [_, _, _, _, _])).set 0 (by simp) (.int .i64 m)
    have hC8 := (hC7.set 1 (by simp) (.slice p2 l2 c2)).drewN 1
    exact bodyPost_ret (ret_2cx rfl rfl rfl hC8.tail.hd hC8.hd) rfl ⟨_, _, fs, _, _, gs, rfl, HL.out, HL2.out, hC8.sub (.cons _ (.cons _ (.cons _ (.cons _ (.cons_cons _ (.cons_cons _ (List.nil_sublist _)))))))⟩


end Go.Proofs.Ytjaofbdfhcgmeaa
