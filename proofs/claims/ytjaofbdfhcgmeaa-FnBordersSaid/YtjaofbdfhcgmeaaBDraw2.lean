/-
  What the law of borders draws: the calls themselves.
-/
import Derived.Test.YtjaofbdfhcgmeaaBDraw
namespace Go.Proofs.Ytjaofbdfhcgmeaa
open Go.RowKit

theorem l13Draw_i (n m : Int) (n0 : 0 ≤ n) (hn : n ≤ 9) (m0 : 0 ≤ m) (hm : m ≤ 9) (g : Nat) (vb : Value) (bs : List Int) (w0 w : World) (env : List Ent) (hC : Cr w0 w g vb bs env) :
    Calls Try.prog 145 #[cp g, .int .i64 n, .int .i64 m] w (retM w0 g vb bs env) := by
  obtain ⟨a, rfl⟩ := Int.eq_ofNat_of_zero_le n0
  obtain ⟨b, rfl⟩ := Int.eq_ofNat_of_zero_le m0
  exact l13Draw_c a b (by omega) (by omega) g vb bs w0 w env hC

set_option maxHeartbeats 2000000 in
set_option maxRecDepth 100000 in
theorem DrawTurnMatrix_c (vb : Value) (bs : List Int) (w : World) (hb : Rd w vb (byts bs)) : Calls Try.prog 67 #[vb] w fun e w' => ∃ v vs M, e = .returned v ∧ smallM M ∧ vs.length = M.length ∧ St w w' (⟨v, 26, vs⟩ :: rowsOn vs M []) := by
  have HS := hid (St.start w)
  have HB := hid hb
  clear hb
  have HK := hid (fun n g w1 env h => l1Below_c n g vb bs w w1 env h)
  go_enter Try.func67, Try.ntmps67
  go_wp2_with fail
  refine (l1New_c vb bs w _ _ HS.out HB.out).mono ?_
  rintro e w1 ⟨g, rfl, hC⟩
  have HC := hid hC
  clear hC
  go_wp2_with fail
  refine (HK.out 5 g _ _ HC.out).mono ?_
  rintro e w2 ⟨x, rfl, hx, hC⟩
  obtain ⟨x0, x1⟩ := hx.rng (by omega)
  have HC2 := hid hC
  clear hC hx
  go_wp2_with fail
  refine (HK.out 4 g _ _ HC2.out).mono ?_
  rintro e w3 ⟨y, rfl, hy, hC⟩
  obtain ⟨y0, y1⟩ := hy.rng (by omega)
  have HC3 := hid hC
  clear hC hy
  go_wp2_with fail
  refine (l13Draw_i x (1 + y) x0 (by omega) (by omega) (by omega) g vb bs w _ _ HC3.out).mono ?_
  rintro e w4 ⟨v, vs, M, rfl, hM, hl, hC⟩
  have HC4 := hid hC
  have HM := hid hM
  have HL := hid hl
  clear hC hM hl
  go_wp2_with fail
  go_ret
  exact ⟨_, vs, M, rfl, HM.out, HL.out, HC4.out.st⟩

set_option maxHeartbeats 2000000 in
set_option maxRecDepth 100000 in
theorem DrawRankMod_c (vb : Value) (bs : List Int) (w : World) (hb : Rd w vb (byts bs)) : Calls Try.prog 66 #[vb] w fun e w' => ∃ v vs M p, e = .returned (.tuple #[v, .int .i64 p]) ∧ smallM M ∧ vs.length = M.length ∧ St w w' (⟨v, 26, vs⟩ :: rowsOn vs M []) := by
  have HS := hid (St.start w)
  have HB := hid hb
  clear hb
  have HK := hid (fun n g w1 env h => l1Below_c n g vb bs w w1 env h)
  go_enter Try.func66, Try.ntmps66
  go_wp2_with fail
  refine (l1New_c vb bs w _ _ HS.out HB.out).mono ?_
  rintro e w1 ⟨g, rfl, hC⟩
  have HC := hid hC
  clear hC
  go_wp2_with fail
  refine (HK.out 5 g _ _ HC.out).mono ?_
  rintro e w2 ⟨x, rfl, hx, hC⟩
  obtain ⟨x0, x1⟩ := hx.rng (by omega)
  have HC2 := hid hC
  clear hC hx
  go_wp2_with fail
  refine (HK.out 4 g _ _ HC2.out).mono ?_
  rintro e w3 ⟨y, rfl, hy, hC⟩
  obtain ⟨y0, y1⟩ := hy.rng (by omega)
  have HC3 := hid hC
  clear hC hy
  go_wp2_with fail
  refine (l13Draw_i x (1 + y) x0 (by omega) (by omega) (by omega) g vb bs w _ _ HC3.out).mono ?_
  rintro e w4 ⟨v, vs, M, rfl, hM, hl, hC⟩
  have HC4 := hid (hC.newAt #[.int .i64 2, .int .i64 3, .int .i64 5, .int .i64 2, .int .i64 3, .int .i64 5, .int .i64 4] 3 (by simp [maxLen]) (H := w4.heap.size) rfl)
  have HM := hid hM
  have HL := hid hl
  clear hC hM hl
  go_wp2_with fail
  refine (l1PickInt_c _ [2, 3, 5, 2, 3, 5, 4] g vb bs w _ _ (.head _) (by simp) HC4.out).mono ?_
  rintro e w5 ⟨p, rfl, _, hC⟩
  have HC5 := hid hC.tail
  clear hC
  go_wp2_with fail
  go_ret2
  exact ⟨_, vs, M, _, rfl, HM.out, HL.out, HC5.out.st⟩

set_option maxHeartbeats 2000000 in
set_option maxRecDepth 100000 in
theorem DrawTimesMatrix_c (vb : Value) (bs : List Int) (w : World) (hb : Rd w vb (byts bs)) : Calls Try.prog 69 #[vb] w fun e w' => ∃ v vs M v2 vs2 M2, e = .returned (.tuple #[v, v2]) ∧ vs.length = M.length ∧ vs2.length = M2.length ∧ St w w' (⟨v2, 26, vs2⟩ :: rowsOn vs2 M2 (⟨v, 26, vs⟩ :: rowsOn vs M [])) := by
  have HS := hid (St.start w)
  have HB := hid hb
  clear hb
  have HK := hid (fun n g w1 env h => l1Below_c n g vb bs w w1 env h)
  have HO := hid (fun n g w1 env h => l1Once_c n g vb bs w w1 env h)
  go_enter Try.func69, Try.ntmps69
  go_wp2_with fail
  refine (l1New_c vb bs w _ _ HS.out HB.out).mono ?_
  rintro e w1 ⟨g, rfl, hC⟩
  have HC := hid hC
  clear hC
  go_wp2_with fail
  refine (HK.out 3 g _ _ HC.out).mono ?_
  rintro e w2 ⟨x, rfl, hx, hC⟩
  obtain ⟨x0, x1⟩ := hx.rng (by omega)
  have HC2 := hid hC
  clear hC hx
  go_wp2_with fail
  refine (HK.out 4 g _ _ HC2.out).mono ?_
  rintro e w3 ⟨y, rfl, hy, hC⟩
  obtain ⟨y0, y1⟩ := hy.rng (by omega)
  have HC3 := hid hC
  clear hC hy
  go_wp2_with fail
  refine (l13Draw_i y (1 + x) y0 (by omega) (by omega) (by omega) g vb bs w _ _ HC3.out).mono ?_
  rintro e w4 ⟨v, vs, M, rfl, _, hl, hC⟩
  have HC4 := hid hC
  have HL := hid hl
  clear hC hl
  go_wp2_with fail
  refine (HO.out 10 g _ _ HC4.out).mono ?_
  rintro e w5 ⟨b, rfl, hC⟩
  have HC5 := hid hC
  clear hC
  obtain ⟨q, hq⟩ : ∃ q, (if b = true then (1 : Int) else 0) = q := ⟨_, rfl⟩
  have hq2 : 0 ≤ q ∧ q ≤ 1 := by rw [← hq]; split <;> omega
  have HQ := hid hq
  obtain ⟨q0, q1⟩ := hq2
  clear hq
  go_wp2_with (go_at_call 142; refine (l1Bit_c b _).mono ?_; rw [HQ.out]; rintro e w' ⟨rfl, rfl⟩)
  refine (HK.out 3 g _ _ HC5.out).mono ?_
  rintro e w6 ⟨z, rfl, hz, hC⟩
  obtain ⟨z0, z1⟩ := hz.rng (by omega)
  have HC6 := hid hC
  clear hC hz
  go_wp2_with fail
  refine (l13Draw_i (1 + x + q) (1 + z) (by omega) (by omega) (by omega) (by omega) g vb bs w _ _ HC6.out).mono ?_
  rintro e w7 ⟨v2, vs2, M2, rfl, _, hl, hC⟩
  have HC7 := hid hC
  have HL2 := hid hl
  clear hC hl
  go_wp2_with fail
  go_ret2
  exact ⟨_, vs, M, _, vs2, M2, rfl, HL.out, HL2.out, HC7.out.st⟩

set_option maxHeartbeats 1000000 in
set_option maxRecDepth 100000 in
theorem DrawInverseMod_c (vb : Value) (bs : List Int) (w : World) (hb : Rd w vb (byts bs)) : Calls Try.prog 72 #[vb] w fun e w' => ∃ a p, e = .returned (.tuple #[.int .i64 a, .int .i64 p]) ∧ (-6 ≤ a ∧ a ≤ 13) ∧ (0 ≤ p ∧ p ≤ 7) ∧ Below w.heap.size w w' := by
  have HS := hid (St.start w)
  have HB := hid hb
  clear hb
  have HK := hid (fun n g w1 env h => l1Below_c n g vb bs w w1 env h)
  go_enter Try.func72, Try.ntmps72
  go_wp2_with fail
  refine (l1New_c vb bs w _ _ HS.out HB.out).mono ?_
  rintro e w1 ⟨g, rfl, hC⟩
  have HC := hid hC
  clear hC
  go_wp2_with fail
  refine (HK.out 20 g _ _ HC.out).mono ?_
  rintro e w2 ⟨x, rfl, hx, hC⟩
  obtain ⟨x0, x1⟩ := hx.rng (by omega)
  have HC2 := hid (hC.newAt #[.int .i64 2, .int .i64 3, .int .i64 5, .int .i64 5, .int .i64 4, .int .i64 7, .int .i64 0] 3 (by simp [maxLen]) (H := w2.heap.size) rfl)
  clear hC hx
  go_wp2_with fail
  refine (l1PickInt_c _ [2, 3, 5, 5, 4, 7, 0] g vb bs w _ _ (.head _) (by simp) HC2.out).mono ?_
  rintro e w5 ⟨p, rfl, hp, hC⟩
  have HP : Hid (0 ≤ p ∧ p ≤ 7) := by simp at hp; show _ ∧ _; omega
  have HC5 := hid hC.tail
  clear hC hp
  go_wp2_with fail
  go_ret2
  exact ⟨x - 6, p, rfl, ⟨by omega, by omega⟩, HP.out, HC5.out.st.bel⟩

set_option maxHeartbeats 1000000 in
set_option maxRecDepth 100000 in
theorem DrawIsFieldPrime_c (vb : Value) (bs : List Int) (w : World) (hb : Rd w vb (byts bs)) : Calls Try.prog 73 #[vb] w fun e w' => ∃ p, e = .returned (.int .i64 p) ∧ Below w.heap.size w w' := by
  have HS := hid (St.start w)
  have HB := hid hb
  clear hb
  have HK := hid (fun n g w1 env h => l1Below_c n g vb bs w w1 env h)
  go_enter Try.func73, Try.ntmps73
  go_wp2_with fail
  refine (l1New_c vb bs w _ _ HS.out HB.out).mono ?_
  rintro e w1 ⟨g, rfl, hC⟩
  have HC := hid hC
  clear hC
  go_wp2_with fail
  refine (HK.out 9 g _ _ HC.out).mono ?_
  rintro e w2 ⟨x, rfl, hx, hC⟩
  obtain ⟨x0, x1⟩ := hx.rng (by omega)
  have HC2 := hid hC
  clear hC hx
  go_wp2_with fail
  go_ret
  exact ⟨_, rfl, HC2.out.st.bel⟩

set_option maxHeartbeats 2000000 in
set_option maxRecDepth 100000 in
theorem DrawBorderMatrix_c (vb : Value) (bs : List Int) (w : World) (hb : Rd w vb (byts bs)) : Calls Try.prog 64 #[vb] w fun e w' => ∃ n v fs k, e = .returned (.tuple #[cx n v, .int .i64 k]) ∧ (-1 ≤ k ∧ k ≤ 5) ∧ fs.length ≤ 1002 ∧ St w w' [⟨v, 3, ints fs⟩] := by
  have HS := hid ((St.start w).box 0 (.slice none 0 0) 30)
  have HB := hid hb
  clear hb
  have HK := hid (fun n g w1 env h => l1Below_c n g vb bs w w1 env h)
  have HO := hid (fun n g w1 env h => l1Once_c n g vb bs w w1 env h)
  go_enter Try.func64, Try.ntmps64
  go_wp2_with fail
  refine (l1New_c vb bs w _ _ HS.out HB.out).mono ?_
  rintro e w1 ⟨g, rfl, hC⟩
  have HC := hid hC
  clear hC
  go_wp2_with fail
  refine (l3Bent_c g vb bs w _ _ HC.out).mono ?_
  rintro e w2 ⟨n, v, fs, rfl, hl, hC1⟩
  obtain ⟨p, l, c, rfl⟩ := hC1.hd.form
  have hC2 := hC1.boxAt n (.slice p l c) 30 (H := w2.heap.size) rfl
  have HC2 := hid hC2
  have HL := hid hl
  clear hC1 hl
  unfold cx
  go_wp2_with fail
  generalize w2.alloc _ = w3 at *
  have b0 := hC2.hd.c0
  have b1 := hC2.hd.c1
  clear hC2
  go_region_held3 (fun w' => w'.cell? ⟨w2.heap.size, 0, none⟩ = some (.int .i64 n) ∧ w'.cell? ⟨w2.heap.size, 1, none⟩ = some (.slice p l c)) (first | go_keep | exact ⟨m0, m1⟩ | exact ⟨b0', b1'⟩ | exact ⟨a0', a1'⟩ | exact ⟨b0, b1⟩)
    (first
      | (go_at_call 142; refine (l1Bit_c bb _).mono ?_; rw [HQ.out]; rintro e w' ⟨rfl, rfl⟩)
      | (go_at_call 118; refine (HO.out 12 g _ _ HC4.out).mono ?_; rintro e w5 ⟨bb, rfl, hC5⟩; have a0' := hC5.hd.c0; have a1' := hC5.hd.c1; have s0 : w5.frozen? ⟨w.heap.size, 0, none⟩ = false := hC5.free (v := bx w.heap.size) (.tail _ (.tail _ (.head _))) 0 (by simp); have s1 : w5.frozen? ⟨w.heap.size, 1, none⟩ = false := hC5.free (v := bx w.heap.size) (.tail _ (.tail _ (.head _))) 1 (by simp); obtain ⟨q, hq⟩ : ∃ q, (if bb = true then (1 : Int) else 0) = q := ⟨_, rfl⟩; have hq2 : 0 ≤ q ∧ q ≤ 1 := (by rw [← hq]; split <;> omega); have HQ := hid hq; have d0 := hC5.tail.tail.hd.c0; have d1 := hC5.tail.tail.hd.c1; have hC6 := ((hC5.bring (l1 := [_, _])).set 0 (by simp) (.int .i64 n)).set 1 (by simp) (.slice p l c); have m0 := hC6.tail.hd.c0; have m1 := hC6.tail.hd.c1; have HC6 := hid hC6; clear hC6; obtain ⟨q0, q1⟩ := hq2; clear hC5 hq)
      | (go_at_call 98; refine (HK.out 6 g _ _ (HC2.out.drewN 1)).mono ?_; rintro e w4 ⟨x, rfl, hx, hC4⟩; have b0' := hC4.hd.c0; have b1' := hC4.hd.c1; obtain ⟨x0, x1⟩ := hx.rng (by omega); have HC4 := hid hC4; clear hC4 hx))
  all_goals
    go_wp2_with fail
    rw [show IntKind.i64.wrap (x - q) = x - q from IntWalk.i64_in _ (by omega)]
    exact bodyPost_ret (ret_cx2 (z := .int .i64 (x - q)) rfl rfl rfl HC6.out.hd) rfl ⟨_, _, fs, x - q, rfl, ⟨by omega, by omega⟩, HL.out, HC6.out.st.sub (.cons _ (.cons _ (.cons_cons _ (List.nil_sublist _))))⟩

end Go.Proofs.Ytjaofbdfhcgmeaa
