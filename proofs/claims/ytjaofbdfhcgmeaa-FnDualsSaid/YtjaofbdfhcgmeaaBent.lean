/-
  Drawn complexes.
-/
import Derived.Test.YtjaofbdfhcgmeaaParse
import Derived.Deep.RegionLaw
namespace Go.Proofs.Ytjaofbdfhcgmeaa
open Go.RowKit

theorem Cr.bring {w0 w : World} {g : Nat} {vb : Value} {bs : List Int} {l1 l2 : List Ent} {x : Ent} (h : Cr w0 w g vb bs (l1 ++ x :: l2)) : Cr w0 w g vb bs (x :: (l1 ++ l2)) := h.map fun _ hS => hS.perm (List.Perm.cons _ List.perm_middle)
def texts : List ByteArray := [⟨#[54, 58, 97, 98, 99, 44, 97, 99, 100, 44, 97, 98, 101, 44, 97, 100, 101, 44, 98, 99, 102, 44, 99, 100, 102, 44, 98, 101, 102, 44, 100, 101, 102]⟩, ⟨#[54, 58, 97, 99, 100, 44, 98, 99, 100, 44, 97, 98, 101, 44, 97, 99, 101, 44, 98, 100, 101, 44, 97, 98, 102, 44, 98, 99, 102, 44, 97, 100, 102, 44, 99, 101, 102, 44, 100, 101, 102]⟩, ⟨#[54, 58, 97, 98, 100, 44, 97, 98, 101, 44, 97, 99, 101, 44, 98, 99, 101, 44, 99, 100, 101, 44, 97, 99, 102, 44, 98, 99, 102, 44, 97, 100, 102, 44, 98, 100, 102]⟩, ⟨#[53, 58, 97, 98, 44, 98, 99, 44, 99, 100, 44, 97, 101, 44, 100, 101]⟩, ⟨#[52, 58, 97, 98, 44, 98, 99, 44, 99, 100]⟩, ⟨#[54, 58, 97, 98, 44, 99, 100, 44, 101, 102]⟩, ⟨#[53, 58, 97, 98, 99, 44, 99, 100, 101]⟩, ⟨#[52, 58, 97, 98, 99, 44, 97, 98, 100]⟩]
theorem texts_size : ∀ t ∈ texts, t.size ≤ 1000 := by
  intro t ht
  simp only [texts, List.mem_cons, List.not_mem_nil, or_false] at ht
  rcases ht with rfl | rfl | rfl | rfl | rfl | rfl | rfl | rfl <;> decide

set_option maxHeartbeats 4000000 in
set_option maxRecDepth 100000 in
theorem l3Draw_c (g : Nat) (vb : Value) (bs : List Int) (w0 w : World) (env : List Ent) (hC : Cr w0 w g vb bs env) :
    Calls Try.prog 157 #[cp g] w fun e w' => ∃ n v fs, e = .returned (cx n v) ∧ fs.length ≤ 1001 ∧ Cr w0 w' g vb bs (⟨v, 3, ints fs⟩ :: env) := by
  have HC := hid ((hC.boxAt 0 (.slice none 0 0) 30 (H := w.heap.size) rfl).newAt #[.int .i64 1, .int .i64 2, .int .i64 3, .int .i64 4, .int .i64 4, .int .i64 5, .int .i64 5, .int .i64 6] 3 (by simp [maxLen]) (H := w.heap.size + 1) (by simp))
  clear hC
  have HK := hid (fun n w env h => l1Below_c n g vb bs w0 w env h)
  have HP := hid (fun vl xs w env hv hx h => l1PickInt_c vl xs g vb bs w0 w env hv hx h)
  have HT := hid (fun vl ts w env hv hx h => l1Pick_c vl ts g vb bs w0 w env hv hx h)
  have HU := hid (fun n h0 h6 w env h => l3Pure_c n h0 h6 g vb bs w0 w env h)
  have HZ := hid (fun n h0 h6 w env h => l3Size_c n h0 h6 g vb bs w0 w env h)
  unfold cp at HK HP HT HU HZ ⊢
  go_enter Try.func157, Try.ntmps157
  go_wp2_with fail
  refine (HP.out _ [1, 2, 3, 4, 4, 5, 5, 6] _ _ (.head _) (by simp) HC.out).mono ?_
  rintro e w1 ⟨n, rfl, hm, hC1⟩
  have hn : 1 ≤ n ∧ n ≤ 6 := by simp at hm; omega
  obtain ⟨n1, n6⟩ := hn
  have HC1 := hid hC1.tail
  clear hC1 hm
  go_wp2_with fail
  refine (HK.out _ _ _ HC1.out).mono ?_
  rintro e w2 ⟨y, rfl, hb, hC2⟩
  obtain ⟨y0, y1⟩ := hb.rng (by omega)
  have HC2 := hid hC2
  clear hb hC2
  by_cases e0 : y = 0
  · subst e0
    go_wp2_with fail
    refine (BorderComplex_c n n1 n6 _).mono ?_
    rintro e w3 ⟨v, fs, rfl, hl, hS⟩
    obtain ⟨p, l, c, rfl⟩ := hS.hd.form
    have hC3 := (HC2.out.call1 hS).boxAt n (.slice p l c) 30 (H := w3.heap.size) rfl
    have b0 := hC3.hd.c0
    have b1 := hC3.hd.c1
    have d0 := (hC3.tail.tail).hd.c0
    have d1 := (hC3.tail.tail).hd.c1
    have s0 := hC3.free (v := bx w.heap.size) (.tail _ (.tail _ (.head _))) 0 (by simp)
    have s1 := hC3.free (v := bx w.heap.size) (.tail _ (.tail _ (.head _))) 1 (by simp)
    have s0' : World.frozen? (World.alloc _ _) ⟨w.heap.size, 0, none⟩ = false := s0
    have s1' : World.frozen? (World.alloc _ _) ⟨w.heap.size, 1, none⟩ = false := s1
    have HC5 := hid hC3
    clear hC3 hS s0 s1
    unfold cx
    go_wp2_with fail
    have hC6 := ((HC5.out.bring (l1 := [_, _])).set 0 (by simp) (.int .i64 n)).set 1 (by simp) (.slice p l c)
    exact bodyPost_ret (ret_cx rfl rfl hC6.hd) rfl ⟨_, _, fs, rfl, by omega, hC6.sub (.cons _ (.cons _ (List.Sublist.refl _)))⟩
  · by_cases e1 : y = 1
    · subst e1
      go_wp2_with fail
      have HC3 := hid (HC2.out.newAt #[.string ⟨#[54, 58, 97, 98, 99, 44, 97, 99, 100, 44, 97, 98, 101, 44, 97, 100, 101, 44, 98, 99, 102, 44, 99, 100, 102, 44, 98, 101, 102, 44, 100, 101, 102]⟩, .string ⟨#[54, 58, 97, 99, 100, 44, 98, 99, 100, 44, 97, 98, 101, 44, 97, 99, 101, 44, 98, 100, 101, 44, 97, 98, 102, 44, 98, 99, 102, 44, 97, 100, 102, 44, 99, 101, 102, 44, 100, 101, 102]⟩, .string ⟨#[54, 58, 97, 98, 100, 44, 97, 98, 101, 44, 97, 99, 101, 44, 98, 99, 101, 44, 99, 100, 101, 44, 97, 99, 102, 44, 98, 99, 102, 44, 97, 100, 102, 44, 98, 100, 102]⟩, .string ⟨#[53, 58, 97, 98, 44, 98, 99, 44, 99, 100, 44, 97, 101, 44, 100, 101]⟩, .string ⟨#[52, 58, 97, 98, 44, 98, 99, 44, 99, 100]⟩, .string ⟨#[54, 58, 97, 98, 44, 99, 100, 44, 101, 102]⟩, .string ⟨#[53, 58, 97, 98, 99, 44, 99, 100, 101]⟩, .string ⟨#[52, 58, 97, 98, 99, 44, 97, 98, 100]⟩] 9 (by simp [maxLen]) (H := w2.heap.size) rfl)
      refine (HT.out _ texts _ _ (.head _) (by simp [texts]) HC3.out).mono ?_
      rintro e w3 ⟨t, rfl, ht, hC4⟩
      have HC4 := hid hC4.tail
      have HTS := hid (texts_size t ht)
      clear hC4 ht
      go_wp2_with fail
      refine (ParseComplex_c t HTS.out _).mono ?_
      rintro e w4 ⟨n, v, fs, b, rfl, hl, hS⟩
      obtain ⟨p, l, c, rfl⟩ := hS.hd.form
      have hC3 := (HC4.out.call1 hS).boxAt n (.slice p l c) 30 (H := w4.heap.size) rfl
      have b0 := hC3.hd.c0
      have b1 := hC3.hd.c1
      have d0 := (hC3.tail.tail).hd.c0
      have d1 := (hC3.tail.tail).hd.c1
      have s0 := hC3.free (v := bx w.heap.size) (.tail _ (.tail _ (.head _))) 0 (by simp)
      have s1 := hC3.free (v := bx w.heap.size) (.tail _ (.tail _ (.head _))) 1 (by simp)
      have s0' : World.frozen? (World.alloc _ _) ⟨w.heap.size, 0, none⟩ = false := s0
      have s1' : World.frozen? (World.alloc _ _) ⟨w.heap.size, 1, none⟩ = false := s1
      have HC5 := hid hC3
      clear hC3 hS s0 s1
      unfold cx
      go_wp2_with fail
      have hC6 := ((HC5.out.bring (l1 := [_, _])).set 0 (by simp) (.int .i64 n)).set 1 (by simp) (.slice p l c)
      exact bodyPost_ret (ret_cx rfl rfl hC6.hd) rfl ⟨_, _, fs, rfl, by omega, hC6.sub (.cons _ (.cons _ (List.Sublist.refl _)))⟩
    · have q0 : (y == 0) = false := by rw [beq_eq_false_iff_ne]; exact e0
      have q1 : (y == 1) = false := by rw [beq_eq_false_iff_ne]; exact e1
      by_cases e2 : y = 2 ∨ y = 3
      · rcases e2 with e2 | e2
        · subst e2
          go_wp2_with fail
          refine (HU.out n n1 n6 _ _ HC2.out).mono ?_
          rintro e w3 ⟨v, fs, rfl, hl, hC3⟩
          obtain ⟨p, l, c, rfl⟩ := hC3.hd.form
          have d0 := hC3.tail.hd.c0
          have d1 := hC3.tail.hd.c1
          have s0 : w3.frozen? ⟨w.heap.size, 0, none⟩ = false := hC3.free (v := bx w.heap.size) (.tail _ (.head _)) 0 (by simp)
          have s1 : w3.frozen? ⟨w.heap.size, 1, none⟩ = false := hC3.free (v := bx w.heap.size) (.tail _ (.head _)) 1 (by simp)
          have HC3 := hid hC3
          clear hC3
          unfold cx
          go_wp2_with fail
          have hC6 := (HC3.out.swap.set 0 (by simp) (.int .i64 n)).set 1 (by simp) (.slice p l c)
          exact bodyPost_ret (ret_cx rfl rfl hC6.hd) rfl ⟨_, _, fs, rfl, by omega, hC6.tail⟩
        · subst e2
          go_wp2_with fail
          refine (HU.out n n1 n6 _ _ HC2.out).mono ?_
          rintro e w3 ⟨v, fs, rfl, hl, hC3⟩
          obtain ⟨p, l, c, rfl⟩ := hC3.hd.form
          have d0 := hC3.tail.hd.c0
          have d1 := hC3.tail.hd.c1
          have s0 : w3.frozen? ⟨w.heap.size, 0, none⟩ = false := hC3.free (v := bx w.heap.size) (.tail _ (.head _)) 0 (by simp)
          have s1 : w3.frozen? ⟨w.heap.size, 1, none⟩ = false := hC3.free (v := bx w.heap.size) (.tail _ (.head _)) 1 (by simp)
          have HC3 := hid hC3
          clear hC3
          unfold cx
          go_wp2_with fail
          have hC6 := (HC3.out.swap.set 0 (by simp) (.int .i64 n)).set 1 (by simp) (.slice p l c)
          exact bodyPost_ret (ret_cx rfl rfl hC6.hd) rfl ⟨_, _, fs, rfl, by omega, hC6.tail⟩
      · have q2 : (y == 2) = false := by rw [beq_eq_false_iff_ne]; omega
        have q3 : (y == 3) = false := by rw [beq_eq_false_iff_ne]; omega
        clear e0 e1 e2
        go_wp2_with fail
        refine (HZ.out n n1 n6 _ _ HC2.out).mono ?_
        rintro e w3 ⟨v, fs, rfl, hl, hC3⟩
        obtain ⟨p, l, c, rfl⟩ := hC3.hd.form
        have d0 := hC3.tail.hd.c0
        have d1 := hC3.tail.hd.c1
        have s0 : w3.frozen? ⟨w.heap.size, 0, none⟩ = false := hC3.free (v := bx w.heap.size) (.tail _ (.head _)) 0 (by simp)
        have s1 : w3.frozen? ⟨w.heap.size, 1, none⟩ = false := hC3.free (v := bx w.heap.size) (.tail _ (.head _)) 1 (by simp)
        have HC3 := hid hC3
        clear hC3
        unfold cx
        go_wp2_with fail
        have hC6 := (HC3.out.swap.set 0 (by simp) (.int .i64 n)).set 1 (by simp) (.slice p l c)
        exact bodyPost_ret (ret_cx rfl rfl hC6.hd) rfl ⟨_, _, fs, rfl, by omega, hC6.tail⟩

set_option maxHeartbeats 4000000 in
set_option maxRecDepth 100000 in
theorem l3Bent_c (g : Nat) (vb : Value) (bs : List Int) (w0 w : World) (env : List Ent) (hC : Cr w0 w g vb bs env) :
    Calls Try.prog 107 #[cp g] w fun e w' => ∃ n v fs, e = .returned (cx n v) ∧ fs.length ≤ 1002 ∧ Cr w0 w' g vb bs (⟨v, 3, ints fs⟩ :: env) := by
  have HC := hid (hC.boxAt 0 (.slice none 0 0) 30 (H := w.heap.size) rfl)
  clear hC
  have HK := hid (fun n w env h => l1Below_c n g vb bs w0 w env h)
  have HP := hid (fun vl xs w env hv hx h => l1PickInt_c vl xs g vb bs w0 w env hv hx h)
  have HD := hid (fun w env h => l3Draw_c g vb bs w0 w env h)
  unfold cp at HK HP HD ⊢
  go_enter Try.func107, Try.ntmps107
  go_wp2_with fail
  refine (HD.out _ _ HC.out).mono ?_
  rintro e w1 ⟨n, v, fs, rfl, hl, hC1⟩
  obtain ⟨p, l, c, rfl⟩ := hC1.hd.form
  obtain ⟨X, hX⟩ : ∃ X, X = w1.heap.size := ⟨_, rfl⟩
  have HC1 := hid (hC1.boxAt n (.slice p l c) 30 (H := X) hX.symm)
  have HX := hid hX
  clear hC1 hX
  unfold cx
  go_wp2_with fail
  rw [← HX.out]
  refine (HK.out _ _ _ HC1.out).mono ?_
  rintro e w2 ⟨y, rfl, hb, hC2⟩
  obtain ⟨y0, y1⟩ := hb.rng (by omega)
  have HC2 := hid hC2
  clear hb
  by_cases e0 : y = 0
  · subst e0
    have HC3 := hid (HC2.out.newAt #[.int .i64 0, .int .i64 7, .int .i64 2] 3 (by simp [maxLen]) (H := w2.heap.size) rfl)
    clear hC2
    go_wp2_with fail
    refine (HP.out _ [0, 7, 2] _ _ (.head _) (by simp) HC3.out).mono ?_
    rintro e w3 ⟨m, rfl, hm, hC4⟩
    have hC5 := hC4.tail
    have b0 := hC5.hd.c0
    have b1 := hC5.hd.c1
    have d0 := hC5.tail.tail.hd.c0
    have d1 := hC5.tail.tail.hd.c1
    have r0 : w3.frozen? ⟨X, 0, none⟩ = false := hC5.free (v := bx X) (.head _) 0 (by simp)
    have s0 : w3.frozen? ⟨w.heap.size, 0, none⟩ = false := hC5.free (v := bx w.heap.size) (.tail _ (.tail _ (.head _))) 0 (by simp)
    have s1 : w3.frozen? ⟨w.heap.size, 1, none⟩ = false := hC5.free (v := bx w.heap.size) (.tail _ (.tail _ (.head _))) 1 (by simp)
    have hC6 : Cr w0 (w3.setCell ⟨X, 0, none⟩ (.int .i64 m)) g vb bs _ := hC5.set 0 (by simp) (.int .i64 m)
    have e0' := hC6.hd.c0
    have e1' := hC6.hd.c1
    have f0 := hC6.tail.tail.hd.c0
    have f1 := hC6.tail.tail.hd.c1
    have s0' : (w3.setCell ⟨X, 0, none⟩ (.int .i64 m)).frozen? ⟨w.heap.size, 0, none⟩ = false := hC6.free (v := bx w.heap.size) (.tail _ (.tail _ (.head _))) 0 (by simp)
    have s1' : (w3.setCell ⟨X, 0, none⟩ (.int .i64 m)).frozen? ⟨w.heap.size, 1, none⟩ = false := hC6.free (v := bx w.heap.size) (.tail _ (.tail _ (.head _))) 1 (by simp)
    have HC6 := hid hC6
    clear hC6 hC5 hC4 hm
    go_wp2_with fail
    have hC7 := ((HC6.out.bring (l1 := [_, _])).set 0 (by simp) (.int .i64 m)).set 1 (by simp) (.slice p l c)
    exact bodyPost_ret (ret_cx rfl rfl hC7.hd) rfl ⟨_, _, fs, rfl, by omega, hC7.sub (.cons _ (.cons _ (List.Sublist.refl _)))⟩
  · have q0 : (y == 0) = false := by rw [beq_eq_false_iff_ne]; exact e0
    by_cases e1 : y = 1
    · subst e1
      have b1 := hC2.hd.c1
      clear hC2
      go_wp2_with fail
      go_region_law
        (first
          | (refine step_app rfl _ _ (by rfl) tI HSa.out.own [.int .i64 (z - 1)] HN.out (by simp [Value.oneCell']) (by simp; omega) (by rfl) (by rfl) ?_; intro v4 w4 hO4 hb4; rw [ints_snoc] at hO4; have hS5 := HSa.out.mut hO4 hb4; obtain ⟨p', l', c', rfl⟩ := hS5.hd.form; have k2' := hS5.hd3.c0; have k3' := hS5.hd3.c1; have k4' := hS5.hd4.c0; have k5' := hS5.hd4.c1; have r1 : w4.frozen? ⟨X, 1, none⟩ = false := hS5.own.free (v := bx X) (.tail _ (.tail _ (.head _))) 1 (by simp); have s0 : w4.frozen? ⟨w.heap.size, 0, none⟩ = false := hS5.own.free (v := bx w.heap.size) (.tail _ (.tail _ (.tail _ (.head _)))) 0 (by simp); have s1 : w4.frozen? ⟨w.heap.size, 1, none⟩ = false := hS5.own.free (v := bx w.heap.size) (.tail _ (.tail _ (.tail _ (.head _)))) 1 (by simp); have HS5 := hid hS5; clear hS5 hO4 hb4)
          | (go_simp; go_at_call 98; refine (HK.out _ _ _ (HC2.out.drewN 1)).mono ?_; rintro e w3 ⟨z, rfl, hb, hC4⟩; have k1' := hC4.hd.c1; have g1 : IntKind.i64.wrap (z - 1) = z - 1 := IntWalk.i64_in _ (by have := hb.rng (by omega); omega); obtain ⟨cc, hSc, hback⟩ := hC4.open; have hSf := hSc.bring (l1 := [_, _]); have HN := hid (hSf.newAt #[.int .i64 (z - 1)] 3 (by simp [maxLen]) (H := w3.heap.size) rfl).hd; have HSa := hid (hSf.alloc (.cells #[.int .i64 (z - 1)] 3)); have k6 : (w3.alloc (.cells #[.int .i64 (z - 1)] 3)).cell? ⟨X, 1, none⟩ = some (.slice p l c) := HSa.out.hd3.c1; have HBK := hid hback; clear hSf hSc hback hC4 hb))
      all_goals
        have hS6 : St w0 (w4.setCell ⟨X, 1, none⟩ (.slice p' l' c')) (⟨bx X, 30, [.int .i64 n, .slice p' l' c']⟩ :: _) := (HS5.out.bring (l1 := [_, _])).set 1 (by simp) (.slice p' l' c')
        clear s0 s1 r1 k2' k3' k4' k5'
        have b0 := hS6.hd.c0
        have b1' := hS6.hd.c1
        have d0 := hS6.hd4.c0
        have d1 := hS6.hd4.c1
        have s0 : (w4.setCell ⟨X, 1, none⟩ (.slice p' l' c')).frozen? ⟨w.heap.size, 0, none⟩ = false := hS6.own.free (v := bx w.heap.size) (.tail _ (.tail _ (.tail _ (.head _)))) 0 (by simp)
        have s1 : (w4.setCell ⟨X, 1, none⟩ (.slice p' l' c')).frozen? ⟨w.heap.size, 1, none⟩ = false := hS6.own.free (v := bx w.heap.size) (.tail _ (.tail _ (.tail _ (.head _)))) 1 (by simp)
        have HS6 := hid hS6
        clear hS6
        go_wp2_with fail
        have hS7 := ((HS6.out.bring (l1 := [_, _, _])).set 0 (by simp) (.int .i64 n)).set 1 (by simp) (.slice p' l' c')
        exact bodyPost_ret (ret_cx rfl rfl hS7.hd) rfl ⟨n, .slice p' l' c', rfl, fs ++ [z - 1], by simp; omega, HBK.out _ _ (hS7.sub (.cons _ (.cons _ (List.Sublist.refl _)))).swap⟩
    · have q1 : (y == 1) = false := by rw [beq_eq_false_iff_ne]; exact e1
      have b0 := hC2.hd.c0
      have b1 := hC2.hd.c1
      have d0 := hC2.tail.tail.hd.c0
      have d1 := hC2.tail.tail.hd.c1
      have s0 : w2.frozen? ⟨w.heap.size, 0, none⟩ = false := hC2.free (v := bx w.heap.size) (.tail _ (.tail _ (.head _))) 0 (by simp)
      have s1 : w2.frozen? ⟨w.heap.size, 1, none⟩ = false := hC2.free (v := bx w.heap.size) (.tail _ (.tail _ (.head _))) 1 (by simp)
      clear hC2
      go_wp2_with fail
      have hC6 := ((HC2.out.bring (l1 := [_, _])).set 0 (by simp) (.int .i64 n)).set 1 (by simp) (.slice p l c)
      exact bodyPost_ret (ret_cx rfl rfl hC6.hd) rfl ⟨_, _, fs, rfl, by omega, hC6.sub (.cons _ (.cons _ (List.Sublist.refl _)))⟩

end Go.Proofs.Ytjaofbdfhcgmeaa
