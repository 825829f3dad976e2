/-
  What the law of duals draws, and the smallest of its tests.
-/
import Derived.Test.YtjaofbdfhcgmeaaLawB
import Derived.Test.YtjaofbdfhcgmeaaOrdB
import Derived.Test.YtjaofbdfhcgmeaaSelf
import Derived.Test.YtjaofbdfhcgmeaaDuMath
import Derived.Deep.RegionHeld3
namespace Go.Proofs.Ytjaofbdfhcgmeaa
open Go.RowKit

theorem three_and {a b c : Bool} (h : (a && (b && c)) = true) : a = true ∧ b = true ∧ c = true := by simpa using h
section
variable {P : Program} {l : List Oper} {Q : Exit → Act → World → Prop} {md : Region.Mode} {S : World → Prop}
/-- An operation that comes up, taken first. -/
theorem tkL {i : Nat} {oi : Oper} {v : Value} {fuel : Nat} {listed : Array Bool} {a : Act} {w : World} (hi : l[i]? = some oi)
    (hb : (Region.noSelect l.toArray && (Region.free md l.toArray listed i && (Region.ready md l.toArray listed).contains i)) = true)
    (hQ : ∀ c a w, Q (.panic c) (a.put oi.dst v) w → Q (.panic c) a w) (hw : Region.wanted oi (yielded l.toArray a.tmps) = true) (hy : ∀ w, S w → (execOp a.eval oi).run P w = .ok (.value v) w) (hS : S w)
    (h : wpAnyH P md l.toArray Q S fuel (listed.setIfInBounds i true) (a.put oi.dst v) w) : wpAnyH P md l.toArray Q S (fuel + 1) listed a w :=
  wpAnyH_take (by simpa using hi) (three_and hb).1 (three_and hb).2.1 (three_and hb).2.2 hQ (.inl ⟨hw, hy⟩) hS h
/-- An operation that its guard passes over. -/
theorem tkR {i : Nat} {oi : Oper} {fuel : Nat} {listed : Array Bool} {a : Act} {w : World} (hi : l[i]? = some oi)
    (hb : (Region.noSelect l.toArray && (Region.free md l.toArray listed i && (Region.ready md l.toArray listed).contains i)) = true)
    (hQ : ∀ c a w, Q (.panic c) (a.put oi.dst undef) w → Q (.panic c) a w) (hw : Region.wanted oi (yielded l.toArray a.tmps) = false) (hS : S w)
    (h : wpAnyH P md l.toArray Q S fuel (listed.setIfInBounds i true) (a.put oi.dst undef) w) : wpAnyH P md l.toArray Q S (fuel + 1) listed a w :=
  wpAnyH_take (by simpa using hi) (three_and hb).1 (three_and hb).2.1 (three_and hb).2.2 hQ (.inr ⟨hw, rfl⟩) hS h
theorem consL {fuel : Nat} {listed : Array Bool} {a : Act} {w : World} {i : Nat} {o : Oper} {rs : List Nat} (ho : l[i]? = some o)
    (h : ∀ K' : Act → World → Prop, Shut (∀ a w, S w → (S w → wpAnyH P md l.toArray Q S fuel (listed.setIfInBounds i true) a w) → K' a w) → if Region.wanted o (yielded l.toArray a.tmps) = true then Oper.wp P o a w K' Q else K' (a.put o.dst undef) w)
    (hs : AllReadyH P md l.toArray Q S fuel listed a w rs) : AllReadyH P md l.toArray Q S fuel listed a w (i :: rs) := AllReadyH.cons (by simpa using ho) h hs
end

theorem intsOne (xs : List Int) : ∀ u ∈ ints xs, u.oneCell' = true := fun u h => by
  obtain ⟨x, _, rfl⟩ := List.mem_map.1 h; rfl

set_option maxHeartbeats 1000000 in
theorem sameCx_c (n : Int) (va vb : Value) (fs : List Int) (w : World) (ha : Rd w va (ints fs)) (hb : Rd w vb (ints fs)) : Calls Try.prog 21 #[cx n va, cx n vb] w fun e w' => e = .returned (.bool true) ∧ Below w.heap.size w w' := by
  obtain ⟨p1, l1, k1, rfl⟩ := ha.form
  obtain ⟨p2, l2, k2, rfl⟩ := hb.form
  have hS := ((St.start w).box n (.slice p1 l1 k1) 30).boxAt n (.slice p2 l2 k2) 30 (H := w.heap.size + 1) (by simp)
  have ha' := hS.old ha
  have hb' := hS.old hb
  have HS := hid hS
  have q0 : (n == n) = true := beq_self_eq_true _
  clear hS
  unfold cx
  go_enter Try.func21, Try.ntmps21
  go_wp2_with fail
  refine (same_c _ _ fs _ ha' hb').mono ?_
  rintro e w1 ⟨rfl, q, rfl⟩
  go_wp2_with fail
  go_ret
  exact ⟨rfl, (HS.out.drewN q).bel⟩


set_option maxHeartbeats 1000000 in
set_option maxRecDepth 100000 in
theorem DrawDualOf_c (vb : Value) (bs : List Int) (w : World) (hb : Rd w vb (byts bs)) : Calls Try.prog 27 #[vb] w fun e w' => ∃ n v fs, e = .returned (cx n v) ∧ fs.length ≤ 1002 ∧ St w w' [⟨v, 3, ints fs⟩] := by
  have HS := hid ((St.start w).box 0 (.slice none 0 0) 30)
  have HB := hid hb
  clear hb
  go_enter Try.func27, Try.ntmps27
  go_wp2_with fail
  refine (l1New_c vb bs w _ _ HS.out HB.out).mono ?_
  rintro e w1 ⟨g, rfl, hC⟩
  have HC := hid hC
  clear hC
  go_wp2_with fail
  refine (l3Bent_c g vb bs w _ _ HC.out).mono ?_
  rintro e w2 ⟨n, v, fs, rfl, hl, hC1⟩
  obtain ⟨p, l, c, rfl⟩ := hC1.hd.form
  have d0 := hC1.tail.hd.c0
  have d1 := hC1.tail.hd.c1
  have s0 : w2.frozen? ⟨w.heap.size, 0, none⟩ = false := hC1.free (v := bx w.heap.size) (.tail _ (.head _)) 0 (by simp)
  have s1 : w2.frozen? ⟨w.heap.size, 1, none⟩ = false := hC1.free (v := bx w.heap.size) (.tail _ (.head _)) 1 (by simp)
  have HC1 := hid hC1
  clear hC1
  unfold cx
  go_wp2_with fail
  have hC6 := (HC1.out.swap.set 0 (by simp) (.int .i64 n)).set 1 (by simp) (.slice p l c)
  exact bodyPost_ret (ret_cx rfl rfl hC6.hd) rfl ⟨_, _, fs, rfl, hl, hC6.tail.st⟩
set_option maxHeartbeats 2000000 in
set_option maxRecDepth 100000 in
theorem DrawFromMissing_c (vb : Value) (bs : List Int) (w : World) (hb : Rd w vb (byts bs)) : Calls Try.prog 120 #[vb] w fun e w' => ∃ n v xs, e = .returned (.tuple #[.int .i64 n, v]) ∧ xs.length ≤ 6 ∧ St w w' [⟨v, 3, ints xs⟩] := by
  have HS := hid (St.start w)
  have HB := hid hb
  clear hb
  have HO := hid (fun n g w1 env h => l1Once_c n g vb bs w w1 env h)
  go_enter Try.func120, Try.ntmps120
  go_wp2_with fail
  refine (l1New_c vb bs w _ _ HS.out HB.out).mono ?_
  rintro e w1 ⟨g, rfl, hC⟩
  have HC := hid (hC.newAt #[.int .i64 1, .int .i64 2, .int .i64 3, .int .i64 4, .int .i64 5, .int .i64 6, .int .i64 6, .int .i64 6, .int .i64 0, .int .i64 7] 3 (by simp [maxLen]) (H := w1.heap.size) rfl)
  clear hC
  go_wp2_with fail
  refine (l1PickInt_c _ [1, 2, 3, 4, 5, 6, 6, 6, 0, 7] g vb bs w _ _ (.head _) (by simp) HC.out).mono ?_
  rintro e w2 ⟨n, rfl, _, hC⟩
  have HC2 := hid hC.tail
  clear hC
  go_wp2_with fail
  refine (l2Sets_c g vb bs w _ _ HC2.out).mono ?_
  rintro e w3 ⟨v, xs, rfl, ⟨hl, _⟩, hC⟩
  have HC3 := hid hC
  clear hC
  go_wp2_with fail
  go_loopw [7] (fun c wr => ∃ (k : Nat) (ys : List Int), k ≤ xs.length ∧ c = .int .i64 k ∧ ys.length = xs.length ∧ Cr w wr g vb bs [⟨v, 3, ints ys⟩]) (fun c _ => xs.length - (intOf c).toNat)
  case atStart => exact ⟨0, xs, Nat.zero_le _, rfl, rfl, HC3.out⟩
  case round =>
    obtain ⟨k, ys, hk, rfl, hyl, hC⟩ := hrel
    have lv := hC.hd.iln tI
    rw [hyl] at lv
    have HC4 := hid hC
    clear hC
    by_cases hlt : k < xs.length
    · go_wp2_with fail
      refine (HO.out _ g _ _ HC4.out).mono ?_
      rintro e w4 ⟨b, rfl, hC⟩
      have f1 := hC.hd.iix tI k (by omega)
      have f2 := hC.hd.intCell k (by omega)
      have f3 := hC.free (.head _) k (by simp; omega)
      have HC5 := hid hC
      clear hC
      cases b with
      | true =>
        go_wp2_with fail
        go_ret2
        exact ⟨_, _, ys, rfl, by omega, HC5.out.st⟩
      | false =>
        by_cases h1 : 1 ≤ n
        · by_cases h6 : n ≤ 6
          · by_cases hp : 0 < gi ys k
            · go_wp2_with fail
              go_roundw
              case rel =>
                have hC6 := HC5.out.set k (by simp; omega) (.int .i64 (bits .and .i64 (gi ys k) (wrap64 (wrap64 (2 ^ n.toNat) - 1))))
                rw [ints_set] at hC6
                exact ⟨k + 1, _, by omega, by go_num, by simp [hyl], hC6⟩
              case measure => simp [intOf]; omega
            · have q1 : decide (0 < gi ys k) = false := decide_eq_false hp
              go_wp2_with fail
              go_roundw
              case rel => exact ⟨k + 1, ys, by omega, by go_num, hyl, HC5.out⟩
              case measure => simp [intOf]; omega
          · go_wp2_with fail
            go_roundw
            case rel => exact ⟨k + 1, ys, by omega, by go_num, hyl, HC5.out⟩
            case measure => simp [intOf]; omega
        · go_wp2_with fail
          go_roundw
          case rel => exact ⟨k + 1, ys, by omega, by go_num, hyl, HC5.out⟩
          case measure => simp [intOf]; omega
    · go_wp2_with fail
      go_ret2
      exact ⟨_, _, ys, rfl, by omega, HC4.out.st⟩
set_option maxHeartbeats 1000000 in
set_option maxRecDepth 100000 in
theorem DrawComplementOf_c (vb : Value) (bs : List Int) (w : World) (hb : Rd w vb (byts bs)) : Calls Try.prog 30 #[vb] w fun e w' => ∃ a p, e = .returned (.tuple #[.int .i64 a, .int .i64 p]) ∧ Below w.heap.size w w' := by
  have HS := hid (St.start w)
  have HB := hid hb
  clear hb
  have HK := hid (fun n g w1 env h => l1Below_c n g vb bs w w1 env h)
  go_enter Try.func30, Try.ntmps30
  go_wp2_with fail
  refine (l1New_c vb bs w _ _ HS.out HB.out).mono ?_
  rintro e w1 ⟨g, rfl, hC⟩
  have HC := hid hC
  clear hC
  go_wp2_with fail
  refine (HK.out 9 g _ _ HC.out).mono ?_
  rintro e w2 ⟨x, rfl, hx, hC⟩
  obtain ⟨x0, x1⟩ := hx.rng (by omega)
  have HC2 := hid hC
  clear hC hx
  go_wp2_with fail
  refine (HK.out 66 g _ _ HC2.out).mono ?_
  rintro e w3 ⟨y, rfl, hy, hC⟩
  obtain ⟨y0, y1⟩ := hy.rng (by omega)
  have HC3 := hid hC
  clear hC hy
  go_wp2_with fail
  go_ret2
  exact ⟨x - 1, y - 1, rfl, HC3.out.st.bel⟩
set_option maxHeartbeats 1000000 in
set_option maxRecDepth 100000 in
theorem DrawCoversOf_c (vb : Value) (bs : List Int) (w : World) (hb : Rd w vb (byts bs)) : Calls Try.prog 32 #[vb] w fun e w' => ∃ n v xs, e = .returned (.tuple #[.int .i64 n, v]) ∧ xs.length ≤ 6 ∧ St w w' [⟨v, 3, ints xs⟩] := by
  have HB := hid hb
  clear hb
  go_enter Try.func32, Try.ntmps32
  go_wp2_with fail
  refine (DrawFromMissing_c vb bs w HB.out).mono ?_
  rintro e w1 ⟨n, v, xs, rfl, hl, hS⟩
  have HS := hid hS
  have HL := hid hl
  clear hS hl
  go_wp2_with fail
  go_ret2
  exact ⟨_, _, xs, rfl, HL.out, HS.out⟩
set_option maxHeartbeats 2000000 in
set_option maxRecDepth 100000 in
theorem DrawIsSelfDual_c (vb : Value) (bs : List Int) (w : World) (hb : Rd w vb (byts bs)) : Calls Try.prog 31 #[vb] w fun e w' => ∃ n v fs, e = .returned (cx n v) ∧ fs.length ≤ 1002 ∧ St w w' [⟨v, 3, ints fs⟩] := by
  have HS := hid ((St.start w).box 0 (.slice none 0 0) 30)
  have HB := hid hb
  clear hb
  go_enter Try.func31, Try.ntmps31
  go_wp2_with fail
  refine (l1New_c vb bs w _ _ HS.out HB.out).mono ?_
  rintro e w1 ⟨g, rfl, hC⟩
  have HC := hid hC
  clear hC
  go_wp2_with fail
  refine (l1Once_c _ g vb bs w _ _ HC.out).mono ?_
  rintro e w2 ⟨b, rfl, hC⟩
  have HC2 := hid hC
  clear hC
  cases b with
  | true =>
    go_wp2_with fail
    refine (ParseComplex_c ⟨#[54, 58, 97, 99, 100, 44, 98, 99, 100, 44, 97, 98, 101, 44, 97, 99, 101, 44, 98, 100, 101, 44, 97, 98, 102, 44, 98, 99, 102, 44, 97, 100, 102, 44, 99, 101, 102, 44, 100, 101, 102]⟩ (by decide) _).mono ?_
    rintro e w4 ⟨n, v, fs, b, rfl, hl, hS⟩
    obtain ⟨p, l, c, rfl⟩ := hS.hd.form
    have hC3 := (HC2.out.call1 hS).boxAt n (.slice p l c) 30 (H := w4.heap.size) rfl
    have b0 := hC3.hd.c0
    have b1 := hC3.hd.c1
    have d0 := (hC3.tail.tail).hd.c0
    have d1 := (hC3.tail.tail).hd.c1
    have s0 : World.frozen? (World.alloc _ _) ⟨w.heap.size, 0, none⟩ = false := hC3.free (v := bx w.heap.size) (.tail _ (.tail _ (.head _))) 0 (by simp)
    have s1 : World.frozen? (World.alloc _ _) ⟨w.heap.size, 1, none⟩ = false := hC3.free (v := bx w.heap.size) (.tail _ (.tail _ (.head _))) 1 (by simp)
    have HC5 := hid hC3
    have HL := hid hl
    clear hC3 hS hl
    unfold cx
    go_wp2_with fail
    have hC6 := ((HC5.out.bring (l1 := [_, _])).set 0 (by simp) (.int .i64 n)).set 1 (by simp) (.slice p l c)
    exact bodyPost_ret (ret_cx rfl rfl hC6.hd) rfl ⟨_, _, fs, rfl, by have := HL.out; omega, hC6.st.sub (.cons _ (.cons _ (.cons_cons _ (List.nil_sublist _))))⟩
  | false =>
    go_wp2_with fail
    refine (l3Bent_c g vb bs w _ _ HC2.out).mono ?_
    rintro e w3 ⟨n, v, fs, rfl, hl, hC1⟩
    obtain ⟨p, l, c, rfl⟩ := hC1.hd.form
    have d0 := hC1.tail.hd.c0
    have d1 := hC1.tail.hd.c1
    have s0 : w3.frozen? ⟨w.heap.size, 0, none⟩ = false := hC1.free (v := bx w.heap.size) (.tail _ (.head _)) 0 (by simp)
    have s1 : w3.frozen? ⟨w.heap.size, 1, none⟩ = false := hC1.free (v := bx w.heap.size) (.tail _ (.head _)) 1 (by simp)
    have HC1 := hid hC1
    clear hC1
    unfold cx
    go_wp2_with fail
    have hC6 := (HC1.out.swap.set 0 (by simp) (.int .i64 n)).set 1 (by simp) (.slice p l c)
    exact bodyPost_ret (ret_cx rfl rfl hC6.hd) rfl ⟨_, _, fs, rfl, hl, hC6.tail.st⟩
set_option maxHeartbeats 1000000 in
theorem at22_c (va : Value) (xs : List Int) (i : Int) (w : World) (ha : Rd w va (ints xs)) : Calls Try.prog 43 #[va, .int .i64 i] w fun e w' => e = .returned (.int .i64 (atB xs i)) ∧ w = w' := by
  have la := ha.iln tI
  by_cases h0 : i < 0
  · have E : Hid (atB xs i = 0) := if_pos (.inl h0)
    have q0 : decide (i < 0) = true := decide_eq_true h0
    go_enter Try.func43, Try.ntmps43
    go_wp2_with fail
    go_ret
    exact ⟨by rw [E.out]; rfl, rfl⟩
  · have q0 : decide (i < 0) = false := decide_eq_false h0
    by_cases h1 : (xs.length : Int) ≤ i
    · have E : Hid (atB xs i = 0) := if_pos (.inr h1)
      have q1 : decide ((xs.length : Int) ≤ i) = true := decide_eq_true h1
      go_enter Try.func43, Try.ntmps43
      go_wp2_with fail
      go_ret
      exact ⟨by rw [E.out]; rfl, rfl⟩
    · have q1 : decide ((xs.length : Int) ≤ i) = false := decide_eq_false h1
      obtain ⟨j, rfl⟩ := Int.eq_ofNat_of_zero_le (Int.not_lt.1 h0)
      have hj : j < xs.length := by omega
      have E : Hid (atB xs (j : Int) = gi xs j) := atB_nat xs j
      have f1 := ha.iix tI j hj
      have f2 := ha.intCell j hj
      go_enter Try.func43, Try.ntmps43
      go_wp2_with fail
      go_ret
      exact ⟨by rw [E.out]; rfl, rfl⟩

end Go.Proofs.Ytjaofbdfhcgmeaa
