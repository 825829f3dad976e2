/-
  What the law of names draws: names in some order, few points.
-/
import Derived.Test.YtjaofbdfhcgmeaaGreatRen
import Derived.Test.YtjaofbdfhcgmeaaGreatZDraw
import Derived.Deep.RegionHeld3
namespace Go.Proofs.YtjaofbdfhcgmeaaGreat
open Go.RowKit

/-- The numbers less than k, each once. -/
def Shuf (k : Nat) (xs : List Int) : Prop := xs.length = k ∧ (∀ x ∈ xs, 0 ≤ x ∧ x < (k : Int)) ∧ xs.Nodup
theorem shuf_nil : Shuf 0 [] := ⟨rfl, fun x h => by simp at h, List.Pairwise.nil⟩
theorem shuf_ins {k a : Nat} {xs : List Int} (h : Shuf k xs) : Shuf (k + 1) (xs.take a ++ [(k : Int)] ++ xs.drop a) := by
  have hp : (xs.take a ++ [(k : Int)] ++ xs.drop a).Perm ((k : Int) :: xs) := by
    rw [List.append_assoc]
    have := List.perm_middle (a := (k : Int)) (l₁ := xs.take a) (l₂ := xs.drop a)
    rwa [List.take_append_drop] at this
  refine ⟨by rw [hp.length_eq, List.length_cons, h.1], fun x hx => ?_, hp.nodup_iff.2 (List.nodup_cons.2 ⟨fun hk => by have := h.2.1 _ hk; omega, h.2.2⟩)⟩
  rcases List.mem_cons.1 (hp.mem_iff.1 hx) with rfl | hx
  · omega
  · have := h.2.1 x hx; omega
theorem shuf_names {n : Int} {xs : List Int} (h : Shuf n.toNat xs) (h1 : 1 ≤ n) (h6 : n ≤ 6) : Names n xs :=
  ⟨h1, h6, by have := h.1; omega, fun x hx => by have := h.2.1 x hx; omega, h.2.2⟩
theorem onesI (xs : List Int) : ∀ u ∈ ints xs, u.oneCell' = true := fun u h => by
  obtain ⟨x, _, rfl⟩ := List.mem_map.1 h; rfl
theorem ints_take (xs : List Int) (k : Nat) : (ints xs).take k = ints (xs.take k) := by simp [ints, List.map_take]
theorem upTo_block (v : Value) (k : Nat) : (upTo v k).ownBlock = v.ownBlock := by
  unfold upTo
  split
  · rename_i a n c
    cases a <;> rfl
  · rfl
/-- What one owns up to a place. -/
theorem St.cut {w0 w : World} {v : Value} {e : TypeId} {L : List Value} {env : List Ent} (h : St w0 w (⟨v, e, L⟩ :: env)) {k : Nat} (hk : k ≤ L.length) : St w0 w (⟨upTo v k, e, L.take k⟩ :: env) := by
  refine ⟨⟨h.own.base, fun x hx => ?_, ?_⟩, h.bel⟩
  · rcases List.mem_cons.1 hx with rfl | hx
    · obtain ⟨h1, h2⟩ := h.own.own _ (List.mem_cons_self ..)
      have e1 : (L.take k).length = k := by simp; omega
      show World.ownsRow w w0.heap.size e 1 (upTo v k) (L.take k).length (L.take k)
      rw [e1]
      refine ⟨by rw [e1]; omega, ?_⟩
      rcases h2 with ⟨hv, hn⟩ | ⟨g, cap, cur, hv, hb, hg, hnc, hcm, hsz, hcur⟩
      · have hn' : L.length = 0 := hn
        have hk0 : k = 0 := by omega
        have hv' : v = .slice none 0 0 := hv
        left
        rw [hv', hk0]
        exact ⟨rfl, rfl⟩
      · have hv' : v = .slice (some ⟨g, 0, none⟩) L.length cap := hv
        have hnc' : L.length ≤ cap := hnc
        have hcur' : cur.toList.take (L.length * 1) = L := hcur
        right
        refine ⟨g, cap, cur, by rw [hv']; rfl, hb, hg, by omega, hcm, hsz, ?_⟩
        rw [← hcur', List.take_take]
        congr 1
        omega
    · exact h.own.own x (List.mem_cons_of_mem _ hx)
  · have := h.own.apart
    rw [List.pairwise_cons] at this ⊢
    refine ⟨fun x hx => ?_, this.2⟩
    have := this.1 x hx
    rwa [← upTo_block v k] at this

set_option maxHeartbeats 2000000 in
set_option maxRecDepth 100000 in
theorem l9Shuffle_c (n : Int) (n0 : 0 ≤ n) (n6 : n ≤ 6) (g : Nat) (vb : Value) (bs : List Int) (w0 w : World) (env : List Ent) (hC : Cr w0 w g vb bs env) :
    Calls Tryz.prog 30 #[cp g, .int .i64 n] w fun e w' => ∃ v xs, e = .returned v ∧ Shuf n.toNat xs ∧ Cr w0 w' g vb bs (⟨v, 3, ints xs⟩ :: env) := by
  have HC := hid (hC.newAt #[] 3 (by simp) (H := w.heap.size) rfl)
  have HK := hid (fun n w env h => l1Below_c n g vb bs w0 w env h)
  clear hC
  unfold cp at HK ⊢
  go_enter Tryz.func30, Tryz.ntmps30
  go_wp2_with fail
  go_loopw [5, 6] (fun o i wr => ∃ (k : Nat) (u : Value) (xs : List Int), (k : Int) ≤ n ∧ i = .int .i64 k ∧ o = u ∧ Shuf k xs ∧ Cr w0 wr g vb bs (⟨u, 3, ints xs⟩ :: env)) (fun _ i _ => 10 - (intOf i).toNat)
  case atStart => exact ⟨0, _, [], by omega, rfl, rfl, shuf_nil, HC.out⟩
  case round =>
    obtain ⟨k, u, xs, hk, rfl, rfl, hs, hC⟩ := hrel
    have HSH := hid hs
    have hlen := hs.1
    have la := hC.hd.iln tI
    have HC2 := hid hC
    clear hC hs
    by_cases hlt : (k : Int) < n
    · have ds : decide ((k : Int) < n) = true := decide_eq_true hlt
      have e1 : IntKind.i64.wrap ((xs.length : Int) + 1) = (xs.length : Int) + 1 := IntWalk.i64_in _ (by omega)
      go_wp2_with fail
      refine (HK.out _ _ _ HC2.out).mono ?_
      rintro e w2 ⟨a, rfl, ha, hC3⟩
      obtain ⟨a0, a1⟩ := ha.rng (by omega)
      obtain ⟨A, rfl⟩ := Int.eq_ofNat_of_zero_le a0
      have hA : A ≤ xs.length := by omega
      obtain ⟨c, hS, hback⟩ := hC3.open
      have hSn := hS.newAt #[] 3 (by simp) (H := w2.heap.size) rfl
      have f1 := hSn.hd3.runFrom tI A (by simpa using hA)
      have hv := hSn.hd3.ifromTo (l := A) hA
      have HV := hid hv
      have HSN := hid hSn
      have HBK := hid hback
      clear hC3 hS hSn hv hback ha
      go_wp2_with (at_builtin; refine wpList_app rfl _ _ rfl tI HSN.out.own HV.out (onesI _) (by simp; omega) rfl rfl ?_)
      intro v4 w6 hO4 hb4
      have hS6 := HSN.out.mut hO4 hb4
      have f2 := hS6.hd3.runUpTo tI A (by simpa using hA)
      have hcut := (hS6.bring (l1 := [_, _])).cut (k := A) (by simpa using hA)
      rw [ints_take] at hcut
      have HCT := hid hcut
      clear hO4 hb4 hS6 hcut f1
      go_wp2_with (at_builtin; refine wpList_push rfl _ _ rfl tI HCT.out.own (.int .i64 (k : Int)) rfl (by simp; omega) rfl rfl ?_)
      intro v5 w7 hO5 hb5
      rw [ints_snoc] at hO5
      have HS7 := hid (HCT.out.mut hO5 hb5)
      clear hO5 hb5 f2
      go_wp2_with (at_builtin; refine wpList_app rfl _ _ rfl tI HS7.out.own HS7.out.hd2 (onesI _) (by simp; omega) rfl rfl ?_)
      intro v6 w8 hO6 hb6
      have hS8 := HS7.out.mut hO6 hb6
      have HS8 := hid hS8
      clear hO6 hb6 hS8
      go_wp2_with fail
      go_roundw
      case rel =>
        refine ⟨k + 1, v6, xs.take A ++ [(k : Int)] ++ xs.drop A, by omega, by go_num, rfl, shuf_ins HSH.out, HBK.out _ _ ?_⟩
        have h9 := (HS8.out.sub (.cons_cons _ (.cons _ (.cons_cons _ (List.Sublist.refl _))))).swap
        rw [ints_append]
        exact h9
      case measure => simp [intOf]; omega
    · have ds : decide ((k : Int) < n) = false := decide_eq_false hlt
      have ek : k = n.toNat := by omega
      have EK := hid ek
      clear ek
      go_wp2_with fail
      go_ret
      first | exact ⟨_, rfl, xs, by rw [← EK.out]; exact HSH.out, HC2.out⟩ | exact ⟨_, xs, rfl, by rw [← EK.out]; exact HSH.out, HC2.out⟩

set_option maxHeartbeats 2000000 in
set_option maxRecDepth 100000 in
theorem l9Few_c (g : Nat) (vb : Value) (bs : List Int) (w0 w : World) (env : List Ent) (hC : Cr w0 w g vb bs env) :
    Calls Tryz.prog 46 #[cp g] w fun e w' => ∃ n v fs, e = .returned (cx n v) ∧ fs.length ≤ 1002 ∧ Cr w0 w' g vb bs (⟨v, 3, ints fs⟩ :: env) := by
  have HC := hid (hC.boxAt 0 (.slice none 0 0) 26 (H := w.heap.size) rfl)
  clear hC
  have HK := hid (fun n w env h => l1Below_c n g vb bs w0 w env h)
  have HO := hid (fun n w env h => l1Once_c n g vb bs w0 w env h)
  have HB := hid (fun w env h => l3Bent_c g vb bs w0 w env h)
  have HZ := hid (fun n h0 h6 w env h => l3Size_c n h0 h6 g vb bs w0 w env h)
  unfold cp at HK HO HB HZ ⊢
  go_enter Tryz.func46, Tryz.ntmps46
  go_wp2_with fail
  refine (HO.out _ _ _ HC.out).mono ?_
  rintro e w1 ⟨b, rfl, hC1⟩
  have HC1 := hid hC1
  clear hC1
  cases b with
  | true =>
    go_wp2_with fail
    refine (HB.out _ _ HC1.out).mono ?_
    rintro e w2 ⟨n, v, fs, rfl, hl, hC2⟩
    obtain ⟨p, l, c, rfl⟩ := hC2.hd.form
    have d0 := hC2.tail.hd.c0
    have d1 := hC2.tail.hd.c1
    have s0 : w2.frozen? ⟨w.heap.size, 0, none⟩ = false := hC2.free (v := bx w.heap.size) (.tail _ (.head _)) 0 (by simp)
    have s1 : w2.frozen? ⟨w.heap.size, 1, none⟩ = false := hC2.free (v := bx w.heap.size) (.tail _ (.head _)) 1 (by simp)
    have HC2 := hid hC2
    clear hC2
    unfold cx
    go_wp2_with fail
    have hC6 := (HC2.out.swap.set 0 (by simp) (.int .i64 n)).set 1 (by simp) (.slice p l c)
    exact bodyPost_ret (ret_cx rfl rfl hC6.hd) rfl ⟨_, _, fs, rfl, hl, hC6.tail⟩
  | false =>
    go_wp2_with fail
    refine (HK.out _ _ _ HC1.out).mono ?_
    rintro e w2 ⟨y, rfl, hy, hC2⟩
    obtain ⟨y0, y1⟩ := hy.rng (by omega)
    have e1 : IntKind.i64.wrap (1 + y) = 1 + y := IntWalk.i64_in _ (by omega)
    have HC2 := hid hC2
    clear hC2 hy
    go_wp2_with fail
    refine (HZ.out (1 + y) (by omega) (by omega) _ _ HC2.out).mono ?_
    rintro e w3 ⟨v, fs, rfl, hl, hC3⟩
    obtain ⟨N, hN⟩ : ∃ N, N = 1 + y := ⟨_, rfl⟩
    rw [← hN]
    clear hN
    obtain ⟨p, l, c, rfl⟩ := hC3.hd.form
    have d0 := hC3.tail.hd.c0
    have d1 := hC3.tail.hd.c1
    have s0 : w3.frozen? ⟨w.heap.size, 0, none⟩ = false := hC3.free (v := bx w.heap.size) (.tail _ (.head _)) 0 (by simp)
    have s1 : w3.frozen? ⟨w.heap.size, 1, none⟩ = false := hC3.free (v := bx w.heap.size) (.tail _ (.head _)) 1 (by simp)
    have HC3 := hid hC3
    have HL := hid hl
    clear hC3 hl
    unfold cx
    go_wp2_with fail
    have hC6 := (HC3.out.swap.set 0 (by simp) (.int .i64 N)).set 1 (by simp) (.slice p l c)
    exact bodyPost_ret (ret_cx rfl rfl hC6.hd) rfl ⟨_, _, fs, rfl, by have := HL.out; omega, hC6.tail⟩

set_option maxHeartbeats 1000000 in
set_option maxRecDepth 100000 in
theorem DrawCanonicalComplex_c (vb : Value) (bs : List Int) (w : World) (hb : Rd w vb (byts bs)) : Calls Tryz.prog 11 #[vb] w fun e w' => ∃ n v fs, e = .returned (cx n v) ∧ fs.length ≤ 1002 ∧ St w w' [⟨v, 3, ints fs⟩] := by
  have HS := hid ((St.start w).box 0 (.slice none 0 0) 26)
  have HB := hid hb
  clear hb
  go_enter Tryz.func11, Tryz.ntmps11
  go_wp2_with fail
  refine (l1New_c vb bs w _ _ HS.out HB.out).mono ?_
  rintro e w1 ⟨g, rfl, hC⟩
  have HC := hid hC
  clear hC
  go_wp2_with fail
  refine (l9Few_c g vb bs w _ _ HC.out).mono ?_
  rintro e w2 ⟨n, v, fs, rfl, hl, hC1⟩
  obtain ⟨p, l, c, rfl⟩ := hC1.hd.form
  have d0 := hC1.tail.hd.c0
  have d1 := hC1.tail.hd.c1
  have s0 : w2.frozen? ⟨w.heap.size, 0, none⟩ = false := hC1.free (v := bx w.heap.size) (.tail _ (.head _)) 0 (by simp)
  have s1 : w2.frozen? ⟨w.heap.size, 1, none⟩ = false := hC1.free (v := bx w.heap.size) (.tail _ (.head _)) 1 (by simp)
  have HC1 := hid hC1
  clear hC1
  unfold cx
  go_wp2_with fail
  have hC6 := (HC1.out.swap.set 0 (by simp) (.int .i64 n)).set 1 (by simp) (.slice p l c)
  exact bodyPost_ret (ret_cx rfl rfl hC6.hd) rfl ⟨_, _, fs, rfl, hl, hC6.tail.st⟩

set_option maxHeartbeats 1000000 in
set_option maxRecDepth 100000 in
theorem DrawPointClasses_c (vb : Value) (bs : List Int) (w : World) (hb : Rd w vb (byts bs)) : Calls Tryz.prog 15 #[vb] w fun e w' => ∃ n v fs, e = .returned (cx n v) ∧ fs.length ≤ 1002 ∧ St w w' [⟨v, 3, ints fs⟩] := by
  have HS := hid ((St.start w).box 0 (.slice none 0 0) 26)
  have HB := hid hb
  clear hb
  go_enter Tryz.func15, Tryz.ntmps15
  go_wp2_with fail
  refine (l1New_c vb bs w _ _ HS.out HB.out).mono ?_
  rintro e w1 ⟨g, rfl, hC⟩
  have HC := hid hC
  clear hC
  go_wp2_with fail
  refine (l9Few_c g vb bs w _ _ HC.out).mono ?_
  rintro e w2 ⟨n, v, fs, rfl, hl, hC1⟩
  obtain ⟨p, l, c, rfl⟩ := hC1.hd.form
  have d0 := hC1.tail.hd.c0
  have d1 := hC1.tail.hd.c1
  have s0 : w2.frozen? ⟨w.heap.size, 0, none⟩ = false := hC1.free (v := bx w.heap.size) (.tail _ (.head _)) 0 (by simp)
  have s1 : w2.frozen? ⟨w.heap.size, 1, none⟩ = false := hC1.free (v := bx w.heap.size) (.tail _ (.head _)) 1 (by simp)
  have HC1 := hid hC1
  clear hC1
  unfold cx
  go_wp2_with fail
  have hC6 := (HC1.out.swap.set 0 (by simp) (.int .i64 n)).set 1 (by simp) (.slice p l c)
  exact bodyPost_ret (ret_cx rfl rfl hC6.hd) rfl ⟨_, _, fs, rfl, hl, hC6.tail.st⟩


theorem l1Max_c (a b : Int) (w : World) : Calls Tryz.prog 31 #[.int .i64 a, .int .i64 b] w fun e w' => e = .returned (.int .i64 (max a b)) ∧ w = w' := by
  by_cases h : b < a
  · have E : Hid (max a b = a) := by show _ = _; omega
    go_enter Tryz.func31, Tryz.ntmps31
    go_wp2_with fail
    go_ret
    exact ⟨by rw [E.out]; rfl, rfl⟩
  · have E : Hid (max a b = b) := by show _ = _; omega
    go_enter Tryz.func31, Tryz.ntmps31
    go_wp2_with fail
    go_ret
    exact ⟨by rw [E.out]; rfl, rfl⟩
theorem l1Min_c (a b : Int) (w : World) : Calls Tryz.prog 32 #[.int .i64 a, .int .i64 b] w fun e w' => e = .returned (.int .i64 (min a b)) ∧ w = w' := by
  by_cases h : a < b
  · have E : Hid (min a b = a) := by show _ = _; omega
    go_enter Tryz.func32, Tryz.ntmps32
    go_wp2_with fail
    go_ret
    exact ⟨by rw [E.out]; rfl, rfl⟩
  · have E : Hid (min a b = b) := by show _ = _; omega
    go_enter Tryz.func32, Tryz.ntmps32
    go_wp2_with fail
    go_ret
    exact ⟨by rw [E.out]; rfl, rfl⟩
theorem l1Bit_c (b : Bool) (w : World) : Calls Tryz.prog 41 #[.bool b] w fun e w' => e = .returned (.int .i64 (if b = true then 1 else 0)) ∧ w = w' := by
  cases b
  · go_enter Tryz.func41, Tryz.ntmps41
    go_wp2_with fail
    go_ret
    exact ⟨rfl, rfl⟩
  · go_enter Tryz.func41, Tryz.ntmps41
    go_wp2_with fail
    go_ret
    exact ⟨rfl, rfl⟩

end Go.Proofs.YtjaofbdfhcgmeaaGreat
