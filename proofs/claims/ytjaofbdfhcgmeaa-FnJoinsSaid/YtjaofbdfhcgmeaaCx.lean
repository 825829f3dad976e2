/-
  Complexes: what is one, its faces, the complex of a family.
-/
import Derived.Test.YtjaofbdfhcgmeaaExt
namespace Go.Proofs.Ytjaofbdfhcgmeaa
open Go.RowKit

/-- A complex as a value. -/
def cx (n : Int) (v : Value) : Value := .agg #[.int .i64 n, v]
/-- Its copy in a variable of the call's own, as a row of two cells. -/
def bx (b : Nat) : Value := .slice (some ⟨b, 0, none⟩) 2 2
theorem St.box {w0 w : World} {env : List Ent} (h : St w0 w env) (n : Int) (v : Value) (e : TypeId) : St w0 (w.alloc (.cells #[.int .i64 n, v] e)) (⟨bx w.heap.size, e, [.int .i64 n, v]⟩ :: env) := h.new #[.int .i64 n, v] e (by simp [maxLen])
theorem St.newAt {w0 w : World} {env : List Ent} (h : St w0 w env) (cs : Array Value) (e : TypeId) (hm : cs.size ≤ maxLen) {H : Nat} (hH : w.heap.size = H) : St w0 (w.alloc (.cells cs e)) (⟨.slice (some ⟨H, 0, none⟩) cs.size cs.size, e, cs.toList⟩ :: env) := by
  subst hH; exact h.new cs e hm
theorem St.boxAt {w0 w : World} {env : List Ent} (h : St w0 w env) (n : Int) (v : Value) (e : TypeId) {H : Nat} (hH : w.heap.size = H) : St w0 (w.alloc (.cells #[.int .i64 n, v] e)) (⟨bx H, e, [.int .i64 n, v]⟩ :: env) := by
  subst hH; exact h.box n v e
theorem Rd.c0 {w : World} {b : Nat} {x y : Value} (h : Rd w (bx b) [x, y]) : w.cell? ⟨b, 0, none⟩ = some x := h.cell 0 (by simp)
theorem Rd.c1 {w : World} {b : Nat} {x y : Value} (h : Rd w (bx b) [x, y]) : w.cell? ⟨b, 1, none⟩ = some y := h.cell 1 (by simp)

theorem Rd.form {w : World} {v : Value} {L : List Value} (h : Rd w v L) : ∃ p l c, v = .slice p l c := by
  rcases h with ⟨rfl, _⟩ | ⟨a, cap, rfl, _⟩
  · exact ⟨_, _, _, rfl⟩
  · exact ⟨_, _, _, rfl⟩
theorem load_cx {w : World} {g : Nat} {x y : Value} (h : Rd w (bx g) [x, y]) : (loadVar 30 ⟨g, 0, none⟩).run Try.prog w = .ok (.agg #[x, y]) w := by
  have c0 := h.c0
  have c1 := h.c1
  go_simp
theorem ret_cx {fn : Func} {p : Tmp} {g : Nat} {w : World} {x y : Value} {tmps : Array Value} (h : fn.results = #[.cell p 30]) (hp : tmps.getD p undef = .pointer (some ⟨g, 0, none⟩)) (hr : Rd w (bx g) [x, y]) :
    (results fn tmps).run Try.prog w = .ok (.agg #[x, y]) w := by
  have hp' : tmps[p]?.getD undef = .pointer (some ⟨g, 0, none⟩) := by simpa using hp
  have hl := load_cx hr
  simp [results, h, hp', asAddr, hl]
theorem ret_cx2 {fn : Func} {p u : Tmp} {g : Nat} {w : World} {x y z : Value} {tmps : Array Value} (h : fn.results = #[.cell p 30, .tmp u]) (hp : tmps.getD p undef = .pointer (some ⟨g, 0, none⟩)) (hz : tmps.getD u undef = z) (hr : Rd w (bx g) [x, y]) :
    (results fn tmps).run Try.prog w = .ok (.tuple #[.agg #[x, y], z]) w := by
  have hp' : tmps[p]?.getD undef = .pointer (some ⟨g, 0, none⟩) := by simpa using hp
  have hz' : tmps[u]?.getD undef = z := by simpa using hz
  have hl := load_cx hr
  simp [results, h, hp', hz', asAddr, hl, Result.andThen]
theorem dn_mem {xs : List Int} (hx : ∀ x ∈ xs, 0 ≤ x ∧ x < 64) (s : Int) : dn (mem xs) s = xs.any (fun t => sub s t) := bool_ext (by
  rw [dn_iff, List.any_eq_true]
  constructor
  · rintro ⟨t, a, b, c, d⟩; exact ⟨t, mem_iff.1 c, d⟩
  · rintro ⟨t, a, b⟩; exact ⟨t, (hx t a).1, (hx t a).2, mem_iff.2 a, b⟩)
theorem dn_none (s : Int) : dn (mem ([] : List Int)) s = false := by rw [dn_mem (by simp)]; rfl
theorem take_rng {xs : List Int} (hx : ∀ x ∈ xs, 0 ≤ x ∧ x < 64) (j : Nat) : ∀ x ∈ xs.take j, 0 ≤ x ∧ x < 64 := fun x h => hx x (List.mem_of_mem_take h)
theorem dn_succ {xs : List Int} (hx : ∀ x ∈ xs, 0 ≤ x ∧ x < 64) {j : Nat} (h : j < xs.length) (s : Int) : dn (mem (xs.take (j + 1))) s = (dn (mem (xs.take j)) s || sub s (gi xs j)) := by
  rw [dn_mem (take_rng hx _), dn_mem (take_rng hx _), take_succ_gi h, List.any_append]; simp

set_option maxHeartbeats 1000000 in
theorem facesIn_c (n : Int) (v : Value) (xs : List Int) (w : World) (hv : Rd w v (ints xs)) (hx : ∀ x ∈ xs, 0 ≤ x ∧ x < 64) :
    Calls Try.prog 115 #[cx n v] w fun e w' => e = .returned (.int .u64 (fam (dn (mem xs)))) ∧ Below w.heap.size w w' := by
  have la := hv.iln tI
  have hS := (St.start w).box n v 30
  have c0 := hS.hd.c0
  have c1 := hS.hd.c1
  have hv' := hS.old hv
  have HB := hid hS.bel
  have HX := hid hx
  have hl := hv.ile
  have e0 : Hid ((0 : Int) = fam (dn (mem (xs.take 0)))) := by
    show _ = _
    rw [fam_none' fun s _ _ => by rw [List.take_zero, dn_none]]
  clear hS hx
  unfold cx
  go_enter Try.func115, Try.ntmps115
  go_wp2_with fail
  go_loop [3, 9] (fun f i => ∃ (j : Nat), j ≤ xs.length ∧ i = .int .i64 j ∧ f = .int .u64 (fam (dn (mem (xs.take j))))) (fun _ i => xs.length - (intOf i).toNat)
  case atStart => exact ⟨0, by omega, rfl, by rw [← e0.out]⟩
  case round =>
    obtain ⟨j, hj, rfl, rfl⟩ := hrel
    by_cases hlt : j < xs.length
    · have f1 := hv'.iix tI j hlt
      have f2 := hv'.intCell j hlt
      obtain ⟨r0, r1⟩ := gi_rng HX.out hlt
      have E2 : Hid (bits .or .u64 (fam (dn (mem (xs.take j)))) (fam (subP (gi xs j))) = fam (dn (mem (xs.take (j + 1))))) := by
        show _ = _
        rw [fam_or]
        exact fam_congr fun s _ _ => (dn_succ HX.out hlt s).symm
      go_wp2_with (go_at_call 137; refine (subsetFamily_c _ _ r0 r1).mono ?_; rintro e w' ⟨rfl, rfl⟩)
      go_round
      case rel => exact ⟨j + 1, by omega, by go_num, by rw [E2.out]⟩
      case measure => simp [intOf]; omega
    · have E2 : Hid (xs.take j = xs) := List.take_of_length_le (by omega)
      go_wp2_with fail
      go_ret
      exact ⟨ret_u64 (by rw [E2.out]), HB.out⟩

set_option maxHeartbeats 1000000 in
theorem l3Has_c (n : Int) (v : Value) (xs : List Int) (s : Int) (w : World) (hv : Rd w v (ints xs)) (hx : ∀ x ∈ xs, 0 ≤ x ∧ x < 64) (h0 : 0 ≤ s) (h1 : s < 64) :
    Calls Try.prog 140 #[cx n v, .int .i64 s] w fun e w' => e = .returned (.bool (dn (mem xs) s)) ∧ Below w.heap.size w w' := by
  have la := hv.iln tI
  have hS := (St.start w).box n v 30
  have c0 := hS.hd.c0
  have c1 := hS.hd.c1
  have hv' := hS.old hv
  have HB := hid hS.bel
  have HX := hid hx
  have hl := hv.ile
  have e0 := hid (dn_mem hx s)
  clear hS hx
  unfold cx
  go_enter Try.func140, Try.ntmps140
  go_wp2_with fail
  go_loop [5] (fun i => ∃ (j : Nat), j ≤ xs.length ∧ i = .int .i64 j ∧ Hid (∀ t, t < j → sub s (gi xs t) = false)) (fun i => xs.length - (intOf i).toNat)
  case atStart => exact ⟨0, by omega, rfl, fun t h => by omega⟩
  case round =>
    obtain ⟨j, hj, rfl, hN⟩ := hrel
    by_cases hlt : j < xs.length
    · have f1 := hv'.iix tI j hlt
      have f2 := hv'.intCell j hlt
      obtain ⟨r0, r1⟩ := gi_rng HX.out hlt
      have an := and_sub' r0 r1 h0 h1
      cases hs : sub s (gi xs j) with
      | true =>
        rw [hs] at an
        have E : Hid (dn (mem xs) s = true) := by
          show _ = _
          rw [e0.out, List.any_eq_true]
          exact ⟨_, gi_mem hlt, hs⟩
        clear hs
        go_wp2_with fail
        go_ret
        exact ⟨ret_bool E.out.symm, HB.out⟩
      | false =>
        rw [hs] at an
        have N2 : Hid (∀ t, t < j + 1 → sub s (gi xs t) = false) := by
          intro t ht
          by_cases e : t = j
          · subst e; exact hs
          · exact hN.out t (by omega)
        clear hs
        go_wp2_with fail
        go_round
        case rel => exact ⟨j + 1, by omega, by go_num, N2⟩
        case measure => simp [intOf]; omega
    · have E : Hid (dn (mem xs) s = false) := by
        show _ = _
        rw [e0.out, ← Bool.not_eq_true, List.any_eq_true]
        rintro ⟨t, ht, hs⟩
        obtain ⟨i, hi, rfl⟩ := mem_gi ht
        rw [hN.out i (by omega)] at hs
        cases hs
      go_wp2_with fail
      go_ret
      exact ⟨ret_bool E.out.symm, HB.out⟩

set_option maxHeartbeats 1000000 in
theorem complexOf_c (n : Int) (P : Int → Bool) (w : World) : Calls Try.prog 104 #[.int .i64 n, .int .u64 (fam P)] w fun e w' => ∃ v, e = .returned (cx n v) ∧ St w w' [⟨v, 3, ints (maxL P)⟩] := by
  have hB := (St.start w).box 0 (.slice none 0 0) 30
  go_enter Try.func104, Try.ntmps104
  go_wp2_with fail
  refine (maximalIn_c P _).mono ?_
  rintro e w1 ⟨v, rfl, hS1⟩
  have hS := hB.call1 hS1
  obtain ⟨p, l, c, rfl⟩ := hS.hd.form
  have c0 := hS.hd2.c0
  have c1 := hS.hd2.c1
  have r0 : w1.frozen? ⟨w.heap.size, 0, none⟩ = false := hS.own.free (v := bx w.heap.size) (.tail _ (.head _)) 0 (by simp)
  have r1 : w1.frozen? ⟨w.heap.size, 1, none⟩ = false := hS.own.free (v := bx w.heap.size) (.tail _ (.head _)) 1 (by simp)
  have HS := hid hS
  clear hB hS1 hS
  go_wp2_with fail
  have hS2 := (HS.out.swap.set 0 (by simp) (.int .i64 n)).set 1 (by simp) (.slice p l c)
  exact bodyPost_ret (ret_cx rfl rfl hS2.hd) rfl ⟨_, rfl, hS2.tail⟩

set_option maxHeartbeats 1000000 in
theorem l3Make_c (n : Int) (va : Value) (xs : List Int) (w : World) (ha : Rd w va (ints xs)) (hx : ∀ x ∈ xs, 0 ≤ x ∧ x < 64) : Calls Try.prog 105 #[.int .i64 n, va] w fun e w' => ∃ v, e = .returned (cx n v) ∧ St w w' [⟨v, 3, ints (maxL (mem xs))⟩] := by
  have hB := (St.start w).box 0 (.slice none 0 0) 30
  have ha' := hB.old ha
  have HX := hid hx; clear hx
  go_enter Try.func105, Try.ntmps105
  go_wp2_with fail
  refine (l2Max_c va xs _ ha' HX.out).mono ?_
  rintro e w1 ⟨v, rfl, hS1⟩
  have hS := hB.call1 hS1
  obtain ⟨p, l, c, rfl⟩ := hS.hd.form
  have c0 := hS.hd2.c0
  have c1 := hS.hd2.c1
  have r0 : w1.frozen? ⟨w.heap.size, 0, none⟩ = false := hS.own.free (v := bx w.heap.size) (.tail _ (.head _)) 0 (by simp)
  have r1 : w1.frozen? ⟨w.heap.size, 1, none⟩ = false := hS.own.free (v := bx w.heap.size) (.tail _ (.head _)) 1 (by simp)
  have HS := hid hS
  clear hB hS1 hS
  go_wp2_with fail
  have hS2 := (HS.out.swap.set 0 (by simp) (.int .i64 n)).set 1 (by simp) (.slice p l c)
  exact bodyPost_ret (ret_cx rfl rfl hS2.hd) rfl ⟨_, rfl, hS2.tail⟩

/-! ### What is a complex -/

def IsC (n : Int) (xs : List Int) : Prop := 1 ≤ n ∧ n ≤ 6 ∧ (∀ x ∈ xs, 0 ≤ x ∧ x < pw n) ∧ xs.Pairwise bef ∧ xs.Pairwise (fun a b => sub a b = false)
instance (n : Int) (xs : List Int) : Decidable (IsC n xs) := by unfold IsC; exact inferInstance
def isC (n : Int) (xs : List Int) : Bool := decide (IsC n xs)
theorem isC_iff {n : Int} {xs : List Int} : isC n xs = true ↔ IsC n xs := by simp [isC]
theorem isC_not {n : Int} {xs : List Int} (h : ¬ IsC n xs) : isC n xs = false := by simp [isC, h]
theorem IsC.rng {n : Int} {xs : List Int} (h : IsC n xs) : ∀ x ∈ xs, 0 ≤ x ∧ x < 64 := fun x hx => by
  have h1 := h.2.2.1 x hx
  have h2 := pw_rng (by have := h.1; omega) h.2.1
  omega
theorem isSet_pw {n s : Int} : isSetB n s = true ↔ 0 ≤ n ∧ n ≤ 6 ∧ 0 ≤ s ∧ s < pw n := isSetB_iff
theorem not_isC_set {n : Int} {xs : List Int} {j : Nat} (hj : j < xs.length) (h : isSetB n (gi xs j) = false) : isC n xs = false := isC_not fun hc => by
  have h1 := hc.2.2.1 _ (gi_mem hj)
  rw [isSet_pw.2 ⟨by have := hc.1; omega, hc.2.1, h1.1, h1.2⟩] at h
  cases h
theorem pair_gi {R : Int → Int → Prop} {xs : List Int} : xs.Pairwise R ↔ ∀ i j, i < j → j < xs.length → R (gi xs i) (gi xs j) := by
  rw [List.pairwise_iff_getElem]
  constructor
  · intro h i j hij hj
    have := h i j (by omega) hj hij
    rw [gi_eq xs i (by omega), gi_eq xs j hj]; exact this
  · intro h i j hi hj hij
    have := h i j hij hj
    rw [gi_eq xs i (by omega), gi_eq xs j hj] at this; exact this
theorem not_isC_bef {n : Int} {xs : List Int} {i j : Nat} (hij : i < j) (hj : j < xs.length) (h : befB (gi xs i) (gi xs j) = false) : isC n xs = false := isC_not fun hc => by
  have h1 := befB_iff.2 (pair_gi.1 hc.2.2.2.1 i j hij hj)
  rw [h] at h1
  cases h1
theorem not_isC_sub {n : Int} {xs : List Int} {i j : Nat} (hij : i < j) (hj : j < xs.length) (h : sub (gi xs i) (gi xs j) = true) : isC n xs = false := isC_not fun hc => by
  have h1 := pair_gi.1 hc.2.2.2.2 i j hij hj
  rw [h] at h1
  cases h1
/-- The first j are sets of n points, in order. -/
def Pre (n : Int) (xs : List Int) (j : Nat) : Prop := (∀ i, i < j → 0 ≤ gi xs i ∧ gi xs i < pw n) ∧ ∀ i, i + 1 < j → bef (gi xs i) (gi xs (i + 1))
theorem pre_zero (n : Int) (xs : List Int) : Pre n xs 0 := ⟨fun i h => by omega, fun i h => by omega⟩
theorem pre_succ {n : Int} {xs : List Int} {j : Nat} (h : Pre n xs j) (h1 : 0 ≤ gi xs j ∧ gi xs j < pw n) (h2 : 0 < j → bef (gi xs (j - 1)) (gi xs j)) : Pre n xs (j + 1) := by
  refine ⟨fun i hi => ?_, fun i hi => ?_⟩
  · by_cases e : i = j
    · subst e; exact h1
    · exact h.1 i (by omega)
  · by_cases e : i + 1 = j
    · subst e; exact h2 (by omega)
    · exact h.2 i (by omega)
theorem pre_bef {n : Int} {xs : List Int} {j : Nat} (h : Pre n xs j) (i d : Nat) (hd : i + d + 1 < j) : bef (gi xs i) (gi xs (i + d + 1)) := by
  induction d with
  | zero => exact h.2 i hd
  | succ d ih => exact bef_trans (ih (by omega)) (h.2 (i + d + 1) (by omega))
theorem pre_all {n : Int} {xs : List Int} (h : Pre n xs xs.length) : (∀ x ∈ xs, 0 ≤ x ∧ x < pw n) ∧ xs.Pairwise bef := by
  refine ⟨fun x hx => ?_, pair_gi.2 fun i j hij hj => ?_⟩
  · obtain ⟨i, hi, rfl⟩ := mem_gi hx
    exact h.1 i hi
  · have := pre_bef h i (j - i - 1) (by omega)
    rwa [show i + (j - i - 1) + 1 = j by omega] at this

set_option maxHeartbeats 1000000 in
theorem BeforeSet_c (a b : Int) (w : World) (a0 : 0 ≤ a) (a1 : a < 64) (b0 : 0 ≤ b) (b1 : b < 64) : Calls Try.prog 184 #[.int .i64 a, .int .i64 b] w fun e w' => e = .returned (.bool (befB a b)) ∧ w = w' := by
  have EB : Hid (befB a b = decide (pc a < pc b ∨ pc a = pc b ∧ a < b)) := by show _ = _; rw [Bool.eq_iff_iff, befB_iff]; simp [bef]
  have i1 : isSetB 6 a = true := by rw [isSet6]; exact set64_iff.2 ⟨a0, a1⟩
  have i2 : isSetB 6 b = true := by rw [isSet6]; exact set64_iff.2 ⟨b0, b1⟩
  by_cases h2 : pc a = pc b
  · have d2 : (pc a != pc b) = false := by simp [h2]
    have E : Hid (befB a b = decide (a < b)) := by show _ = _; rw [EB.out, Bool.eq_iff_iff]; simp [h2]
    clear h2
    go_enter Try.func184, Try.ntmps184
    go_wp2_with (first | (go_at_call 125; refine (IsSet_c _ _ _).mono ?_; rintro e w' ⟨rfl, rfl⟩) | (go_at_call 111; refine (SizeOf_s _ _ (by omega) (by omega)).mono ?_; rintro e w' ⟨rfl, rfl⟩))
    go_ret
    exact ⟨ret_bool E.out.symm, rfl⟩
  · have d2 : (pc a != pc b) = true := by simp [h2]
    have E : Hid (befB a b = decide (pc a < pc b)) := by show _ = _; rw [EB.out, Bool.eq_iff_iff]; simp [h2]
    clear h2
    go_enter Try.func184, Try.ntmps184
    go_wp2_with (first | (go_at_call 125; refine (IsSet_c _ _ _).mono ?_; rintro e w' ⟨rfl, rfl⟩) | (go_at_call 111; refine (SizeOf_s _ _ (by omega) (by omega)).mono ?_; rintro e w' ⟨rfl, rfl⟩))
    go_ret
    exact ⟨ret_bool E.out.symm, rfl⟩

set_option maxHeartbeats 2000000 in
theorem isAntichain_c (n : Int) (va : Value) (xs : List Int) (w : World) (ha : Rd w va (ints xs)) : Calls Try.prog 161 #[.int .i64 n, va] w fun e w' => e = .returned (.bool (isC n xs)) ∧ w = w' := by
  have la := ha.iln tI
  have ll := ha.ile
  by_cases h1 : n < 1
  · have E : Hid (isC n xs = false) := isC_not fun h => by have := h.1; omega
    go_enter Try.func161, Try.ntmps161
    go_wp2_with fail
    go_ret
    exact ⟨ret_bool E.out.symm, rfl⟩
  · by_cases h6 : 6 < n
    · have E : Hid (isC n xs = false) := isC_not fun h => by have := h.2.1; omega
      go_enter Try.func161, Try.ntmps161
      go_wp2_with fail
      go_ret
      exact ⟨ret_bool E.out.symm, rfl⟩
    · have hp := pw_rng (n := n) (by omega) (by omega)
      go_enter Try.func161, Try.ntmps161
      go_wp2_with fail
      go_loop [19] (fun i => ∃ (j : Nat), j ≤ xs.length ∧ i = .int .i64 j ∧ Hid (Pre n xs j)) (fun i => xs.length - (intOf i).toNat)
      case atStart => exact ⟨0, by omega, rfl, pre_zero n xs⟩
      case round =>
        obtain ⟨j, hj, rfl, hN⟩ := hrel
        by_cases hlt : j < xs.length
        · have f1 := ha.iix tI j hlt
          have f2 := ha.intCell j hlt
          cases hs : isSetB n (gi xs j) with
          | false =>
            have E := hid (not_isC_set hlt hs)
            go_wp2_with (go_at_call 125; refine (IsSet_c _ _ _).mono ?_; rintro e w' ⟨rfl, rfl⟩)
            go_ret
            exact ⟨ret_bool E.out.symm, rfl⟩
          | true =>
            obtain ⟨_, _, r0, r1⟩ := isSet_pw.1 hs
            by_cases hz : j = 0
            · have hz' : ¬ 0 < j := by omega
              have N2 : Hid (Pre n xs (j + 1)) := pre_succ hN.out ⟨r0, r1⟩ (fun h => by omega)
              clear hz
              go_wp2_with (go_at_call 125; refine (IsSet_c _ _ _).mono ?_; rintro e w' ⟨rfl, rfl⟩)
              go_round
              case rel => exact ⟨j + 1, by omega, by go_num, N2⟩
              case measure => simp [intOf]; omega
            · have hz' : decide (0 < (j : Int)) = true := by simp; omega
              have g1 := ha.iix tI (j - 1) (by omega)
              have g2 := ha.intCell (j - 1) (by omega)
              rw [show ((j - 1 : Nat) : Int) = (j : Int) - 1 by omega] at g1
              have q := hN.out.1 (j - 1) (by omega)
              obtain ⟨q0, q1⟩ := q
              cases hb : befB (gi xs (j - 1)) (gi xs j) with
              | false =>
                have E := hid (not_isC_bef (n := n) (show j - 1 < j by omega) hlt hb)
                go_wp2_with (first | (go_at_call 125; refine (IsSet_c _ _ _).mono ?_; rintro e w' ⟨rfl, rfl⟩) | (go_at_call 184; refine (BeforeSet_c _ _ _ (by omega) (by omega) (by omega) (by omega)).mono ?_; rintro e w' ⟨rfl, rfl⟩))
                go_ret
                exact ⟨ret_bool E.out.symm, rfl⟩
              | true =>
                have N2 : Hid (Pre n xs (j + 1)) := pre_succ hN.out ⟨r0, r1⟩ (fun _ => befB_iff.1 hb)
                go_wp2_with (first | (go_at_call 125; refine (IsSet_c _ _ _).mono ?_; rintro e w' ⟨rfl, rfl⟩) | (go_at_call 184; refine (BeforeSet_c _ _ _ (by omega) (by omega) (by omega) (by omega)).mono ?_; rintro e w' ⟨rfl, rfl⟩))
                go_round
                case rel => exact ⟨j + 1, by omega, by go_num, N2⟩
                case measure => simp [intOf]; omega
        · have ej : j = xs.length := by omega
          subst ej
          have NA := hid (pre_all hN.out)
          have hR : Hid (∀ x ∈ xs, 0 ≤ x ∧ x < 64) := fun x hx => by have := NA.out.1 x hx; omega
          go_wp2_with fail
          go_loop [43] (fun i => ∃ (k : Nat), k ≤ xs.length ∧ i = .int .i64 k ∧ Hid (∀ a b, a < k → a < b → b < xs.length → sub (gi xs a) (gi xs b) = false)) (fun i => xs.length - (intOf i).toNat)
          case atStart => exact ⟨0, by omega, rfl, fun a b h => by omega⟩
          case round =>
            obtain ⟨k, hk, rfl, hN⟩ := hrel
            by_cases hlt : k < xs.length
            · have f1 := ha.iix tI k hlt
              have f2 := ha.intCell k hlt
              have f3 := ha.runFrom tI (k + 1) (by simp; omega)
              have hv := ha.ifromTo (l := k + 1) (by omega)
              obtain ⟨D, hv, hd, HG⟩ : ∃ D, Rd w (fromTo va (k + 1)) (ints D) ∧ D.length + (k + 1) = xs.length ∧ Hid (∀ j, gi D j = gi xs (k + 1 + j)) := ⟨_, hv, by simp; omega, fun j => gi_drop xs (k + 1) j⟩
              have lv := hv.iln tI
              have HV := hid hv
              obtain ⟨s0, s1⟩ := gi_rng hR.out hlt
              have dk : decide ((k : Int) < (xs.length : Int)) = true := by simp; omega
              have w1 : ((k : Int) + 1) = ((k + 1 : Nat) : Int) := by omega
              rw [← w1] at f3
              clear hv w1
              go_wp2_with fail
              go_loop [53] (fun i => ∃ (j : Nat), j ≤ D.length ∧ i = .int .i64 j ∧ Hid (∀ t, t < j → sub (gi xs k) (gi xs (k + 1 + t)) = false)) (fun i => xs.length - (intOf i).toNat)
              case atStart => exact ⟨0, by omega, rfl, fun t h => by omega⟩
              case round =>
                obtain ⟨j, hj, rfl, hN2⟩ := hrel
                by_cases hjl : j < D.length
                · have g1 := HV.out.iix tI j (by omega)
                  have g2 := HV.out.intCell j (by omega)
                  rw [HG.out j] at g2
                  obtain ⟨t0, t1⟩ := gi_rng hR.out (k := k + 1 + j) (by omega)
                  have an := andNot_sub s0 s1 t0 t1
                  cases hs : sub (gi xs k) (gi xs (k + 1 + j)) with
                  | true =>
                    rw [hs] at an
                    have E := hid (not_isC_sub (n := n) (show k < k + 1 + j by omega) (by omega) hs)
                    clear hs
                    go_wp2_with fail
                    go_ret
                    exact ⟨ret_bool E.out.symm, rfl⟩
                  | false =>
                    rw [hs] at an
                    have N2 : Hid (∀ t, t < j + 1 → sub (gi xs k) (gi xs (k + 1 + t)) = false) := by
                      intro t ht
                      by_cases e : t = j
                      · subst e; exact hs
                      · exact hN2.out t (by omega)
                    clear hs
                    go_wp2_with fail
                    go_round
                    case rel => exact ⟨j + 1, by omega, by go_num, N2⟩
                    case measure => simp [intOf]; omega
                · have N2 : Hid (∀ a b, a < k + 1 → a < b → b < xs.length → sub (gi xs a) (gi xs b) = false) := by
                    intro a b ha hab hb
                    by_cases e : a = k
                    · subst e
                      have := hN2.out (b - (a + 1)) (by omega)
                      rwa [show a + 1 + (b - (a + 1)) = b by omega] at this
                    · exact hN.out a b (by omega) hab hb
                  go_wp2_with fail
                  go_round
                  case rel => exact ⟨k + 1, by omega, by go_num, N2⟩
                  case measure => simp [intOf]; omega
            · have E : Hid (isC n xs = true) := isC_iff.2 ⟨by omega, by omega, NA.out.1, NA.out.2, pair_gi.2 fun i j hij hj => hN.out i j (by omega) hij hj⟩
              go_wp2_with fail
              go_ret
              exact ⟨ret_bool E.out.symm, rfl⟩

set_option maxHeartbeats 1000000 in
theorem IsComplex_c (n : Int) (v : Value) (xs : List Int) (w : World) (hv : Rd w v (ints xs)) : Calls Try.prog 113 #[cx n v] w fun e w' => e = .returned (.bool (isC n xs)) ∧ Below w.heap.size w w' := by
  have hS := (St.start w).box n v 30
  have c0 := hS.hd.c0
  have c1 := hS.hd.c1
  have hv' := hS.old hv
  have HB := hid hS.bel
  clear hS
  unfold cx
  go_enter Try.func113, Try.ntmps113
  go_wp2_with (go_at_call 161; refine (isAntichain_c _ _ _ _ hv').mono ?_; rintro e w' ⟨rfl, rfl⟩)
  go_ret
  exact ⟨rfl, HB.out⟩

end Go.Proofs.Ytjaofbdfhcgmeaa
