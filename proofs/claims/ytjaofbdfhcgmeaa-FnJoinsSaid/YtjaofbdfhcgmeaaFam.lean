/-
  Families of sets as numbers with a bit for each set; their sets in order; extreme sets. Plain Lean, no program in sight.
-/
import Derived.Test.YtjaofbdfhcgmeaaSize
namespace Go.Proofs.Ytjaofbdfhcgmeaa
open Go.RowKit

def famN (P : Int → Bool) : Nat → Nat
  | 0 => 0
  | k + 1 => famN P k + if P (k : Int) = true then 2 ^ k else 0
/-- The family of the sets s with P s. -/
def fam (P : Int → Bool) : Int := (famN P 64 : Int)

theorem famN_lt (P : Int → Bool) (k : Nat) : famN P k < 2 ^ k := by
  induction k with
  | zero => simp [famN]
  | succ k ih => rw [famN, Nat.pow_succ]; split <;> omega
theorem famN_bit (P : Int → Bool) (k i : Nat) : (famN P k).testBit i = (decide (i < k) && P (i : Int)) := by
  induction k with
  | zero => simp [famN]
  | succ k ih =>
    have hlt := famN_lt P k
    rw [famN]
    by_cases hp : P (k : Int) = true
    · rw [if_pos hp, Nat.add_comm]
      by_cases hi : i = k
      · subst hi
        rw [Nat.testBit_two_pow_add_eq, Nat.testBit_lt_two_pow hlt]
        simp [hp]
      · by_cases hik : i < k
        · rw [Nat.testBit_two_pow_add_gt (by omega), ih]
          simp [hik, show i < k + 1 by omega]
        · rw [Nat.testBit_lt_two_pow (x := 2 ^ k + famN P k) (i := i) (by
            have : 2 ^ (k + 1) ≤ 2 ^ i := Nat.pow_le_pow_right (by omega) (by omega)
            rw [Nat.pow_succ] at this
            omega)]
          simp [show ¬ i < k + 1 by omega]
    · rw [if_neg hp, Nat.add_zero, ih]
      by_cases hi : i = k
      · subst hi
        simp [hp]
      · by_cases hik : i < k
        · simp [hik, show i < k + 1 by omega]
        · simp [hik, show ¬ i < k + 1 by omega]
theorem fam_rng (P : Int → Bool) : 0 ≤ fam P ∧ fam P < 18446744073709551616 := by
  have h : famN P 64 < 2 ^ 64 := famN_lt P 64
  have e : (2 : Nat) ^ 64 = 18446744073709551616 := by decide
  rw [e] at h
  unfold fam
  exact ⟨by omega, by omega⟩
theorem fam_of_bits {P : Int → Bool} {n : Nat} (h : n < 18446744073709551616) (hb : ∀ i : Nat, i < 64 → n.testBit i = P (i : Int)) : (n : Int) = fam P := by
  have e : n = famN P 64 := by
    refine Nat.eq_of_testBit_eq fun i => ?_
    rw [famN_bit]
    by_cases hi : i < 64
    · rw [hb i hi]; simp [hi]
    · rw [Nat.testBit_lt_two_pow (x := n) (i := i) (Nat.lt_of_lt_of_le h (by
        have : (2 : Nat) ^ 64 ≤ 2 ^ i := Nat.pow_le_pow_right (by omega) (by omega)
        have e : (2 : Nat) ^ 64 = 18446744073709551616 := by decide
        omega))]
      simp [hi]
  rw [e]; rfl
theorem fam_congr {P Q : Int → Bool} (h : ∀ s : Int, 0 ≤ s → s < 64 → P s = Q s) : fam P = fam Q := by
  refine fam_of_bits (by have := famN_lt P 64; have e : (2 : Nat) ^ 64 = 18446744073709551616 := by decide
                         omega) fun i hi => ?_
  rw [famN_bit, h i (by omega) (by omega)]
  simp [hi]
theorem fam_none : fam (fun _ => false) = 0 := by decide +kernel
theorem fam_none' {P : Int → Bool} (h : ∀ s : Int, 0 ≤ s → s < 64 → P s = false) : fam P = 0 := (fam_congr h).trans fam_none
theorem fam_or (P Q : Int → Bool) : bits .or .u64 (fam P) (fam Q) = fam (fun s => P s || Q s) := by
  have h1 : famN P 64 < 2 ^ 64 := famN_lt P 64
  have h2 : famN Q 64 < 2 ^ 64 := famN_lt Q 64
  have e : (2 : Nat) ^ 64 = 18446744073709551616 := by decide
  have h3 : famN P 64 ||| famN Q 64 < 2 ^ 64 := Nat.or_lt_two_pow h1 h2
  rw [e] at h1 h2 h3
  unfold fam
  rw [bits_or_u64_nat _ _ h1 h2]
  refine fam_of_bits h3 fun i hi => ?_
  rw [Nat.testBit_or, famN_bit, famN_bit]
  simp [hi]
theorem fam_and (P Q : Int → Bool) : bits .and .u64 (fam P) (fam Q) = fam (fun s => P s && Q s) := by
  have h1 : famN P 64 < 2 ^ 64 := famN_lt P 64
  have h2 : famN Q 64 < 2 ^ 64 := famN_lt Q 64
  have e : (2 : Nat) ^ 64 = 18446744073709551616 := by decide
  have h3 : famN P 64 &&& famN Q 64 < 2 ^ 64 := Nat.and_lt_two_pow _ h2
  rw [e] at h1 h2 h3
  unfold fam
  rw [bits_and_u64_nat _ _ h1 h2]
  refine fam_of_bits h3 fun i hi => ?_
  rw [Nat.testBit_and, famN_bit, famN_bit]
  simp [hi]
theorem fam_has (P : Int → Bool) {s : Int} (h0 : 0 ≤ s) (h1 : s < 64) : (bits .and .u64 (fam P / 2 ^ s.toNat) 1 == 1) = P s := by
  obtain ⟨i, rfl⟩ : ∃ i : Nat, s = i := ⟨s.toNat, by omega⟩
  have hr := fam_rng P
  have hb := famN_bit P 64 i
  have hd : fam P / 2 ^ i = ((famN P 64 / 2 ^ i : Nat) : Int) := by unfold fam; simp
  have hle : famN P 64 / 2 ^ i ≤ famN P 64 := Nat.div_le_self _ _
  have hd' : decide (i < 64) = true := by simp; omega
  rw [Nat.testBit_eq_decide_div_mod_eq, hd', Bool.true_and] at hb
  rw [Int.toNat_natCast, hd]
  have hle' : famN P 64 / 2 ^ i ≤ 18446744073709551615 := by unfold fam at hr; omega
  revert hb hle'
  generalize famN P 64 / 2 ^ i = d
  intro hb hle'
  rw [and_one_u64 _ (by omega) (by omega), ← hb, Bool.eq_iff_iff]
  simp
  omega
theorem fam_one {s : Int} (h0 : 0 ≤ s) (h1 : s < 64) : ((2 ^ s.toNat : Nat) : Int) = fam (fun t => t == s) := by
  obtain ⟨i, rfl⟩ : ∃ i : Nat, s = i := ⟨s.toNat, by omega⟩
  rw [Int.toNat_natCast]
  have e : (2 : Nat) ^ 64 = 18446744073709551616 := by decide
  refine fam_of_bits (by rw [← e]; exact Nat.pow_lt_pow_right (by omega) (by omega)) fun j hj => ?_
  rw [Nat.testBit_two_pow, Bool.eq_iff_iff]
  simp
  omega
theorem two_pow_u64 {s : Int} (h0 : 0 ≤ s) (h1 : s < 64) : IntKind.u64.wrap (1 * 2 ^ s.toNat) = fam (fun t => t == s) := by
  rw [← fam_one h0 h1, Int.one_mul]
  obtain ⟨i, rfl⟩ : ∃ i : Nat, s = i := ⟨s.toNat, by omega⟩
  have e : (2 : Nat) ^ 64 = 18446744073709551616 := by decide
  have : 2 ^ i < 2 ^ 64 := Nat.pow_lt_pow_right (a := 2) (by omega) (by omega : i < 64)
  rw [Int.toNat_natCast, show ((2 : Int) ^ i) = ((2 ^ i : Nat) : Int) by simp]
  rw [e] at this
  revert this
  generalize (2 : Nat) ^ i = d
  intro this
  show ((d : Int) % 18446744073709551616) = _
  omega
/-- A set more. -/
theorem fam_add (P : Int → Bool) {s : Int} (h0 : 0 ≤ s) (h1 : s < 64) : bits .or .u64 (fam P) (IntKind.u64.wrap (2 ^ s.toNat)) = fam (fun t => P t || t == s) := by
  have := two_pow_u64 h0 h1
  rw [Int.one_mul] at this
  rw [this, fam_or]
theorem ret_u64 {a b : Int} (h : a = b) : Ending.returned (.int .u64 a) = Ending.returned (.int .u64 b) := by rw [h]

/-! ### Subsets -/

def sub (s t : Int) : Bool := s.toNat &&& t.toNat == s.toNat
theorem sub_refl (s : Int) : sub s s = true := by simp [sub]
theorem sub_trans {s t u : Int} (h : sub s t = true) (h' : sub t u = true) : sub s u = true := by
  simp only [sub, beq_iff_eq] at *
  rw [← h, Nat.and_assoc, h']
theorem sub_antisymm {s t : Int} (hs : 0 ≤ s) (ht : 0 ≤ t) (h : sub s t = true) (h' : sub t s = true) : s = t := by
  simp only [sub, beq_iff_eq] at *
  rw [Nat.and_comm, h] at h'
  omega
/-- The subsets of s. -/
def subP (s : Int) (t : Int) : Bool := sub t s
theorem sub_pc_fin : ∀ s t : Fin 64, sub s.val t.val = true → s ≠ t → pcN s.val < pcN t.val := by decide +kernel
theorem andNot_fin : ∀ s t : Fin 64, (bits .andNot .i64 (s.val : Int) (t.val : Int) == 0) = sub s.val t.val := by decide +kernel
theorem and_sub_fin : ∀ s t : Fin 64, (bits .and .i64 (s.val : Int) (t.val : Int) == (s.val : Int)) = sub s.val t.val := by decide +kernel
theorem and_sub_fin' : ∀ s t : Fin 64, (bits .and .i64 (s.val : Int) (t.val : Int) == (t.val : Int)) = sub t.val s.val := by decide +kernel
theorem sub_pc {s t : Int} (s0 : 0 ≤ s) (s1 : s < 64) (t0 : 0 ≤ t) (t1 : t < 64) (h : sub s t = true) (hne : t ≠ s) : pc s < pc t := by
  obtain ⟨a, rfl⟩ := fin64 s0 s1
  obtain ⟨b, rfl⟩ := fin64 t0 t1
  have := sub_pc_fin a b h (fun e => hne (by rw [e]))
  unfold pc
  simpa using this
theorem andNot_sub {s t : Int} (s0 : 0 ≤ s) (s1 : s < 64) (t0 : 0 ≤ t) (t1 : t < 64) : (bits .andNot .i64 s t == 0) = sub s t := by
  obtain ⟨a, rfl⟩ := fin64 s0 s1
  obtain ⟨b, rfl⟩ := fin64 t0 t1
  exact andNot_fin a b
theorem and_sub {s t : Int} (s0 : 0 ≤ s) (s1 : s < 64) (t0 : 0 ≤ t) (t1 : t < 64) : (bits .and .i64 s t == s) = sub s t := by
  obtain ⟨a, rfl⟩ := fin64 s0 s1
  obtain ⟨b, rfl⟩ := fin64 t0 t1
  exact and_sub_fin a b
theorem and_sub' {s t : Int} (s0 : 0 ≤ s) (s1 : s < 64) (t0 : 0 ≤ t) (t1 : t < 64) : (bits .and .i64 s t == t) = sub t s := by
  obtain ⟨a, rfl⟩ := fin64 s0 s1
  obtain ⟨b, rfl⟩ := fin64 t0 t1
  exact and_sub_fin' a b

/-! ### The sets of a family in order -/

def rowTo (P : Int → Bool) (z : Int) : Nat → List Int
  | 0 => []
  | s + 1 => if P (s : Int) = true ∧ pc s = z then rowTo P z s ++ [(s : Int)] else rowTo P z s
def allTo (P : Int → Bool) : Nat → List Int
  | 0 => []
  | z + 1 => allTo P z ++ rowTo P z 64
def setsL (P : Int → Bool) : List Int := allTo P 7

theorem rowTo_len (P : Int → Bool) (z : Int) (s : Nat) : (rowTo P z s).length ≤ s := by
  induction s with
  | zero => simp [rowTo]
  | succ s ih => rw [rowTo]; split <;> (try simp) <;> omega
theorem allTo_len (P : Int → Bool) (z : Nat) : (allTo P z).length ≤ 64 * z := by
  induction z with
  | zero => simp [allTo]
  | succ z ih => rw [allTo, List.length_append]; have := rowTo_len P z 64; omega
theorem setsL_len (P : Int → Bool) : (setsL P).length ≤ 448 := allTo_len P 7
theorem mem_rowTo {P : Int → Bool} {z : Int} {k : Nat} {x : Int} : x ∈ rowTo P z k ↔ 0 ≤ x ∧ x < k ∧ P x = true ∧ pc x = z := by
  induction k with
  | zero => simp only [rowTo, List.not_mem_nil, false_iff]; omega
  | succ k ih =>
    rw [rowTo]
    by_cases h : P (k : Int) = true ∧ pc k = z
    · rw [if_pos h, List.mem_append, ih, List.mem_singleton]
      constructor
      · rintro (⟨a, b, c, d⟩ | rfl)
        · exact ⟨a, by omega, c, d⟩
        · exact ⟨by omega, by omega, h.1, h.2⟩
      · rintro ⟨a, b, c, d⟩
        by_cases hx : x = k
        · exact .inr hx
        · exact .inl ⟨a, by omega, c, d⟩
    · rw [if_neg h, ih]
      constructor
      · rintro ⟨a, b, c, d⟩; exact ⟨a, by omega, c, d⟩
      · rintro ⟨a, b, c, d⟩
        have hx : x ≠ k := by rintro rfl; exact h ⟨c, d⟩
        exact ⟨a, by omega, c, d⟩
theorem mem_allTo {P : Int → Bool} {z : Nat} {x : Int} : x ∈ allTo P z ↔ 0 ≤ x ∧ x < 64 ∧ P x = true ∧ pc x < z := by
  induction z with
  | zero => simp [allTo]; intros; exact (pc_rng x).1
  | succ z ih =>
    rw [allTo, List.mem_append, ih, mem_rowTo]
    constructor
    · rintro (⟨a, b, c, d⟩ | ⟨a, b, c, d⟩)
      · exact ⟨a, b, c, by omega⟩
      · exact ⟨a, by omega, c, by omega⟩
    · rintro ⟨a, b, c, d⟩
      by_cases hz : pc x = z
      · exact .inr ⟨a, by omega, c, hz⟩
      · exact .inl ⟨a, b, c, by omega⟩
theorem mem_setsL {P : Int → Bool} {x : Int} : x ∈ setsL P ↔ 0 ≤ x ∧ x < 64 ∧ P x = true := by
  rw [setsL, mem_allTo]
  have := pc_rng x
  constructor
  · rintro ⟨a, b, c, _⟩; exact ⟨a, b, c⟩
  · rintro ⟨a, b, c⟩; exact ⟨a, b, c, by omega⟩
theorem setsL_rng {P : Int → Bool} {k : Nat} (h : k < (setsL P).length) : 0 ≤ gi (setsL P) k ∧ gi (setsL P) k < 64 ∧ P (gi (setsL P) k) = true := by
  rw [gi_eq _ k h]
  exact mem_setsL.1 (List.getElem_mem _)

def bef (a b : Int) : Prop := pc a < pc b ∨ pc a = pc b ∧ a < b
theorem bef_trans {a b c : Int} (h : bef a b) (h' : bef b c) : bef a c := by unfold bef at *; omega
theorem bef_irrefl (a : Int) : ¬ bef a a := by unfold bef; omega
theorem rowTo_sorted (P : Int → Bool) (z : Int) (s : Nat) : (rowTo P z s).Pairwise bef := by
  induction s with
  | zero => exact List.Pairwise.nil
  | succ s ih =>
    rw [rowTo]
    split
    · rename_i h
      refine List.pairwise_append.2 ⟨ih, List.pairwise_singleton _ _, fun x hx y hy => ?_⟩
      rw [List.mem_singleton] at hy
      subst hy
      have := mem_rowTo.1 hx
      exact .inr ⟨by omega, by omega⟩
    · exact ih
theorem allTo_sorted (P : Int → Bool) (z : Nat) : (allTo P z).Pairwise bef := by
  induction z with
  | zero => exact List.Pairwise.nil
  | succ z ih =>
    rw [allTo]
    refine List.pairwise_append.2 ⟨ih, rowTo_sorted _ _ _, fun x hx y hy => ?_⟩
    have h1 := mem_allTo.1 hx
    have h2 := mem_rowTo.1 hy
    exact .inl (by omega)
theorem setsL_sorted (P : Int → Bool) : (setsL P).Pairwise bef := allTo_sorted P 7
theorem rowTo_congr {P Q : Int → Bool} (h : ∀ s : Int, 0 ≤ s → s < 64 → P s = Q s) (z : Int) {k : Nat} (hk : k ≤ 64) : rowTo P z k = rowTo Q z k := by
  induction k with
  | zero => rfl
  | succ k ih => rw [rowTo, rowTo, h k (by omega) (by omega), ih (by omega)]
theorem allTo_congr {P Q : Int → Bool} (h : ∀ s : Int, 0 ≤ s → s < 64 → P s = Q s) (z : Nat) : allTo P z = allTo Q z := by
  induction z with
  | zero => rfl
  | succ z ih => rw [allTo, allTo, ih, rowTo_congr h _ (by omega)]
theorem setsL_congr {P Q : Int → Bool} (h : ∀ s : Int, 0 ≤ s → s < 64 → P s = Q s) : setsL P = setsL Q := allTo_congr h 7
theorem rowTo_filter (P Q : Int → Bool) (z : Int) (k : Nat) : (rowTo P z k).filter Q = rowTo (fun s => P s && Q s) z k := by
  induction k with
  | zero => rfl
  | succ k ih =>
    rw [rowTo, rowTo]
    by_cases h : P (k : Int) = true ∧ pc k = z
    · rw [if_pos h, List.filter_append, ih]
      by_cases hq : Q (k : Int) = true
      · rw [if_pos ⟨by simp [h.1, hq], h.2⟩]; simp [hq]
      · rw [if_neg (fun h' => hq (by simp at h'; exact h'.1.2))]; simp [hq]
    · rw [if_neg h, ih, if_neg (fun h' => h (by simp at h'; exact ⟨h'.1.1, h'.2⟩))]
theorem allTo_filter (P Q : Int → Bool) (z : Nat) : (allTo P z).filter Q = allTo (fun s => P s && Q s) z := by
  induction z with
  | zero => rfl
  | succ z ih => rw [allTo, allTo, List.filter_append, ih, rowTo_filter]
theorem setsL_filter (P Q : Int → Bool) : (setsL P).filter Q = setsL (fun s => P s && Q s) := allTo_filter P Q 7
/-- A list of sets that is in order is the list of its sets. -/
theorem sorted_ext {xs ys : List Int} (hx : xs.Pairwise bef) (hy : ys.Pairwise bef) (h : ∀ s, s ∈ xs ↔ s ∈ ys) : xs = ys := by
  induction xs generalizing ys with
  | nil =>
    cases ys with
    | nil => rfl
    | cons y ys => exact absurd ((h y).2 (List.mem_cons_self ..)) (by simp)
  | cons x xs ih =>
    cases ys with
    | nil => exact absurd ((h x).1 (List.mem_cons_self ..)) (by simp)
    | cons y ys =>
      have h1 := List.pairwise_cons.1 hx
      have h2 := List.pairwise_cons.1 hy
      have e : x = y := by
        rcases List.mem_cons.1 ((h x).1 (List.mem_cons_self ..)) with e | hxy
        · exact e
        · rcases List.mem_cons.1 ((h y).2 (List.mem_cons_self ..)) with e | hyx
          · exact e.symm
          · exact absurd (bef_trans (h2.1 x hxy) (h1.1 y hyx)) (bef_irrefl _)
      subst e
      have : xs = ys := ih h1.2 h2.2 fun s => by
        constructor
        · intro hs
          rcases List.mem_cons.1 ((h s).1 (List.mem_cons_of_mem _ hs)) with e | h3
          · subst e; exact absurd (h1.1 _ hs) (bef_irrefl _)
          · exact h3
        · intro hs
          rcases List.mem_cons.1 ((h s).2 (List.mem_cons_of_mem _ hs)) with e | h3
          · subst e; exact absurd (h2.1 _ hs) (bef_irrefl _)
          · exact h3
      rw [this]
def mem (xs : List Int) (s : Int) : Bool := decide (s ∈ xs)
theorem mem_iff {xs : List Int} {s : Int} : mem xs s = true ↔ s ∈ xs := by simp [mem]
theorem setsL_mem {xs : List Int} (h0 : ∀ x ∈ xs, 0 ≤ x ∧ x < 64) (hs : xs.Pairwise bef) : setsL (mem xs) = xs :=
  sorted_ext (setsL_sorted _) hs fun s => by
    rw [mem_setsL, mem_iff]
    exact ⟨fun h => h.2.2, fun h => ⟨(h0 s h).1, (h0 s h).2, h⟩⟩

/-! ### Extreme sets -/

/-- s lies in a set of the family. -/
def dn (P : Int → Bool) (s : Int) : Bool := (setsL P).any fun t => sub s t
/-- s holds a set of the family. -/
def up (P : Int → Bool) (s : Int) : Bool := (setsL P).any fun t => sub t s
def maxP (P : Int → Bool) (s : Int) : Bool := P s && !((setsL P).any fun t => t != s && sub s t)
def minP (P : Int → Bool) (s : Int) : Bool := P s && !((setsL P).any fun t => t != s && sub t s)
def maxL (P : Int → Bool) : List Int := setsL (maxP P)
def minL (P : Int → Bool) : List Int := setsL (minP P)

theorem dn_iff {P : Int → Bool} {s : Int} : dn P s = true ↔ ∃ t, 0 ≤ t ∧ t < 64 ∧ P t = true ∧ sub s t = true := by
  rw [dn, List.any_eq_true]
  constructor
  · rintro ⟨t, h, h'⟩; have := mem_setsL.1 h; exact ⟨t, this.1, this.2.1, this.2.2, h'⟩
  · rintro ⟨t, a, b, c, h'⟩; exact ⟨t, mem_setsL.2 ⟨a, b, c⟩, h'⟩
theorem up_iff {P : Int → Bool} {s : Int} : up P s = true ↔ ∃ t, 0 ≤ t ∧ t < 64 ∧ P t = true ∧ sub t s = true := by
  rw [up, List.any_eq_true]
  constructor
  · rintro ⟨t, h, h'⟩; have := mem_setsL.1 h; exact ⟨t, this.1, this.2.1, this.2.2, h'⟩
  · rintro ⟨t, a, b, c, h'⟩; exact ⟨t, mem_setsL.2 ⟨a, b, c⟩, h'⟩
theorem maxP_iff {P : Int → Bool} {s : Int} : maxP P s = true ↔ P s = true ∧ ∀ t, 0 ≤ t → t < 64 → P t = true → sub s t = true → t = s := by
  rw [maxP, Bool.and_eq_true, Bool.not_eq_true', ← Bool.not_eq_true, List.any_eq_true]
  refine and_congr_right fun _ => ?_
  constructor
  · intro h t a b c d
    by_cases e : t = s
    · exact e
    · exact absurd ⟨t, mem_setsL.2 ⟨a, b, c⟩, by simp [e, d]⟩ h
  · rintro h ⟨t, ht, h'⟩
    have := mem_setsL.1 ht
    rw [Bool.and_eq_true] at h'
    have e := h t this.1 this.2.1 this.2.2 h'.2
    simp [e] at h'
theorem minP_iff {P : Int → Bool} {s : Int} : minP P s = true ↔ P s = true ∧ ∀ t, 0 ≤ t → t < 64 → P t = true → sub t s = true → t = s := by
  rw [minP, Bool.and_eq_true, Bool.not_eq_true', ← Bool.not_eq_true, List.any_eq_true]
  refine and_congr_right fun _ => ?_
  constructor
  · intro h t a b c d
    by_cases e : t = s
    · exact e
    · exact absurd ⟨t, mem_setsL.2 ⟨a, b, c⟩, by simp [e, d]⟩ h
  · rintro h ⟨t, ht, h'⟩
    have := mem_setsL.1 ht
    rw [Bool.and_eq_true] at h'
    have e := h t this.1 this.2.1 this.2.2 h'.2
    simp [e] at h'
theorem exists_max {P : Int → Bool} {s : Int} (s0 : 0 ≤ s) (s1 : s < 64) (h : P s = true) : ∃ m, 0 ≤ m ∧ m < 64 ∧ maxP P m = true ∧ sub s m = true := by
  by_cases hm : maxP P s = true
  · exact ⟨s, s0, s1, hm, sub_refl s⟩
  · have : ∃ t, 0 ≤ t ∧ t < 64 ∧ P t = true ∧ sub s t = true ∧ t ≠ s := by
      refine Classical.byContradiction fun hn => hm (maxP_iff.2 ⟨h, fun t a b c d => Classical.byContradiction fun e => hn ⟨t, a, b, c, d, e⟩⟩)
    obtain ⟨t, a, b, c, d, e⟩ := this
    have hlt := sub_pc s0 s1 a b d e
    have := (pc_rng t).2
    obtain ⟨m, m0, m1, mm, ms⟩ := exists_max a b c
    exact ⟨m, m0, m1, mm, sub_trans d ms⟩
termination_by (6 - pc s).toNat
decreasing_by omega
theorem exists_min {P : Int → Bool} {s : Int} (s0 : 0 ≤ s) (s1 : s < 64) (h : P s = true) : ∃ m, 0 ≤ m ∧ m < 64 ∧ minP P m = true ∧ sub m s = true := by
  by_cases hm : minP P s = true
  · exact ⟨s, s0, s1, hm, sub_refl s⟩
  · have : ∃ t, 0 ≤ t ∧ t < 64 ∧ P t = true ∧ sub t s = true ∧ t ≠ s := by
      refine Classical.byContradiction fun hn => hm (minP_iff.2 ⟨h, fun t a b c d => Classical.byContradiction fun e => hn ⟨t, a, b, c, d, e⟩⟩)
    obtain ⟨t, a, b, c, d, e⟩ := this
    have hlt := sub_pc a b s0 s1 d (Ne.symm e)
    have := (pc_rng t).1
    obtain ⟨m, m0, m1, mm, ms⟩ := exists_min a b c
    exact ⟨m, m0, m1, mm, sub_trans ms d⟩
termination_by (pc s).toNat
decreasing_by omega
theorem bool_ext {a b : Bool} (h : a = true ↔ b = true) : a = b := Bool.eq_iff_iff.2 h
theorem dn_maxP (P : Int → Bool) (s : Int) : dn (maxP P) s = dn P s := bool_ext (by
  rw [dn_iff, dn_iff]
  constructor
  · rintro ⟨t, a, b, c, d⟩; exact ⟨t, a, b, (maxP_iff.1 c).1, d⟩
  · rintro ⟨t, a, b, c, d⟩
    obtain ⟨m, m0, m1, mm, ms⟩ := exists_max a b c
    exact ⟨m, m0, m1, mm, sub_trans d ms⟩)
theorem up_minP (P : Int → Bool) (s : Int) : up (minP P) s = up P s := bool_ext (by
  rw [up_iff, up_iff]
  constructor
  · rintro ⟨t, a, b, c, d⟩; exact ⟨t, a, b, (minP_iff.1 c).1, d⟩
  · rintro ⟨t, a, b, c, d⟩
    obtain ⟨m, m0, m1, mm, ms⟩ := exists_min a b c
    exact ⟨m, m0, m1, mm, sub_trans ms d⟩)
theorem maxP_dn {P : Int → Bool} {s : Int} (s0 : 0 ≤ s) (s1 : s < 64) : maxP P s = true ↔ dn P s = true ∧ ∀ t, 0 ≤ t → t < 64 → dn P t = true → sub s t = true → t = s := by
  rw [maxP_iff]
  constructor
  · rintro ⟨h, h'⟩
    refine ⟨dn_iff.2 ⟨s, s0, s1, h, sub_refl s⟩, fun t a b c d => ?_⟩
    obtain ⟨u, u0, u1, up, us⟩ := dn_iff.1 c
    have := h' u u0 u1 up (sub_trans d us)
    subst this
    exact sub_antisymm a s0 us d
  · rintro ⟨h, h'⟩
    obtain ⟨u, u0, u1, up, us⟩ := dn_iff.1 h
    have := h' u u0 u1 (dn_iff.2 ⟨u, u0, u1, up, sub_refl u⟩) us
    subst this
    exact ⟨up, fun t a b c d => h' t a b (dn_iff.2 ⟨t, a, b, c, sub_refl t⟩) d⟩
theorem minP_up {P : Int → Bool} {s : Int} (s0 : 0 ≤ s) (s1 : s < 64) : minP P s = true ↔ up P s = true ∧ ∀ t, 0 ≤ t → t < 64 → up P t = true → sub t s = true → t = s := by
  rw [minP_iff]
  constructor
  · rintro ⟨h, h'⟩
    refine ⟨up_iff.2 ⟨s, s0, s1, h, sub_refl s⟩, fun t a b c d => ?_⟩
    obtain ⟨u, u0, u1, up, us⟩ := up_iff.1 c
    have := h' u u0 u1 up (sub_trans us d)
    subst this
    exact sub_antisymm a s0 d us
  · rintro ⟨h, h'⟩
    obtain ⟨u, u0, u1, up, us⟩ := up_iff.1 h
    have := h' u u0 u1 (up_iff.2 ⟨u, u0, u1, up, sub_refl u⟩) us
    subst this
    exact ⟨up, fun t a b c d => h' t a b (up_iff.2 ⟨t, a, b, c, sub_refl t⟩) d⟩
theorem maxL_of_dn {P Q : Int → Bool} (h : ∀ s, 0 ≤ s → s < 64 → dn P s = dn Q s) : maxL P = maxL Q :=
  setsL_congr fun s s0 s1 => bool_ext (by
    rw [maxP_dn s0 s1, maxP_dn s0 s1, h s s0 s1]
    refine and_congr_right fun _ => ⟨fun g t a b c => g t a b (by rw [h t a b]; exact c), fun g t a b c => g t a b (by rw [← h t a b]; exact c)⟩)
theorem minL_of_up {P Q : Int → Bool} (h : ∀ s, 0 ≤ s → s < 64 → up P s = up Q s) : minL P = minL Q :=
  setsL_congr fun s s0 s1 => bool_ext (by
    rw [minP_up s0 s1, minP_up s0 s1, h s s0 s1]
    refine and_congr_right fun _ => ⟨fun g t a b c => g t a b (by rw [h t a b]; exact c), fun g t a b c => g t a b (by rw [← h t a b]; exact c)⟩)
theorem dn_congr {P Q : Int → Bool} (h : ∀ s, 0 ≤ s → s < 64 → P s = Q s) (s : Int) : dn P s = dn Q s := by rw [dn, dn, setsL_congr h]
theorem up_congr {P Q : Int → Bool} (h : ∀ s, 0 ≤ s → s < 64 → P s = Q s) (s : Int) : up P s = up Q s := by rw [up, up, setsL_congr h]
theorem maxL_congr {P Q : Int → Bool} (h : ∀ s, 0 ≤ s → s < 64 → P s = Q s) : maxL P = maxL Q := maxL_of_dn fun s _ _ => dn_congr h s
theorem minL_congr {P Q : Int → Bool} (h : ∀ s, 0 ≤ s → s < 64 → P s = Q s) : minL P = minL Q := minL_of_up fun s _ _ => up_congr h s
/-- A family that holds with a set all its subsets. -/
theorem dn_self {P : Int → Bool} (h : ∀ s t, 0 ≤ s → s < 64 → 0 ≤ t → t < 64 → P t = true → sub s t = true → P s = true) {s : Int} (s0 : 0 ≤ s) (s1 : s < 64) : dn P s = P s := bool_ext (by
  rw [dn_iff]
  exact ⟨fun ⟨t, a, b, c, d⟩ => h s t s0 s1 a b c d, fun h => ⟨s, s0, s1, h, sub_refl s⟩⟩)
theorem up_self {P : Int → Bool} (h : ∀ s t, 0 ≤ s → s < 64 → 0 ≤ t → t < 64 → P t = true → sub t s = true → P s = true) {s : Int} (s0 : 0 ≤ s) (s1 : s < 64) : up P s = P s := bool_ext (by
  rw [up_iff]
  exact ⟨fun ⟨t, a, b, c, d⟩ => h s t s0 s1 a b c d, fun h => ⟨s, s0, s1, h, sub_refl s⟩⟩)

/-! ### Of the lists in order -/

theorem bef_irrefl' {a b : Int} (h : bef a b) (h' : bef b a) : False := bef_irrefl _ (bef_trans h h')
theorem setsL_lt (P : Int → Bool) {i j : Nat} (hij : i < j) (hj : j < (setsL P).length) : bef (gi (setsL P) i) (gi (setsL P) j) := by
  rw [gi_eq _ i (by omega), gi_eq _ j hj]
  exact List.pairwise_iff_getElem.1 (setsL_sorted P) i j (by omega) hj hij
theorem mem_gi {xs : List Int} {x : Int} (h : x ∈ xs) : ∃ i, i < xs.length ∧ gi xs i = x := by
  obtain ⟨i, hi, e⟩ := List.getElem_of_mem h
  exact ⟨i, hi, by rw [gi_eq xs i hi, e]⟩
theorem gi_mem {xs : List Int} {k : Nat} (h : k < xs.length) : gi xs k ∈ xs := by rw [gi_eq xs k h]; exact List.getElem_mem _
theorem sub_lt_before {s t : Int} (s0 : 0 ≤ s) (s1 : s < 64) (t0 : 0 ≤ t) (t1 : t < 64) (h : sub s t = true) (hne : t ≠ s) : bef s t := .inl (sub_pc s0 s1 t0 t1 h hne)
theorem max_iff_later {P : Int → Bool} {k : Nat} (hk : k < (setsL P).length) : maxP P (gi (setsL P) k) = true ↔ ∀ i, k < i → i < (setsL P).length → sub (gi (setsL P) k) (gi (setsL P) i) = false := by
  obtain ⟨k0, k1, kp⟩ := setsL_rng hk
  rw [maxP_iff]
  constructor
  · rintro ⟨_, h⟩ i hki hi
    obtain ⟨i0, i1, ip⟩ := setsL_rng hi
    rw [← Bool.not_eq_true]
    intro hs
    have e := h _ i0 i1 ip hs
    have := setsL_lt P hki hi
    rw [e] at this
    exact bef_irrefl _ this
  · intro h
    refine ⟨kp, fun t t0 t1 tp ts => Classical.byContradiction fun hne => ?_⟩
    obtain ⟨i, hi, rfl⟩ := mem_gi (mem_setsL.2 ⟨t0, t1, tp⟩)
    have hb := sub_lt_before k0 k1 t0 t1 ts hne
    by_cases hik : i < k
    · exact bef_irrefl' hb (setsL_lt P hik hk)
    · by_cases e : i = k
      · subst e; exact hne rfl
      · have := h i (by omega) hi
        rw [ts] at this
        cases this
theorem take_filter_mem {P Q : Int → Bool} {k : Nat} {t : Int} : t ∈ ((setsL P).take k).filter Q ↔ (∃ i, i < k ∧ i < (setsL P).length ∧ gi (setsL P) i = t) ∧ Q t = true := by
  rw [List.mem_filter]
  refine and_congr_left fun _ => ?_
  constructor
  · intro h
    obtain ⟨i, hi, e⟩ := List.getElem_of_mem h
    rw [List.length_take] at hi
    rw [List.getElem_take] at e
    exact ⟨i, by omega, by omega, by rw [gi_eq _ i (by omega), e]⟩
  · rintro ⟨i, h1, h2, rfl⟩
    rw [gi_eq _ i h2, ← List.getElem_take (j := k) (h := by simp; omega)]
    exact List.getElem_mem _
theorem min_iff_prev {P : Int → Bool} {k : Nat} (hk : k < (setsL P).length) : minP P (gi (setsL P) k) = true ↔ ∀ t ∈ ((setsL P).take k).filter (minP P), sub t (gi (setsL P) k) = false := by
  obtain ⟨k0, k1, kp⟩ := setsL_rng hk
  constructor
  · intro h t ht
    obtain ⟨⟨i, hik, hi, rfl⟩, hm⟩ := take_filter_mem.1 ht
    obtain ⟨i0, i1, ip⟩ := setsL_rng hi
    rw [← Bool.not_eq_true]
    intro hs
    have e := (minP_iff.1 h).2 _ i0 i1 ip hs
    have := setsL_lt P hik hk
    rw [e] at this
    exact bef_irrefl _ this
  · intro h
    refine minP_iff.2 ⟨kp, fun t t0 t1 tp ts => Classical.byContradiction fun hne => ?_⟩
    obtain ⟨m, m0, m1, mm, ms⟩ := exists_min t0 t1 tp
    have hmk := sub_trans ms ts
    have hne' : gi (setsL P) k ≠ m := by
      rintro rfl
      exact hne (sub_antisymm t0 k0 ts ms)
    have hb := sub_lt_before m0 m1 k0 k1 hmk hne'
    obtain ⟨i, hi, e⟩ := mem_gi (mem_setsL.2 ⟨m0, m1, (minP_iff.1 mm).1⟩)
    have hik : i < k := by
      rcases Nat.lt_trichotomy i k with h1 | h1 | h1
      · exact h1
      · subst h1; exact absurd e hne'
      · have := setsL_lt P h1 hi
        rw [e] at this
        exact absurd this (fun h2 => bef_irrefl' hb h2)
    have := h m (take_filter_mem.2 ⟨⟨i, hik, hi, e⟩, mm⟩)
    rw [hmk] at this
    cases this
theorem gi_drop (xs : List Int) (m j : Nat) : gi (xs.drop m) j = gi xs (m + j) := by simp [gi, List.getD]
theorem take_succ_gi {xs : List Int} {j : Nat} (h : j < xs.length) : xs.take (j + 1) = xs.take j ++ [gi xs j] := by
  rw [List.take_succ_eq_append_getElem h, gi_eq xs j h]
theorem filter_succ_t {xs : List Int} {j : Nat} (h : j < xs.length) {Q : Int → Bool} (hq : Q (gi xs j) = true) : (xs.take (j + 1)).filter Q = (xs.take j).filter Q ++ [gi xs j] := by
  rw [take_succ_gi h, List.filter_append]; simp [hq]
theorem filter_succ_f {xs : List Int} {j : Nat} (h : j < xs.length) {Q : Int → Bool} (hq : Q (gi xs j) = false) : (xs.take (j + 1)).filter Q = (xs.take j).filter Q := by
  rw [take_succ_gi h, List.filter_append]; simp [hq]
theorem max_all (P : Int → Bool) : (setsL P).filter (maxP P) = maxL P := by
  rw [setsL_filter, maxL]
  refine setsL_congr fun s _ _ => ?_
  cases h : maxP P s with
  | false => simp
  | true => simp [(maxP_iff.1 h).1]
theorem min_all (P : Int → Bool) : (setsL P).filter (minP P) = minL P := by
  rw [setsL_filter, minL]
  refine setsL_congr fun s _ _ => ?_
  cases h : minP P s with
  | false => simp
  | true => simp [(minP_iff.1 h).1]
theorem maxL_len (P : Int → Bool) : (maxL P).length ≤ 448 := setsL_len _
theorem minL_len (P : Int → Bool) : (minL P).length ≤ 448 := setsL_len _
theorem maxL_rng {P : Int → Bool} {x : Int} (h : x ∈ maxL P) : 0 ≤ x ∧ x < 64 := by have := mem_setsL.1 h; exact ⟨this.1, this.2.1⟩
theorem minL_rng {P : Int → Bool} {x : Int} (h : x ∈ minL P) : 0 ≤ x ∧ x < 64 := by have := mem_setsL.1 h; exact ⟨this.1, this.2.1⟩
theorem gi_rng {xs : List Int} (h : ∀ x ∈ xs, 0 ≤ x ∧ x < 64) {k : Nat} (hk : k < xs.length) : 0 ≤ gi xs k ∧ gi xs k < 64 := h _ (gi_mem hk)

/-! ### A table of 64 marks -/

def tabB (P : Int → Bool) : List Bool := (List.range 64).map fun s : Nat => P (s : Int)
theorem tabB_len (P : Int → Bool) : (bools (tabB P)).length = 64 := by simp [bools, tabB]
theorem tabB_get (P : Int → Bool) (k : Nat) (h : k < 64) : (bools (tabB P))[k]? = some (.bool (P (k : Int))) := by simp [bools, tabB, h]
theorem tabB_none : List.replicate 64 (Value.bool false) = bools (tabB (fun _ => false)) := by rfl
theorem tabB_congr {P Q : Int → Bool} (h : ∀ s : Int, 0 ≤ s → s < 64 → P s = Q s) : tabB P = tabB Q := by
  unfold tabB
  refine List.map_congr_left fun s hs => h _ (by omega) (by have := List.mem_range.1 hs; omega)
theorem tabB_set (P : Int → Bool) (k : Nat) (h : k < 64) : (bools (tabB P)).set k (.bool true) = bools (tabB (fun s => P s || s == (k : Int))) := by
  refine List.ext_getElem? fun j => ?_
  rw [List.getElem?_set]
  by_cases hj : j < 64
  · rw [tabB_get _ j hj, tabB_get _ j hj]
    by_cases e : k = j
    · subst e; simp [tabB_len, h]
    · have e' : ((j : Int) == (k : Int)) = false := by simp; omega
      simp [e, e']
  · rw [List.getElem?_eq_none (by rw [tabB_len]; omega), List.getElem?_eq_none (by rw [tabB_len]; omega)]
    split <;> simp [tabB_len]
    omega
theorem mem_nil (s : Int) : mem [] s = false := by simp [mem]
theorem mem_succ {xs : List Int} {j : Nat} (h : j < xs.length) (s : Int) : mem (xs.take (j + 1)) s = (mem (xs.take j) s || s == gi xs j) := by
  rw [Bool.eq_iff_iff]
  simp [mem, take_succ_gi h]
/-- The first k numbers with Q. -/
def upToP (k : Int) (Q : Int → Bool) (t : Int) : Bool := decide (t < k) && Q t
def pw (n : Int) : Int := (2 : Int) ^ n.toNat
theorem pw_rng {n : Int} (h0 : 0 ≤ n) (h6 : n ≤ 6) : 1 ≤ pw n ∧ pw n ≤ 64 := by rcases six h0 h6 with rfl | rfl | rfl | rfl | rfl | rfl | rfl <;> decide
theorem pw_wrap {n : Int} (h0 : 0 ≤ n) (h6 : n ≤ 6) : wrap64 (2 ^ n.toNat) = pw n := by rcases six h0 h6 with rfl | rfl | rfl | rfl | rfl | rfl | rfl <;> decide +kernel
theorem upToP_none (Q : Int → Bool) : fam (upToP 0 Q) = 0 := fam_none' fun s h _ => by
  have : decide (s < 0) = false := by simp; omega
  simp [upToP, this]
theorem upToP_t {k : Nat} (hk : k < 64) {Q : Int → Bool} (h : Q (k : Int) = true) : bits .or .u64 (fam (upToP (k : Int) Q)) (IntKind.u64.wrap (2 ^ k)) = fam (upToP ((k : Int) + 1) Q) := by
  have := fam_add (upToP (k : Int) Q) (s := (k : Int)) (by omega) (by omega)
  rw [Int.toNat_natCast] at this
  rw [this]
  refine fam_congr fun s s0 s1 => ?_
  unfold upToP
  by_cases e : s = (k : Int)
  · subst e
    have : decide ((k : Int) < (k : Int) + 1) = true := by simp; omega
    simp [h, this]
  · have h1 : (s == (k : Int)) = false := by simp [e]
    have h2 : decide (s < (k : Int) + 1) = decide (s < (k : Int)) := by
      rw [Bool.eq_iff_iff]; simp; omega
    rw [h1, h2, Bool.or_false]
theorem upToP_f {k : Nat} {Q : Int → Bool} (h : Q (k : Int) = false) : fam (upToP (k : Int) Q) = fam (upToP ((k : Int) + 1) Q) := by
  refine fam_congr fun s s0 s1 => ?_
  unfold upToP
  by_cases e : s = (k : Int)
  · subst e; simp [h]
  · have h2 : decide (s < (k : Int) + 1) = decide (s < (k : Int)) := by
      rw [Bool.eq_iff_iff]; simp; omega
    rw [h2]

end Go.Proofs.Ytjaofbdfhcgmeaa
