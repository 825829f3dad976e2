/-
  Parts of a complex: the least closed set of points around one.
-/
import Derived.Test.YtjaofbdfhcgmeaaCy
namespace Go.Proofs.Ytjaofbdfhcgmeaa
open Go.RowKit

/-! ### Sets of points as numbers below 64 -/

def orS (s t : Int) : Int := ((s.toNat ||| t.toNat : Nat) : Int)
def meets (s t : Int) : Bool := s.toNat &&& t.toNat != 0
def lowS (l : Int) : Int := bits .and .i64 l (wrap64 (-l))
def restS (l p : Int) : Int := bits .andNot .i64 l p
theorem orS_fin : ∀ s t : Fin 64, bits .or .i64 (s.val : Int) (t.val : Int) = ((s.val ||| t.val : Nat) : Int) ∧ s.val ||| t.val < 64 := by decide +kernel
theorem meets_fin : ∀ s t : Fin 64, (bits .and .i64 (s.val : Int) (t.val : Int) == 0) = !(s.val &&& t.val != 0) := by decide +kernel
theorem low_fin : ∀ l : Fin 64, l.val ≠ 0 → 0 < lowS l.val ∧ lowS l.val < 64 := by decide +kernel
theorem rest_fin : ∀ l p : Fin 64, 0 ≤ restS l.val p.val ∧ restS l.val p.val < 64 ∧ restS l.val p.val = (l.val : Int) - bits .and .i64 (l.val : Int) (p.val : Int) ∧ (l.val ≠ 0 → sub (lowS l.val) p.val = true → restS l.val p.val < l.val) := by decide +kernel
theorem sub_le_fin : ∀ s t : Fin 64, sub s.val t.val = true → s.val ≤ t.val := by decide +kernel

theorem or_bits {s t : Int} (s0 : 0 ≤ s) (s1 : s < 64) (t0 : 0 ≤ t) (t1 : t < 64) : bits .or .i64 s t = orS s t := by
  have := (orS_fin ⟨s.toNat, by omega⟩ ⟨t.toNat, by omega⟩).1
  simp only [Int.toNat_of_nonneg s0, Int.toNat_of_nonneg t0] at this
  exact this
theorem or_rng {s t : Int} (s0 : 0 ≤ s) (s1 : s < 64) (t0 : 0 ≤ t) (t1 : t < 64) : 0 ≤ orS s t ∧ orS s t < 64 := by
  have := (orS_fin ⟨s.toNat, by omega⟩ ⟨t.toNat, by omega⟩).2
  unfold orS
  simp only at this
  omega
theorem and_meets {s t : Int} (s0 : 0 ≤ s) (s1 : s < 64) (t0 : 0 ≤ t) (t1 : t < 64) : (bits .and .i64 s t == 0) = !meets s t := by
  have := meets_fin ⟨s.toNat, by omega⟩ ⟨t.toNat, by omega⟩
  simp only [Int.toNat_of_nonneg s0, Int.toNat_of_nonneg t0] at this
  exact this
theorem low_rng {l : Int} (l0 : 0 < l) (l1 : l < 64) : 0 < lowS l ∧ lowS l < 64 := by
  have := low_fin ⟨l.toNat, by omega⟩ (by show l.toNat ≠ 0; omega)
  simp only [Int.toNat_of_nonneg (show 0 ≤ l by omega)] at this
  exact this
theorem rest_rng {l p : Int} (l0 : 0 ≤ l) (l1 : l < 64) (p0 : 0 ≤ p) (p1 : p < 64) : 0 ≤ restS l p ∧ restS l p < 64 ∧ restS l p = l - bits .and .i64 l p ∧ (0 < l → sub (lowS l) p = true → restS l p < l) := by
  have := rest_fin ⟨l.toNat, by omega⟩ ⟨p.toNat, by omega⟩
  simp only [Int.toNat_of_nonneg l0, Int.toNat_of_nonneg p0] at this
  exact ⟨this.1, this.2.1, this.2.2.1, fun h => this.2.2.2 (by omega)⟩
theorem sub_le {s t : Int} (s0 : 0 ≤ s) (s1 : s < 64) (t0 : 0 ≤ t) (t1 : t < 64) (h : sub s t = true) : s ≤ t := by
  have := sub_le_fin ⟨s.toNat, by omega⟩ ⟨t.toNat, by omega⟩
  simp only [Int.toNat_of_nonneg s0, Int.toNat_of_nonneg t0] at this
  have := this h
  omega
theorem sub_nat {s t : Int} : sub s t = true ↔ s.toNat &&& t.toNat = s.toNat := by simp [sub]
theorem or_left (s t : Int) : sub s (orS s t) = true := by
  rw [sub_nat]; simp only [orS, Int.toNat_natCast]
  apply Nat.eq_of_testBit_eq; intro i; simp; intro h; simp [h]
theorem or_right (s t : Int) : sub t (orS s t) = true := by
  rw [sub_nat]; simp only [orS, Int.toNat_natCast]
  apply Nat.eq_of_testBit_eq; intro i; simp; intro h; simp [h]
theorem or_least {s t u : Int} (h : sub s u = true) (h' : sub t u = true) : sub (orS s t) u = true := by
  rw [sub_nat] at *
  simp only [orS, Int.toNat_natCast]
  rw [Nat.and_or_distrib_right, h, h']
theorem meets_mono {s p q : Int} (h : meets s p = true) (hq : sub p q = true) : meets s q = true := by
  simp only [meets, bne_iff_ne, ne_eq] at *
  rw [sub_nat] at hq
  intro h0
  apply h
  rw [← hq, Nat.and_comm p.toNat, ← Nat.and_assoc, h0, Nat.zero_and]

/-! ### Closed sets -/

def Closed (xs : List Int) (Q : Int) : Prop := ∀ s ∈ xs, meets s Q = true → sub s Q = true
def Under (xs : List Int) (p P : Int) : Prop := (0 ≤ P ∧ P < 64) ∧ sub p P = true ∧ ∀ Q, 0 ≤ Q → Q < 64 → sub p Q = true → Closed xs Q → sub P Q = true
def IsComp (xs : List Int) (p P : Int) : Prop := Under xs p P ∧ Closed xs P
theorem under_self {xs : List Int} {p : Int} (h0 : 0 ≤ p) (h1 : p < 64) : Under xs p p := ⟨⟨h0, h1⟩, sub_refl p, fun _ _ _ h _ => h⟩
theorem under_or {xs : List Int} {p P P0 s : Int} (h : Under xs p P) (h0 : sub P0 P = true) (hs : s ∈ xs) (s0 : 0 ≤ s) (s1 : s < 64) (hm : meets s P0 = true) : Under xs p (orS P s) :=
  ⟨or_rng h.1.1 h.1.2 s0 s1, sub_trans h.2.1 (or_left P s), fun Q q0 q1 hp hc => by
    have h1 := h.2.2 Q q0 q1 hp hc
    exact or_least h1 (hc s hs (meets_mono hm (sub_trans h0 h1)))⟩
theorem comp_unique {xs : List Int} {p P P' : Int} (h : IsComp xs p P) (h' : IsComp xs p P') : P = P' :=
  sub_antisymm h.1.1.1 h'.1.1.1 (h.1.2.2 P' h'.1.1.1 h'.1.1.2 h'.1.2.1 h'.2) (h'.1.2.2 P h.1.1.1 h.1.1.2 h.1.2.1 h.2)

/-- From what is left, k parts are taken until nothing is left. -/
inductive Parts (xs : List Int) : Int → Nat → Prop
  | zero : Parts xs 0 0
  | succ (l P : Int) (k : Nat) : 0 < l → IsComp xs (lowS l) P → Parts xs (restS l P) k → Parts xs l (k + 1)
theorem parts_unique {xs : List Int} {l : Int} {k k' : Nat} (h : Parts xs l k) (h' : Parts xs l k') : k = k' := by
  induction h generalizing k' with
  | zero =>
    cases h' with
    | zero => rfl
    | succ _ P k h0 _ _ => omega
  | succ l P k h0 hc hp ih =>
    cases h' with
    | zero => omega
    | succ _ P' k2 h0' hc' hp' =>
      have e := comp_unique hc hc'
      subst e
      rw [ih hp']

/-- The points of the sets. -/
def usedTo (xs : List Int) : Nat → Int
  | 0 => 0
  | j + 1 => orS (usedTo xs j) (gi xs j)
def usedS (xs : List Int) : Int := usedTo xs xs.length
theorem usedTo_rng {xs : List Int} (h : ∀ x ∈ xs, 0 ≤ x ∧ x < 64) {j : Nat} (hj : j ≤ xs.length) : 0 ≤ usedTo xs j ∧ usedTo xs j < 64 := by
  induction j with
  | zero => show (0 : Int) ≤ 0 ∧ (0 : Int) < 64; omega
  | succ j ih =>
    have h1 := ih (by omega)
    have h2 := gi_rng h (k := j) (by omega)
    exact or_rng h1.1 h1.2 h2.1 h2.2

open Classical in
noncomputable def partsN (xs : List Int) : Int := if h : ∃ k, Parts xs (usedS xs) k then (h.choose : Int) else 0
theorem partsN_eq {xs : List Int} {k : Nat} (h : Parts xs (usedS xs) k) : partsN xs = k := by
  have he : ∃ k, Parts xs (usedS xs) k := ⟨k, h⟩
  rw [partsN, dif_pos he, parts_unique h he.choose_spec]
noncomputable def partsB (n : Int) (xs : List Int) : Int := if isC n xs = true then partsN xs else 0
def usedB (n : Int) (xs : List Int) : Int := if isC n xs = true then usedS xs else 0

end Go.Proofs.Ytjaofbdfhcgmeaa
