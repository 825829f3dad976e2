/-
  The rank by factors, modulo a prime: plain law.
-/
import Derived.Test.YtjaofbdfhcgmeaaLib
namespace Go.Proofs.Ytjaofbdfhcgmeaa
open Go.RowKit

/-! ### Finite sums -/

def sm (f : Nat → Int) : Nat → Int
  | 0 => 0
  | k + 1 => sm f k + f k
theorem sm_congr {f g : Nat → Int} {k : Nat} (h : ∀ i, i < k → f i = g i) : sm f k = sm g k := by
  induction k with
  | zero => rfl
  | succ k ih => rw [sm, sm, ih fun i hi => h i (by omega), h k (by omega)]
theorem sm_add (f g : Nat → Int) (k : Nat) : sm (fun i => f i + g i) k = sm f k + sm g k := by
  induction k with
  | zero => rfl
  | succ k ih => simp only [sm]; rw [ih]; omega
theorem sm_mul (c : Int) (f : Nat → Int) (k : Nat) : sm (fun i => c * f i) k = c * sm f k := by
  induction k with
  | zero => simp [sm]
  | succ k ih => simp only [sm]; rw [ih, Int.mul_add]
theorem sm_zero (k : Nat) : sm (fun _ => 0) k = 0 := by
  induction k with
  | zero => rfl
  | succ k ih => simp only [sm]; rw [ih]; rfl
theorem sm_swap (f : Nat → Nat → Int) (a b : Nat) : sm (fun i => sm (fun j => f i j) b) a = sm (fun j => sm (fun i => f i j) a) b := by
  induction a with
  | zero => simp only [sm]; rw [sm_zero]
  | succ a ih => simp only [sm]; rw [ih, ← sm_add]
theorem sm_dvd {p : Int} {f : Nat → Int} {k : Nat} (h : ∀ i, i < k → p ∣ f i) : p ∣ sm f k := by
  induction k with
  | zero => exact Int.dvd_zero p
  | succ k ih => exact Int.dvd_add (ih fun i hi => h i (by omega)) (h k (by omega))
theorem sm_dvd_sub {p : Int} {f g : Nat → Int} {k : Nat} (h : ∀ i, i < k → p ∣ (f i - g i)) : p ∣ (sm f k - sm g k) := by
  induction k with
  | zero => exact ⟨0, by simp [sm]⟩
  | succ k ih =>
    have h1 := ih fun i hi => h i (by omega)
    have h2 := Int.dvd_add h1 (h k (by omega))
    have e : sm f (k + 1) - sm g (k + 1) = sm f k - sm g k + (f k - g k) := by simp only [sm]; omega
    rw [e]; exact h2
/-- The places but one. -/
def skip (z i : Nat) : Nat := if i < z then i else i + 1
theorem sm_skip (f : Nat → Int) {z k : Nat} (hz : z ≤ k) : sm f (k + 1) = sm (fun i => f (skip z i)) k + f z := by
  induction k with
  | zero =>
    have : z = 0 := by omega
    subst this
    simp [sm]
  | succ k ih =>
    by_cases h : z ≤ k
    · have := ih h
      rw [sm, this, sm]
      have e : skip z k = k + 1 := by simp [skip]; omega
      rw [e]; omega
    · have e : z = k + 1 := by omega
      subst e
      rw [sm]
      have : sm f (k + 1) = sm (fun i => f (skip (k + 1) i)) (k + 1) := sm_congr fun i hi => by simp [skip, hi]
      rw [this]

/-! ### A system with more unknowns than equations -/

def Inv (p : Int) : Prop := 2 ≤ p ∧ ∀ a : Int, ¬ p ∣ a → ∃ b, p ∣ (a * b - 1)
def unskip (z i : Nat) : Nat := if i < z then i else i - 1
theorem unskip_skip (z i : Nat) : unskip z (skip z i) = i := by
  unfold unskip skip
  by_cases h : i < z
  · rw [if_pos h, if_pos h]
  · rw [if_neg h, if_neg (by omega)]; omega
theorem skip_ne (z i : Nat) : skip z i ≠ z := by unfold skip; split <;> omega
theorem skip_lt {z i r : Nat} (hi : i < r) : skip z i < r + 1 := by unfold skip; split <;> omega
theorem ker {p : Int} (hp : Inv p) (s : Nat) : ∀ (r : Nat) (B : Nat → Nat → Int), s < r → ∃ y : Nat → Int, (∃ i, i < r ∧ ¬ p ∣ y i) ∧ ∀ k, k < s → p ∣ sm (fun i => y i * B i k) r := by
  induction s with
  | zero =>
    intro r B hr
    refine ⟨fun _ => 1, ⟨0, hr, fun h => ?_⟩, fun k hk => by omega⟩
    have h1 : p ≤ (1 : Int) := Int.le_of_dvd (by decide) h
    have := hp.1
    omega
  | succ s ih =>
    intro r B hr
    by_cases h0 : ∀ i, i < r → p ∣ B i s
    · obtain ⟨y, hy, hk⟩ := ih r B (by omega)
      refine ⟨y, hy, fun k hks => ?_⟩
      by_cases e : k = s
      · subst e
        exact sm_dvd fun i hi => Int.dvd_mul_of_dvd_right (h0 i hi)
      · exact hk k (by omega)
    · obtain ⟨z, hz, hzn⟩ : ∃ z, z < r ∧ ¬ p ∣ B z s := by
        by_cases he : ∃ z, z < r ∧ ¬ p ∣ B z s
        · exact he
        · exact absurd (fun i hi => Classical.byContradiction fun h => he ⟨i, hi, h⟩) h0
      obtain ⟨b, hb⟩ := hp.2 _ hzn
      obtain ⟨r', rfl⟩ : ∃ r', r = r' + 1 := ⟨r - 1, by omega⟩
      obtain ⟨y, ⟨i0, hi0, hy0⟩, hk⟩ := ih r' (fun i k => B (skip z i) k - B (skip z i) s * b * B z k) (by omega)
      obtain ⟨T, hT⟩ : ∃ T, sm (fun i => y i * B (skip z i) s) r' = T := ⟨_, rfl⟩
      refine ⟨fun i => if i = z then -(T * b) else y (unskip z i), ⟨skip z i0, skip_lt hi0, ?_⟩, fun k hks => ?_⟩
      · show ¬ p ∣ (if skip z i0 = z then -(T * b) else y (unskip z (skip z i0)))
        rw [if_neg (skip_ne z i0), unskip_skip]; exact hy0
      · have e : sm (fun i => (if i = z then -(T * b) else y (unskip z i)) * B i k) (r' + 1) = sm (fun i => y i * B (skip z i) k) r' + -(T * b) * B z k := by
          rw [sm_skip _ (show z ≤ r' by omega), if_pos rfl]
          congr 1
          exact sm_congr fun i _ => by rw [if_neg (skip_ne z i), unskip_skip]
        rw [e]
        by_cases hke : k = s
        · subst hke
          rw [hT]
          have : T + -(T * b) * B z k = -(T * (B z k * b - 1)) := by
            rw [Int.mul_sub, Int.mul_one, Int.neg_mul, Int.mul_assoc, Int.mul_comm b (B z k)]
            omega
          rw [this]
          exact Int.dvd_neg.2 (Int.dvd_mul_of_dvd_right hb)
        · have h1 := hk k (by omega)
          have e2 : sm (fun i => y i * (B (skip z i) k - B (skip z i) s * b * B z k)) r' = sm (fun i => y i * B (skip z i) k) r' + -(T * b) * B z k := by
            have e3 : sm (fun i => y i * (B (skip z i) k - B (skip z i) s * b * B z k)) r' = sm (fun i => y i * B (skip z i) k + (-(b * B z k)) * (y i * B (skip z i) s)) r' := sm_congr fun i _ => by
              rw [Int.mul_sub, Int.neg_mul]
              have : y i * (B (skip z i) s * b * B z k) = b * B z k * (y i * B (skip z i) s) := by
                rw [Int.mul_assoc, ← Int.mul_assoc (y i), Int.mul_comm (b * B z k)]
              rw [this]; omega
            rw [e3, sm_add, sm_mul, hT]
            congr 1
            rw [Int.neg_mul, Int.neg_mul, Int.mul_comm (b * B z k), Int.mul_assoc]
          rw [← e2]; exact h1

/-! ### The identity factors through no less than its size -/

def dl (i j : Nat) : Int := if i = j then 1 else 0
theorem sm_dl (y : Nat → Int) {j r : Nat} (hj : j < r) : sm (fun i => y i * dl i j) r = y j := by
  induction r with
  | zero => omega
  | succ r ih =>
    rw [sm]
    by_cases e : j = r
    · subst e
      have : sm (fun i => y i * dl i j) j = 0 := by
        rw [← sm_zero j]
        exact sm_congr fun i hi => by simp [dl, show ¬ i = j by omega]
      rw [this]; simp [dl]
    · rw [ih (by omega)]; simp [dl, show ¬ r = j by omega]
theorem no_id {p : Int} (hp : Inv p) {r s : Nat} {B C : Nat → Nat → Int} (h : ∀ i j, i < r → j < r → p ∣ (dl i j - sm (fun k => B i k * C k j) s)) : r ≤ s := by
  by_cases hrs : r ≤ s
  · exact hrs
  · exfalso
    obtain ⟨y, ⟨j, hj, hy⟩, hk⟩ := ker hp s r B (by omega)
    apply hy
    have h1 : p ∣ (sm (fun i => y i * dl i j) r - sm (fun i => y i * sm (fun k => B i k * C k j) s) r) := sm_dvd_sub fun i hi => by
      have := h i j hi hj
      rw [← Int.mul_sub]; exact Int.dvd_mul_of_dvd_right this
    rw [sm_dl y hj] at h1
    have h2 : sm (fun i => y i * sm (fun k => B i k * C k j) s) r = sm (fun k => sm (fun i => y i * B i k) r * C k j) s := by
      have e1 : sm (fun i => y i * sm (fun k => B i k * C k j) s) r = sm (fun i => sm (fun k => y i * (B i k * C k j)) s) r := sm_congr fun i _ => (sm_mul _ _ _).symm
      rw [e1, sm_swap]
      exact sm_congr fun k _ => by
        have : sm (fun i => y i * (B i k * C k j)) r = sm (fun i => C k j * (y i * B i k)) r := sm_congr fun i _ => by rw [← Int.mul_assoc, Int.mul_comm]
        rw [this, sm_mul, Int.mul_comm]
    have h3 : p ∣ sm (fun i => y i * sm (fun k => B i k * C k j) s) r := by
      rw [h2]
      exact sm_dvd fun k hks => Int.dvd_mul_of_dvd_left (hk k hks)
    have h4 := Int.dvd_add h1 h3
    have e : y j - sm (fun i => y i * sm (fun k => B i k * C k j) s) r + sm (fun i => y i * sm (fun k => B i k * C k j) s) r = y j := by omega
    rwa [e] at h4

/-! ### The rank by factors -/

/-- A (m rows, n columns) factors through r. -/
def FR (p : Int) (m n r : Nat) (A : Nat → Nat → Int) : Prop := ∃ B C : Nat → Nat → Int, ∀ i j, i < m → j < n → p ∣ (A i j - sm (fun k => B i k * C k j) r)
/-- The rank is r: it factors through r, and through no less. -/
def RK (p : Int) (m n r : Nat) (A : Nat → Nat → Int) : Prop := FR p m n r A ∧ ∀ s, FR p m n s A → r ≤ s
theorem RK.unique {p : Int} {m n r s : Nat} {A : Nat → Nat → Int} (h : RK p m n r A) (h' : RK p m n s A) : r = s := Nat.le_antisymm (h.2 _ h'.1) (h'.2 _ h.1)
theorem FR.turn {p : Int} {m n r : Nat} {A : Nat → Nat → Int} (h : FR p m n r A) : FR p n m r fun i j => A j i := by
  obtain ⟨B, C, h⟩ := h
  refine ⟨fun i k => C k i, fun k j => B j k, fun i j hi hj => ?_⟩
  have := h j i hj hi
  rwa [sm_congr (g := fun k => C k i * B j k) fun k _ => Int.mul_comm _ _] at this
theorem RK.turn {p : Int} {m n r : Nat} {A : Nat → Nat → Int} (h : RK p m n r A) : RK p n m r fun i j => A j i := ⟨h.1.turn, fun s hs => h.2 s hs.turn⟩
theorem FR.congr {p : Int} {m n r : Nat} {A A' : Nat → Nat → Int} (h : FR p m n r A) (e : ∀ i j, i < m → j < n → p ∣ (A' i j - A i j)) : FR p m n r A' := by
  obtain ⟨B, C, h⟩ := h
  refine ⟨B, C, fun i j hi hj => ?_⟩
  have h1 := Int.dvd_add (e i j hi hj) (h i j hi hj)
  have e2 : A' i j - A i j + (A i j - sm (fun k => B i k * C k j) r) = A' i j - sm (fun k => B i k * C k j) r := by omega
  rwa [e2] at h1
/-- Rows made of rows, with factors. -/
theorem FR.left {p : Int} {m n r l : Nat} {A : Nat → Nat → Int} (h : FR p m n r A) (D : Nat → Nat → Int) : FR p l n r fun i j => sm (fun t => D i t * A t j) m := by
  obtain ⟨B, C, h⟩ := h
  refine ⟨fun i k => sm (fun t => D i t * B t k) m, C, fun i j _ hj => ?_⟩
  have e : sm (fun k => sm (fun t => D i t * B t k) m * C k j) r = sm (fun t => D i t * sm (fun k => B t k * C k j) r) m := by
    have e1 : sm (fun k => sm (fun t => D i t * B t k) m * C k j) r = sm (fun k => sm (fun t => D i t * B t k * C k j) m) r := sm_congr fun k _ => by
      rw [Int.mul_comm, ← sm_mul]; exact sm_congr fun t _ => Int.mul_comm _ _
    have e2 : sm (fun t => D i t * sm (fun k => B t k * C k j) r) m = sm (fun t => sm (fun k => D i t * B t k * C k j) r) m := sm_congr fun t _ => by
      rw [← sm_mul]; exact sm_congr fun k _ => (Int.mul_assoc _ _ _).symm
    rw [e1, e2, sm_swap]
  show p ∣ (sm (fun t => D i t * A t j) m - _)
  rw [e]
  exact sm_dvd_sub fun t ht => by rw [← Int.mul_sub]; exact Int.dvd_mul_of_dvd_right (h t j ht hj)
/-- A product's rank is at most the first factor's. -/
theorem FR.right {p : Int} {m n r l : Nat} {A : Nat → Nat → Int} (h : FR p m n r A) (D : Nat → Nat → Int) : FR p m l r fun i j => sm (fun t => A i t * D t j) n := by
  have := (h.turn.left (l := l) (fun j t => D t j)).turn
  refine this.congr fun i j _ _ => ?_
  have e : sm (fun t => A i t * D t j) n = sm (fun t => D t j * A i t) n := sm_congr fun t _ => Int.mul_comm _ _
  rw [e]; exact ⟨0, by omega⟩
theorem id_rank {p : Int} (hp : Inv p) (r : Nat) : RK p r r r dl := by
  refine ⟨⟨dl, dl, fun i j hi hj => ?_⟩, fun s ⟨B, C, h⟩ => no_id hp h⟩
  have e : sm (fun k => dl i k * dl k j) r = dl i j := sm_dl (fun k => dl i k) hj
  rw [e]; exact ⟨0, by omega⟩

end Go.Proofs.Ytjaofbdfhcgmeaa
