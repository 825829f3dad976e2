/-
  Ranks by factors: sums, products, blocks; every matrix has a rank, and an identity inside it.
-/
import Derived.Test.YtjaofbdfhcgmeaaElim
namespace Go.Proofs.Ytjaofbdfhcgmeaa
open Go.RowKit

/-! ### Products -/

/-- A product with middle n. -/
def mm (n : Nat) (A B : Nat → Nat → Int) (i j : Nat) : Int := sm (fun k => A i k * B k j) n
/-- The same entries mod p, in m rows and n columns. -/
def Cg (p : Int) (m n : Nat) (A B : Nat → Nat → Int) : Prop := ∀ i j, i < m → j < n → p ∣ (A i j - B i j)
theorem Cg.rfl' {p : Int} {m n : Nat} {A : Nat → Nat → Int} : Cg p m n A A := fun _ _ _ _ => dvd_zero_sub rfl
theorem Cg.of_eq {p : Int} {m n : Nat} {A B : Nat → Nat → Int} (h : ∀ i j, i < m → j < n → A i j = B i j) : Cg p m n A B := fun i j hi hj => dvd_zero_sub (h i j hi hj)
theorem Cg.symm {p : Int} {m n : Nat} {A B : Nat → Nat → Int} (h : Cg p m n A B) : Cg p m n B A := fun i j hi hj => by
  obtain ⟨u, hu⟩ := h i j hi hj
  exact ⟨-u, by rw [Int.mul_neg]; omega⟩
theorem Cg.trans {p : Int} {m n : Nat} {A B C : Nat → Nat → Int} (h : Cg p m n A B) (h' : Cg p m n B C) : Cg p m n A C := fun i j hi hj => by
  have e : A i j - C i j = (A i j - B i j) + (B i j - C i j) := by omega
  rw [e]; exact Int.dvd_add (h i j hi hj) (h' i j hi hj)
theorem Cg.add {p : Int} {m n : Nat} {A B A' B' : Nat → Nat → Int} (h : Cg p m n A B) (h' : Cg p m n A' B') : Cg p m n (fun i j => A i j + A' i j) (fun i j => B i j + B' i j) := fun i j hi hj => by
  have e : A i j + A' i j - (B i j + B' i j) = (A i j - B i j) + (A' i j - B' i j) := by omega
  show p ∣ (A i j + A' i j - (B i j + B' i j))
  rw [e]; exact Int.dvd_add (h i j hi hj) (h' i j hi hj)
theorem Cg.sub {p : Int} {m n : Nat} {A B A' B' : Nat → Nat → Int} (h : Cg p m n A B) (h' : Cg p m n A' B') : Cg p m n (fun i j => A i j - A' i j) (fun i j => B i j - B' i j) := fun i j hi hj => by
  have e : A i j - A' i j - (B i j - B' i j) = (A i j - B i j) - (A' i j - B' i j) := by omega
  show p ∣ (A i j - A' i j - (B i j - B' i j))
  rw [e]; exact Int.dvd_sub (h i j hi hj) (h' i j hi hj)
theorem Cg.mm {p : Int} {m k n : Nat} {A A' B B' : Nat → Nat → Int} (h : Cg p m k A A') (h' : Cg p k n B B') : Cg p m n (mm k A B) (mm k A' B') := fun i j hi hj => by
  refine sm_dvd_sub fun t ht => ?_
  have e : A i t * B t j - A' i t * B' t j = (A i t - A' i t) * B t j + A' i t * (B t j - B' t j) := by
    rw [Int.sub_mul, Int.mul_sub]; omega
  rw [e]
  exact Int.dvd_add (Int.dvd_mul_of_dvd_left (h i t hi ht)) (Int.dvd_mul_of_dvd_right (h' t j ht hj))
theorem mm_assoc (a b : Nat) (A B C : Nat → Nat → Int) : mm b (mm a A B) C = mm a A (mm b B C) := by
  funext i j
  unfold mm
  have e1 : sm (fun k => sm (fun t => A i t * B t k) a * C k j) b = sm (fun k => sm (fun t => A i t * B t k * C k j) a) b := sm_congr fun k _ => by
    rw [Int.mul_comm, ← sm_mul]; exact sm_congr fun t _ => Int.mul_comm _ _
  have e2 : sm (fun t => A i t * sm (fun k => B t k * C k j) b) a = sm (fun t => sm (fun k => A i t * B t k * C k j) b) a := sm_congr fun t _ => by
    rw [← sm_mul]; exact sm_congr fun k _ => (Int.mul_assoc _ _ _).symm
  rw [e1, e2, sm_swap]
theorem mm_add (n : Nat) (A B C : Nat → Nat → Int) (i j : Nat) : mm n A (fun i j => B i j + C i j) i j = mm n A B i j + mm n A C i j := by
  unfold mm
  rw [← sm_add]; exact sm_congr fun k _ => Int.mul_add _ _ _
theorem sm_neg (f : Nat → Int) (k : Nat) : sm (fun i => - f i) k = - sm f k := by
  have := sm_mul (-1) f k
  rw [sm_congr (g := fun i => -1 * f i) fun i _ => by show - f i = -1 * f i; omega, this]; omega
theorem sm_sub (f g : Nat → Int) (k : Nat) : sm (fun i => f i - g i) k = sm f k - sm g k := by
  rw [sm_congr (g := fun i => f i + (fun i => - g i) i) fun i _ => by show f i - g i = f i + - g i; omega, sm_add, sm_neg]; omega
theorem mm_sub (n : Nat) (A B C : Nat → Nat → Int) (i j : Nat) : mm n A (fun i j => B i j - C i j) i j = mm n A B i j - mm n A C i j := by
  unfold mm
  rw [← sm_sub]; exact sm_congr fun k _ => Int.mul_sub _ _ _
theorem mm_zero (n : Nat) (A : Nat → Nat → Int) (i j : Nat) : mm n A (fun _ _ => 0) i j = 0 := by
  exact Eq.trans (sm_congr (g := fun _ => 0) fun _ _ => Int.mul_zero _) (sm_zero n)
theorem zero_mm (n : Nat) (B : Nat → Nat → Int) (i j : Nat) : mm n (fun _ _ => 0) B i j = 0 :=
  Eq.trans (sm_congr (g := fun _ => 0) fun _ _ => Int.zero_mul _) (sm_zero n)
theorem mm_dl {n : Nat} (A : Nat → Nat → Int) {i j : Nat} (hj : j < n) : mm n A dl i j = A i j := sm_dl (fun k => A i k) hj
theorem dl_mm {n : Nat} (A : Nat → Nat → Int) {i j : Nat} (hi : i < n) : mm n dl A i j = A i j := sm_dl' (fun k => A k j) hi

/-! ### An identity inside a matrix -/

/-- An identity of size r inside A (m rows, n columns). -/
def HasId (p : Int) (m n r : Nat) (A : Nat → Nat → Int) : Prop := ∃ L X : Nat → Nat → Int, Cg p r r dl (mm m L (mm n A X))
theorem FR.cg {p : Int} {m n r : Nat} {A A' : Nat → Nat → Int} (h : FR p m n r A) (e : Cg p m n A A') : FR p m n r A' := h.congr e.symm
theorem HasId.cg {p : Int} {m n r : Nat} {A A' : Nat → Nat → Int} (h : HasId p m n r A) (e : Cg p m n A A') : HasId p m n r A' := by
  obtain ⟨L, X, h⟩ := h
  exact ⟨L, X, h.trans (Cg.rfl'.mm (e.mm Cg.rfl'))⟩
theorem HasId.le {p : Int} (hp : Inv p) {m n r s : Nat} {A : Nat → Nat → Int} (h : HasId p m n r A) (h' : FR p m n s A) : r ≤ s := by
  obtain ⟨L, X, h⟩ := h
  obtain ⟨B, C, hF⟩ := (h'.right (l := r) X).left (l := r) L
  exact no_id hp (B := B) (C := C) (h.trans hF)
theorem mk_list (m n : Nat) (A : Nat → Nat → Int) : ∃ M : List (List Int), M.length = m ∧ ∀ i, i < m → (gr M i).length = n ∧ ∀ j, j < n → en M i j = A i j := by
  refine ⟨(List.range m).map fun i => (List.range n).map fun j => A i j, by simp, fun i hi => ?_⟩
  have e : gr ((List.range m).map fun i => (List.range n).map fun j => A i j) i = (List.range n).map fun j => A i j := by
    rw [gr_eq (by simpa using hi)]; simp
  refine ⟨by rw [e]; simp, fun j hj => ?_⟩
  unfold en
  rw [e]; simp [gi, List.getD, hj]
/-- Every matrix has a rank, and an identity of that size. -/
theorem has_rk {p : Int} (hp : PrimeP p) (m n : Nat) (A : Nat → Nat → Int) : ∃ r, FR p m n r A ∧ HasId p m n r A := by
  obtain ⟨M0, hl0, h0⟩ := mk_list m n A
  have hg : Good p n (modM p M0) := modM_good hp fun k hk => (h0 k (by omega)).1
  have hml : (modM p M0).length = m := by rw [modM_len, hl0]
  have hen : Cg p m n A (en (modM p M0)) := fun i j hi hj => by
    have : en (modM p M0) i j = A i j % p := by
      have := (h0 i hi).2 j hj
      unfold en at this ⊢
      rw [modM_gr (by omega), modRow_gi (by rw [(h0 i hi).1]; exact hj), this]
    rw [this]
    obtain ⟨u, hu⟩ := emod_sub (A i j) p
    exact ⟨-u, by rw [Int.mul_neg]; omega⟩
  have hrk := pivs_rk hp hg
  rw [hml] at hrk
  refine ⟨_, hrk.1.cg hen.symm, ?_⟩
  obtain ⟨he, ⟨D, hl⟩, _⟩ := red_ech hp hg n (Nat.le_refl _)
  have hlen := (red_len p (modM p M0) n).1
  have hpl := red_piv p (modM p M0) n
  unfold pivs
  generalize (red p (modM p M0) n).1 = N at *
  generalize (red p (modM p M0) n).2 = ps at *
  rw [hml] at hl hlen hpl
  refine HasId.cg ⟨D, fun u t => if u = (gi ps t).toNat then 1 else 0, fun i t hi ht => ?_⟩ hen.symm
  obtain ⟨q, hq, hqw, hu⟩ := he.piv t ht
  have h1 := hl i q (by omega) hqw
  rw [hu i (by omega)] at h1
  have e : ∀ a, mm n (en (modM p M0)) (fun u t => if u = (gi ps t).toNat then 1 else 0) a t = en (modM p M0) a q := fun a => by
    have := sm_dl (fun k => en (modM p M0) a k) hqw
    rw [← this]
    exact sm_congr fun k _ => by
      show en (modM p M0) a k * (if k = (gi ps t).toNat then 1 else 0) = _
      rw [hq]; simp [dl]
  show p ∣ (dl i t - sm (fun a => D i a * mm n (en (modM p M0)) (fun u t => if u = (gi ps t).toNat then 1 else 0) a t) m)
  rw [sm_congr fun a _ => by rw [e a]]
  exact h1
theorem RK.id {p : Int} (hp : PrimeP p) {m n r : Nat} {A : Nat → Nat → Int} (h : RK p m n r A) : HasId p m n r A := by
  obtain ⟨s, h1, h2⟩ := has_rk hp m n A
  have : s = r := Nat.le_antisymm (h2.le hp.inv h.1) (h.2 _ h1)
  rw [← this]; exact h2
theorem RK.mk' {p : Int} (hp : PrimeP p) {m n r : Nat} {A : Nat → Nat → Int} (h : FR p m n r A) (h' : HasId p m n r A) : RK p m n r A := ⟨h, fun _ hs => h'.le hp.inv hs⟩
theorem rk_has {p : Int} (hp : PrimeP p) (m n : Nat) (A : Nat → Nat → Int) : ∃ r, RK p m n r A := by
  obtain ⟨s, h1, h2⟩ := has_rk hp m n A
  exact ⟨s, RK.mk' hp h1 h2⟩
theorem RK.cg {p : Int} {m n r : Nat} {A A' : Nat → Nat → Int} (h : RK p m n r A) (e : Cg p m n A A') : RK p m n r A' := ⟨h.1.cg e, fun s hs => h.2 s (hs.cg e.symm)⟩

/-! ### Sums and blocks -/

theorem sm_split (f : Nat → Int) (a : Nat) : ∀ b, sm f (a + b) = sm f a + sm (fun k => f (a + k)) b
  | 0 => by show sm f a = sm f a + 0; omega
  | b + 1 => by rw [← Nat.add_assoc, sm, sm_split f a b, sm]; omega
theorem FR.add {p : Int} {m n r s : Nat} {A B : Nat → Nat → Int} (h : FR p m n r A) (h' : FR p m n s B) : FR p m n (r + s) fun i j => A i j + B i j := by
  obtain ⟨B1, C1, h1⟩ := h
  obtain ⟨B2, C2, h2⟩ := h'
  refine ⟨fun i k => if k < r then B1 i k else B2 i (k - r), fun k j => if k < r then C1 k j else C2 (k - r) j, fun i j hi hj => ?_⟩
  rw [sm_split]
  have e1 : sm (fun k => (if k < r then B1 i k else B2 i (k - r)) * (if k < r then C1 k j else C2 (k - r) j)) r = sm (fun k => B1 i k * C1 k j) r := sm_congr fun k hk => by simp [hk]
  have e2 : sm (fun k => (if r + k < r then B1 i (r + k) else B2 i (r + k - r)) * (if r + k < r then C1 (r + k) j else C2 (r + k - r) j)) s = sm (fun k => B2 i k * C2 k j) s := sm_congr fun k _ => by
    rw [if_neg (by omega), if_neg (by omega), Nat.add_sub_cancel_left]
  rw [e1, e2]
  have h3 := Int.dvd_add (h1 i j hi hj) (h2 i j hi hj)
  have e : A i j - sm (fun k => B1 i k * C1 k j) r + (B i j - sm (fun k => B2 i k * C2 k j) s) = A i j + B i j - (sm (fun k => B1 i k * C1 k j) r + sm (fun k => B2 i k * C2 k j) s) := by omega
  rwa [e] at h3
theorem FR.mmR {p : Int} {m k n r : Nat} {A : Nat → Nat → Int} (h : FR p m k r A) (B : Nat → Nat → Int) : FR p m n r (mm k A B) := h.right B
theorem FR.mmL {p : Int} {m k n r : Nat} {B : Nat → Nat → Int} (h : FR p k n r B) (A : Nat → Nat → Int) : FR p m n r (mm k A B) := h.left A
theorem FR.mid {p : Int} {m n r : Nat} (B C : Nat → Nat → Int) : FR p m n r (mm r B C) := ⟨B, C, fun _ _ _ _ => dvd_zero_sub rfl⟩
theorem FR.le' {p : Int} {m n r s : Nat} {A : Nat → Nat → Int} (h : FR p m n r A) (hs : r ≤ s) : FR p m n s A := by
  have h2 := h.add (s := s - r) (B := fun _ _ => 0) ⟨fun _ _ => 0, fun _ _ => 0, fun i j _ _ => by
    rw [sm_congr (g := fun _ => 0) fun _ _ => Int.mul_zero _, sm_zero]; exact ⟨0, by simp⟩⟩
  rw [show r + (s - r) = s by omega] at h2
  exact h2.cg (Cg.of_eq fun i j _ _ => Int.add_zero _)
/-- Two identities, one block between them empty. -/
theorem two_ids {p : Int} {m n r1 r2 : Nat} {A L1 L2 X1 X2 : Nat → Nat → Int} (h1 : Cg p r1 r1 dl (mm m L1 (mm n A X1))) (h2 : Cg p r2 r2 dl (mm m L2 (mm n A X2)))
    (h0 : Cg p r2 r1 (fun _ _ => 0) (mm m L2 (mm n A X1))) : HasId p m n (r1 + r2) A := by
  obtain ⟨K, hK⟩ : ∃ K, K = mm m L1 (mm n A X2) := ⟨_, rfl⟩
  obtain ⟨X3, hX3⟩ : ∃ X3 : Nat → Nat → Int, X3 = fun i j => X2 i j - mm r1 X1 K i j := ⟨_, rfl⟩
  have eX : ∀ L i j, mm m L (mm n A X3) i j = mm m L (mm n A X2) i j - mm r1 (mm m L (mm n A X1)) K i j := fun L i j => by
    have e1 : mm n A X3 = fun i j => mm n A X2 i j - mm n A (mm r1 X1 K) i j := by
      funext a b; rw [hX3, mm_sub]
    rw [e1, mm_sub, mm_assoc m r1, mm_assoc n r1]
  have h3 : Cg p r1 r2 (fun _ _ => 0) (mm m L1 (mm n A X3)) := by
    have := (Cg.rfl' (p := p) (m := r1) (n := r2) (A := K)).sub (h1.mm (Cg.rfl' (n := r2) (A := K)))
    refine Cg.trans (Cg.of_eq fun i j hi hj => ?_) (this.trans (Cg.of_eq fun i j hi hj => ?_))
    · rw [dl_mm K hi]; omega
    · rw [eX, ← hK]
  have h4 : Cg p r2 r2 dl (mm m L2 (mm n A X3)) := by
    have := h2.sub (h0.mm (Cg.rfl' (n := r2) (A := K)))
    refine Cg.trans (Cg.of_eq fun i j hi hj => ?_) (this.trans (Cg.of_eq fun i j hi hj => ?_))
    · have e : mm r1 (fun _ _ => 0) K i j = 0 := zero_mm r1 K i j
      rw [e]; omega
    · rw [eX]
  refine ⟨fun i t => if i < r1 then L1 i t else L2 (i - r1) t, fun t j => if j < r1 then X1 t j else X3 t (j - r1), fun i j hi hj => ?_⟩
  have eR : ∀ L i j, mm m L (mm n A fun t j => if j < r1 then X1 t j else X3 t (j - r1)) i j = if j < r1 then mm m L (mm n A X1) i j else mm m L (mm n A X3) i (j - r1) := fun L i j => by
    unfold mm
    by_cases hj : j < r1
    · simp only [if_pos hj]
    · simp only [if_neg hj]
  have eL : ∀ Y i j, mm m (fun i t => if i < r1 then L1 i t else L2 (i - r1) t) Y i j = if i < r1 then mm m L1 Y i j else mm m L2 Y (i - r1) j := fun Y i j => by
    unfold mm
    by_cases hi : i < r1
    · simp only [if_pos hi]
    · simp only [if_neg hi]
  rw [eR]
  by_cases hj1 : j < r1
  · rw [if_pos hj1, eL]
    by_cases hi1 : i < r1
    · rw [if_pos hi1]; exact h1 i j hi1 hj1
    · rw [if_neg hi1]
      have e : dl i j = 0 := by unfold dl; exact if_neg (by omega)
      rw [e]; exact h0 (i - r1) j (by omega) hj1
  · rw [if_neg hj1, eL]
    by_cases hi1 : i < r1
    · rw [if_pos hi1]
      have e : dl i j = 0 := by unfold dl; exact if_neg (by omega)
      rw [e]; exact h3 i (j - r1) hi1 (by omega)
    · rw [if_neg hi1]
      have e : dl i j = dl (i - r1) (j - r1) := by
        unfold dl
        by_cases h : i = j
        · rw [if_pos h, if_pos (by omega)]
        · rw [if_neg h, if_neg (by omega)]
      rw [e]; exact h4 (i - r1) (j - r1) (by omega) (by omega)

/-! ### Places that count -/

/-- How many of the first n places count. -/
def cntQ (S : Nat → Bool) : Nat → Nat
  | 0 => 0
  | n + 1 => cntQ S n + (S n).toNat
/-- The identity on the places that count. -/
def idS (S : Nat → Bool) (s t : Nat) : Int := if S s = true ∧ s = t then 1 else 0
/-- The k-th place that counts. -/
def nth (S : Nat → Bool) : Nat → Nat → Nat
  | 0, _ => 0
  | n + 1, k => if S n = true ∧ k = cntQ S n then n else nth S n k
theorem nth_spec (S : Nat → Bool) : ∀ n k, k < cntQ S n → nth S n k < n ∧ S (nth S n k) = true ∧ cntQ S (nth S n k) = k
  | 0, k, h => by simp [cntQ] at h
  | n + 1, k, h => by
    rw [cntQ] at h
    rw [nth]
    by_cases e : S n = true ∧ k = cntQ S n
    · rw [if_pos e]; exact ⟨by omega, e.1, e.2.symm⟩
    · rw [if_neg e]
      have : k < cntQ S n := by
        by_cases hs : S n = true
        · rw [hs] at h; simp at h
          have : k ≠ cntQ S n := fun h' => e ⟨hs, h'⟩
          omega
        · simp at hs; rw [hs] at h; simpa using h
      have := nth_spec S n k this
      exact ⟨by omega, this.2.1, this.2.2⟩
theorem nth_cnt (S : Nat → Bool) {s : Nat} (h : S s = true) : ∀ n, s < n → cntQ S s < cntQ S n ∧ nth S n (cntQ S s) = s
  | 0, hs => by omega
  | n + 1, hs => by
    rw [cntQ, nth]
    by_cases e : s = n
    · subst e; rw [h]; simp
    · have h1 := nth_cnt S h n (by omega)
      refine ⟨by omega, ?_⟩
      rw [if_neg (by rintro ⟨_, h2⟩; omega)]; exact h1.2
theorem sm_pick (f : Nat → Int) {n s : Nat} (hs : s < n) : sm (fun u => if u = s then f u else 0) n = f s := by
  have := sm_dl f hs
  rw [← this]
  exact sm_congr fun u _ => by unfold dl; by_cases e : u = s <;> simp [e]
theorem idS_fr (p : Int) (S : Nat → Bool) (n : Nat) : FR p n n (cntQ S n) (idS S) := by
  refine ⟨fun s k => if S s = true ∧ cntQ S s = k then 1 else 0, fun k t => if nth S n k = t then 1 else 0, fun s t hs ht => dvd_zero_sub ?_⟩
  by_cases h : S s = true
  · obtain ⟨h1, h2⟩ := nth_cnt S h n hs
    rw [sm_congr (g := fun k => if k = cntQ S s then (fun k => if nth S n k = t then 1 else 0) k else 0) fun k _ => by
      by_cases e : k = cntQ S s
      · simp [h, e]
      · simp [e, show ¬ cntQ S s = k from fun h' => e h'.symm]]
    rw [sm_pick _ h1]
    simp [idS, h, h2]
  · rw [sm_congr (g := fun _ => 0) fun k _ => by simp [h], sm_zero]
    simp [idS, h]
theorem mm_idS {n : Nat} {S : Nat → Bool} {A : Nat → Nat → Int} {i j : Nat} (hj : j < n) : mm n A (idS S) i j = if S j = true then A i j else 0 := by
  unfold mm
  rw [sm_congr (g := fun k => if k = j then (fun k => if S k = true then A i k else 0) k else 0) fun k _ => by
    unfold idS
    by_cases e : k = j
    · subst e; by_cases h : S k = true <;> simp [h]
    · simp [e]]
  rw [sm_pick _ hj]
theorem idS_mm {n : Nat} {S : Nat → Bool} {A : Nat → Nat → Int} {i j : Nat} (hi : i < n) : mm n (idS S) A i j = if S i = true then A i j else 0 := by
  unfold mm
  rw [sm_congr (g := fun k => if k = i then (fun k => if S k = true then A k j else 0) k else 0) fun k _ => by
    unfold idS
    by_cases e : k = i
    · subst e; by_cases h : S k = true <;> simp [h]
    · simp [e, show ¬ i = k from fun h' => e h'.symm]]
  rw [sm_pick _ hi]
theorem idS_id {p : Int} (S : Nat → Bool) (n : Nat) : HasId p n n (cntQ S n) (idS S) := by
  refine ⟨fun k s => if nth S n k = s then 1 else 0, fun s k => if S s = true ∧ cntQ S s = k then 1 else 0, fun i j hi hj => dvd_zero_sub ?_⟩
  obtain ⟨h1, h2, h3⟩ := nth_spec S n i hi
  unfold mm
  rw [sm_congr (g := fun s => if s = nth S n i then (fun s => mm n (idS S) (fun s k => if S s = true ∧ cntQ S s = k then 1 else 0) s j) s else 0) fun s _ => by
    by_cases e : s = nth S n i
    · simp [e, mm]
    · simp [e, show ¬ nth S n i = s from fun h' => e h'.symm]]
  rw [sm_pick _ h1, idS_mm h1, if_pos h2, h3]
  simp [h2, dl]
theorem idS_rk {p : Int} (hp : PrimeP p) (S : Nat → Bool) (n : Nat) : RK p n n (cntQ S n) (idS S) := RK.mk' hp (idS_fr p S n) (idS_id S n)
/-- Factors through the places that count. -/
theorem FR.supp {p : Int} {m k n : Nat} {S : Nat → Bool} (A B : Nat → Nat → Int) (h : ∀ i t, i < m → t < k → S t = false → A i t = 0) : FR p m n (cntQ S k) (mm k A B) := by
  refine ((idS_fr p S k).mmL A (m := m)).mmR (n := n) B |>.cg (Cg.of_eq fun i j hi hj => ?_)
  unfold mm
  refine sm_congr fun t ht => ?_
  have : sm (fun k => A i k * idS S k t) k = if S t = true then A i t else 0 := mm_idS ht
  rw [this]
  by_cases hs : S t = true
  · rw [if_pos hs]
  · rw [if_neg hs, h i t hi ht (by simpa using hs)]
theorem FR.supp' {p : Int} {m k n : Nat} {S : Nat → Bool} (A B : Nat → Nat → Int) (h : ∀ t j, t < k → j < n → S t = false → B t j = 0) : FR p m n (cntQ S k) (mm k A B) := by
  refine ((idS_fr p S k).mmL A (m := m)).mmR (n := n) B |>.cg (Cg.of_eq fun i j hi hj => ?_)
  unfold mm
  refine sm_congr fun t ht => ?_
  have : sm (fun k => A i k * idS S k t) k = if S t = true then A i t else 0 := mm_idS ht
  rw [this]
  by_cases hs : S t = true
  · rw [if_pos hs]
  · rw [if_neg hs, h t j ht hj (by simpa using hs), Int.mul_zero, Int.mul_zero]
/-- Rank and nullity: a product that is empty. -/
theorem rank_null {p : Int} (hp : PrimeP p) {m n l r s : Nat} {S : Nat → Bool} {A B : Nat → Nat → Int} (hA : RK p m n r A) (hB : RK p n l s B)
    (hs : ∀ i t, i < m → t < n → S t = false → A i t = 0) (ht : ∀ t j, t < n → j < l → S t = false → B t j = 0)
    (h0 : Cg p m l (fun _ _ => 0) (mm n A B)) : r + s ≤ cntQ S n := by
  obtain ⟨L, X, hU⟩ := hA.id hp
  obtain ⟨L', X', hV⟩ := hB.id hp
  have eA : ∀ i j, i < m → j < n → mm n A (idS S) i j = A i j := fun i j hi hj => by
    rw [mm_idS hj]
    by_cases h : S j = true
    · rw [if_pos h]
    · rw [if_neg h, hs i j hi hj (by simpa using h)]
  have eB : ∀ i j, i < n → j < l → mm n (idS S) B i j = B i j := fun i j hi hj => by
    rw [idS_mm hi]
    by_cases h : S i = true
    · rw [if_pos h]
    · rw [if_neg h, ht i j hi hj (by simpa using h)]
  have cA : Cg p m n (mm n A (idS S)) A := Cg.of_eq eA
  have cB : Cg p n l (mm n (idS S) B) B := Cg.of_eq eB
  have h2 : Cg p r r dl (mm n (mm m L A) (mm n (idS S) X)) := by
    refine hU.trans ?_
    rw [mm_assoc, ← mm_assoc n n A]
    exact Cg.rfl'.mm (cA.symm.mm Cg.rfl')
  have h1 : Cg p s s dl (mm n L' (mm n (idS S) (mm l B X'))) := by
    refine hV.trans ?_
    rw [← mm_assoc n l (idS S)]
    exact Cg.rfl'.mm (cB.symm.mm Cg.rfl')
  have h3 : Cg p r s (fun _ _ => 0) (mm n (mm m L A) (mm n (idS S) (mm l B X'))) := by
    have z : Cg p m l (fun _ _ => 0) (mm n A (mm n (idS S) B)) := h0.trans (Cg.rfl'.mm cB.symm)
    rw [← mm_assoc n l (idS S), mm_assoc, ← mm_assoc n l A]
    refine Cg.trans ?_ ((Cg.rfl' (A := L)).mm (z.mm (Cg.rfl' (A := X'))))
    refine Cg.of_eq fun i j _ _ => ?_
    have e : mm l (fun _ _ => 0) X' = fun _ _ => 0 := by funext a b; exact zero_mm l X' a b
    rw [e, mm_zero]
  have := (two_ids h1 h2 h3).le hp.inv (idS_fr p S n)
  omega

end Go.Proofs.Ytjaofbdfhcgmeaa
