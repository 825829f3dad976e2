/-
  Elimination reckons the rank: plain law.
-/
import Derived.Test.YtjaofbdfhcgmeaaRed
import Derived.Test.YtjaofbdfhcgmeaaRank
namespace Go.Proofs.Ytjaofbdfhcgmeaa
open Go.RowKit

theorem PrimeP.inv {p : Int} (h : PrimeP p) : Inv p := by
  refine ⟨h.rng.1, fun a ha => ?_⟩
  rcases h with rfl | rfl | rfl
  · exact ⟨1, by omega⟩
  · have : a % 3 = 1 ∨ a % 3 = 2 := by omega
    rcases this with h | h
    · exact ⟨1, by omega⟩
    · exact ⟨2, by omega⟩
  · have : a % 5 = 1 ∨ a % 5 = 2 ∨ a % 5 = 3 ∨ a % 5 = 4 := by omega
    rcases this with h | h | h | h
    · exact ⟨1, by omega⟩
    · exact ⟨3, by omega⟩
    · exact ⟨2, by omega⟩
    · exact ⟨4, by omega⟩
theorem invB_mul {p x : Int} (hp : PrimeP p) (h0 : 0 < x) (h1 : x < p) : x * invB x p % p = 1 := by
  rcases hp with rfl | rfl | rfl
  · have : x = 1 := by omega
    subst this; decide
  · have : x = 1 ∨ x = 2 := by omega
    rcases this with rfl | rfl <;> decide
  · have : x = 1 ∨ x = 2 ∨ x = 3 ∨ x = 4 := by omega
    rcases this with rfl | rfl | rfl | rfl <;> decide

/-- The entry. -/
def en (M : List (List Int)) (i j : Nat) : Int := gi (gr M i) j

/-- Every row of A' is made of rows of A. -/
def LE (p : Int) (m n : Nat) (A A' : Nat → Nat → Int) : Prop := ∃ D : Nat → Nat → Int, ∀ i j, i < m → j < n → p ∣ (A' i j - sm (fun t => D i t * A t j) m)
theorem FR.le {p : Int} {m n r : Nat} {A A' : Nat → Nat → Int} (h : FR p m n r A) (hl : LE p m n A A') : FR p m n r A' := by
  obtain ⟨D, hD⟩ := hl
  exact (h.left D).congr hD
theorem sm_dl' (y : Nat → Int) {j r : Nat} (hj : j < r) : sm (fun i => dl j i * y i) r = y j := by
  have := sm_dl y hj
  rw [← this]
  exact sm_congr fun _ _ => by rw [Int.mul_comm]; simp only [dl, eq_comm]
theorem dvd_zero_sub {p a b : Int} (h : a = b) : p ∣ (a - b) := ⟨0, by rw [h]; omega⟩
theorem LE.refl (p : Int) (m n : Nat) (A : Nat → Nat → Int) : LE p m n A A := ⟨dl, fun _ j hi _ => dvd_zero_sub (sm_dl' (fun t => A t j) hi).symm⟩
theorem LE.trans {p : Int} {m n : Nat} {A A' A'' : Nat → Nat → Int} (h : LE p m n A A') (h' : LE p m n A' A'') : LE p m n A A'' := by
  obtain ⟨D, hD⟩ := h
  obtain ⟨E, hE⟩ := h'
  refine ⟨fun i t => sm (fun s => E i s * D s t) m, fun i j hi hj => ?_⟩
  have e : sm (fun t => sm (fun s => E i s * D s t) m * A t j) m = sm (fun s => E i s * sm (fun t => D s t * A t j) m) m := by
    have e1 : sm (fun t => sm (fun s => E i s * D s t) m * A t j) m = sm (fun t => sm (fun s => E i s * D s t * A t j) m) m := sm_congr fun t _ => by
      rw [Int.mul_comm, ← sm_mul]; exact sm_congr fun s _ => Int.mul_comm _ _
    have e2 : sm (fun s => E i s * sm (fun t => D s t * A t j) m) m = sm (fun s => sm (fun t => E i s * D s t * A t j) m) m := sm_congr fun s _ => by
      rw [← sm_mul]; exact sm_congr fun t _ => (Int.mul_assoc _ _ _).symm
    rw [e1, e2, sm_swap]
  rw [e]
  have h1 := hE i j hi hj
  have h2 : p ∣ (sm (fun s => E i s * A' s j) m - sm (fun s => E i s * sm (fun t => D s t * A t j) m) m) := sm_dvd_sub fun s hs => by
    rw [← Int.mul_sub]; exact Int.dvd_mul_of_dvd_right (hD s j hs hj)
  have h3 := Int.dvd_add h1 h2
  have e3 : ∀ a b c : Int, a - b + (b - c) = a - c := fun a b c => by omega
  rwa [e3] at h3
theorem LE.of_eq {p : Int} {m n : Nat} {A A' : Nat → Nat → Int} (h : ∀ i j, i < m → j < n → p ∣ (A' i j - A i j)) : LE p m n A A' := ⟨dl, fun i j hi hj => by rw [sm_dl' (fun t => A t j) hi]; exact h i j hi hj⟩
/-- A row is one row times a number, and another times a number. -/
theorem LE.of_two {p : Int} {m n : Nat} {A A' : Nat → Nat → Int} (s : Nat → Nat) (f : Nat → Int) (t : Nat → Nat) (g : Nat → Int) (hs : ∀ i, i < m → s i < m ∧ t i < m)
    (h : ∀ i j, i < m → j < n → p ∣ (A' i j - (f i * A (s i) j + g i * A (t i) j))) : LE p m n A A' := by
  refine ⟨fun i k => f i * dl (s i) k + g i * dl (t i) k, fun i j hi hj => ?_⟩
  have e : sm (fun k => (f i * dl (s i) k + g i * dl (t i) k) * A k j) m = f i * A (s i) j + g i * A (t i) j := by
    have e1 : sm (fun k => (f i * dl (s i) k + g i * dl (t i) k) * A k j) m = sm (fun k => f i * (dl (s i) k * A k j) + g i * (dl (t i) k * A k j)) m := sm_congr fun k _ => by
      rw [Int.add_mul, Int.mul_assoc, Int.mul_assoc]
    rw [e1, sm_add, sm_mul, sm_mul, sm_dl' (fun k => A k j) (hs i hi).1, sm_dl' (fun k => A k j) (hs i hi).2]
  rw [e]; exact h i j hi hj

theorem swap_le {p : Int} {n : Nat} {M : List (List Int)} {a b : Nat} (ha : a < M.length) (hb : b < M.length) : LE p M.length n (en M) (en (swapR M a b)) ∧ LE p M.length n (en (swapR M a b)) (en M) := by
  have H : ∀ k, gr (swapR M a b) k = gr M (if k = b then a else if k = a then b else k) := fun k => by
    rw [swapR_gr ha hb]; split
    · rfl
    · split <;> rfl
  constructor
  · refine LE.of_two (fun k => if k = b then a else if k = a then b else k) (fun _ => 1) (fun k => k) (fun _ => 0) (fun i hi => ⟨?_, hi⟩) fun i j hi _ => ?_
    · split
      · exact ha
      · split <;> assumption
    · unfold en; rw [H]; exact dvd_zero_sub (by omega)
  · refine LE.of_two (fun k => if k = b then a else if k = a then b else k) (fun _ => 1) (fun k => k) (fun _ => 0) (fun i hi => ⟨?_, hi⟩) fun i j hi _ => ?_
    · split
      · exact ha
      · split <;> assumption
    · unfold en; rw [H]
      have : (if (if i = b then a else if i = a then b else i) = b then a else if (if i = b then a else if i = a then b else i) = a then b else (if i = b then a else if i = a then b else i)) = i := by
        by_cases h1 : i = b
        · subst h1
          simp only [if_true]
          by_cases h2 : a = i
          · simp [h2]
          · simp [h2]
        · by_cases h2 : i = a
          · subst h2; simp [h1]
          · simp [h1, h2]
      rw [this]; exact dvd_zero_sub (by omega)
theorem emod_sub (a p : Int) : p ∣ (a % p - a) := by
  have h := Int.mul_ediv_add_emod a p
  exact ⟨-(a / p), by rw [Int.mul_neg]; omega⟩
theorem piv_le {p : Int} {W : Nat} {M : List (List Int)} (hp : PrimeP p) (hg : Good p W M) {d col : Nat} (hd : d < M.length) (hn : gi (gr M d) col ≠ 0) : LE p M.length W (en M) (en (pivM p M d col)) ∧ LE p M.length W (en (pivM p M d col)) (en M) := by
  obtain ⟨x, hx⟩ : ∃ x, gi (gr M d) col = x := ⟨_, rfl⟩
  have hx1 := (hg d hd).2 col
  rw [hx] at hx1 hn
  have hm := invB_mul hp (x := x) (by omega) hx1.2
  obtain ⟨f, hf⟩ : ∃ f, invB x p = f := ⟨_, rfl⟩
  rw [hf] at hm
  have hk : ∀ k j, j < W → en (pivM p M d col) k j = if k = d then gi (gr M d) j * f % p else gi (gr M k) j := fun k j hj => by
    unfold en
    rw [pivM, gr_set hd, hx, hf]
    split
    · rw [scaleRow_gi (by rw [(hg d hd).1]; exact hj)]
    · rfl
  constructor
  · refine LE.of_two (fun k => k) (fun k => if k = d then f else 1) (fun k => k) (fun _ => 0) (fun i hi => ⟨hi, hi⟩) fun i j hi hj => ?_
    rw [hk i j hj]
    by_cases e : i = d
    · subst e
      rw [if_pos rfl, if_pos rfl]
      have := emod_sub (gi (gr M i) j * f) p
      unfold en
      rw [Int.zero_mul, Int.add_zero, Int.mul_comm f]; exact this
    · rw [if_neg e, if_neg e]; exact dvd_zero_sub (by unfold en; omega)
  · refine LE.of_two (fun k => k) (fun k => if k = d then x else 1) (fun k => k) (fun _ => 0) (fun i hi => ⟨hi, hi⟩) fun i j hi hj => ?_
    rw [hk i j hj]
    by_cases e : i = d
    · subst e
      rw [if_pos rfl, if_pos rfl]
      unfold en
      obtain ⟨y, hy⟩ : ∃ y, gi (gr M i) j = y := ⟨_, rfl⟩
      rw [hy, Int.zero_mul, Int.add_zero]
      obtain ⟨u, hu⟩ := emod_sub (y * f) p
      have h1 := Int.mul_ediv_add_emod (x * f) p
      rw [hm] at h1
      have e1 : y * f % p = y * f + p * u := by omega
      have e2 : x * f = p * (x * f / p) + 1 := by omega
      refine ⟨-(y * (x * f / p) + x * u), ?_⟩
      rw [e1, Int.mul_add]
      have e3 : x * (y * f) = y * (x * f) := by rw [← Int.mul_assoc, Int.mul_comm x y, Int.mul_assoc]
      rw [e3, e2, Int.mul_add, Int.mul_one, Int.mul_neg, Int.mul_add]
      have e4 : y * (p * (x * f / p)) = p * (y * (x * f / p)) := by rw [← Int.mul_assoc, Int.mul_comm y p, Int.mul_assoc]
      have e5 : x * (p * u) = p * (x * u) := by rw [← Int.mul_assoc, Int.mul_comm x p, Int.mul_assoc]
      have e6 : (p * (x * f / p) + 1) / p = x * f / p := by rw [← e2]
      rw [e6, e4, e5]; omega
    · rw [if_neg e, if_neg e]; exact dvd_zero_sub (by unfold en; omega)
theorem clr_en {p : Int} {W : Nat} {M : List (List Int)} (hg : Good p W M) {d col k j : Nat} (hk : k < M.length) (hj : j < W) : en (clrTo p M d col M.length) k j = if k = d then en M k j else (en M k j - en M k col * en M d j) % p := by
  unfold en
  rw [clrTo_gr hk]
  by_cases e : k = d
  · rw [if_neg (by omega), if_pos e]
  · rw [if_pos ⟨hk, e⟩, if_neg e, clearRow_gi (by rw [(hg k hk).1]; exact hj)]
theorem clr_le {p : Int} {W : Nat} {M : List (List Int)} (hg : Good p W M) {d col : Nat} (hd : d < M.length) : LE p M.length W (en M) (en (clrTo p M d col M.length)) ∧ LE p M.length W (en (clrTo p M d col M.length)) (en M) := by
  constructor
  · refine LE.of_two (fun k => k) (fun _ => 1) (fun _ => d) (fun k => if k = d then 0 else - en M k col) (fun i hi => ⟨hi, hd⟩) fun i j hi hj => ?_
    rw [clr_en hg hi hj]
    by_cases e : i = d
    · rw [if_pos e, if_pos e]; exact dvd_zero_sub (by omega)
    · rw [if_neg e, if_neg e, Int.one_mul, Int.neg_mul, show en M i j + -(en M i col * en M d j) = en M i j - en M i col * en M d j by omega]
      exact emod_sub _ _
  · refine LE.of_two (fun k => k) (fun _ => 1) (fun _ => d) (fun k => if k = d then 0 else en M k col) (fun i hi => ⟨hi, hd⟩) fun i j hi hj => ?_
    rw [clr_en hg hi hj, clr_en hg hd hj]
    by_cases e : i = d
    · rw [if_pos e, if_pos e]; exact dvd_zero_sub (by omega)
    · rw [if_neg e, if_neg e, if_pos rfl, Int.one_mul]
      obtain ⟨u, hu⟩ := emod_sub (en M i j - en M i col * en M d j) p
      exact ⟨-u, by rw [Int.mul_neg]; omega⟩
theorem step_le {p : Int} {W : Nat} {M : List (List Int)} (hp : PrimeP p) (hg : Good p W M) {d col a : Nat} (hd : d < M.length) (ha : a < M.length) (hn : gi (gr M a) col ≠ 0) : LE p M.length W (en M) (en (stepM p M d col a)) ∧ LE p M.length W (en (stepM p M d col a)) (en M) := by
  have h1 := swap_le (p := p) (n := W) (M := M) hd ha
  have g1 := swapR_good hg hd ha
  have ed : gr (swapR M d a) d = gr M a := by
    rw [swapR_gr hd ha]
    by_cases e : d = a
    · rw [if_pos e, e]
    · rw [if_neg e, if_pos rfl]
  have h2 := piv_le hp g1 (d := d) (col := col) (by rw [swapR_len]; exact hd) (by rw [ed]; exact hn)
  have g2 := pivM_good hp g1 (d := d) (col := col) (by rw [swapR_len]; exact hd)
  have h3 := clr_le g2 (d := d) (col := col) (by rw [pivM_len, swapR_len]; exact hd)
  rw [swapR_len] at h2
  rw [pivM_len, swapR_len] at h3
  exact ⟨(h1.1.trans h2.1).trans h3.1, (h3.2.trans h2.2).trans h1.2⟩

/-- The form: a pivot's column is a unit, rows behind the pivots are empty. -/
structure Ech (p : Int) (W c : Nat) (N : List (List Int)) (ps : List Int) : Prop where
  piv : ∀ t, t < ps.length → ∃ q : Nat, gi ps t = q ∧ q < c ∧ ∀ k, k < N.length → en N k q = dl k t
  low : ∀ k j, ps.length ≤ k → k < N.length → j < c → en N k j = 0
theorem step_ech {p : Int} {W c : Nat} {N : List (List Int)} {ps : List Int} (hp : PrimeP p) (hg : Good p W N) (h : Ech p W c N ps) (hc : c < W) {a : Nat} (hd : ps.length < N.length) (hda : ps.length ≤ a) (ha : a < N.length) (hn : gi (gr N a) c ≠ 0) :
    Ech p W (c + 1) (stepM p N ps.length c a) (ps ++ [(c : Int)]) := by
  have hp2 := hp.rng
  obtain ⟨d, hdd⟩ : ∃ d, ps.length = d := ⟨_, rfl⟩
  rw [hdd] at hd hda
  have g1 := swapR_good hg hd ha
  have eS : ∀ k j, en (swapR N d a) k j = if k = a then en N d j else if k = d then en N a j else en N k j := fun k j => by
    unfold en; rw [swapR_gr hd ha]
    split
    · rfl
    · split <;> rfl
  have ed : gr (swapR N d a) d = gr N a := by
    rw [swapR_gr hd ha]
    by_cases e : d = a
    · rw [if_pos e, e]
    · rw [if_neg e, if_pos rfl]
  have g2 := pivM_good hp g1 (d := d) (col := c) (by rw [swapR_len]; exact hd)
  obtain ⟨x, hx⟩ : ∃ x, gi (gr N a) c = x := ⟨_, rfl⟩
  have hx1 := (hg a ha).2 c
  rw [hx] at hx1 hn
  have hm := invB_mul hp (x := x) (by omega) hx1.2
  obtain ⟨P, hP⟩ : ∃ P, pivM p (swapR N d a) d c = P := ⟨_, rfl⟩
  have lP : P.length = N.length := by rw [← hP, pivM_len, swapR_len]
  have eP : ∀ k j, j < W → en P k j = if k = d then en N a j * invB x p % p else if k = a then en N d j else en N k j := fun k j hj => by
    rw [← hP]
    unfold en
    rw [pivM, gr_set (by rw [swapR_len]; exact hd), ed, hx]
    by_cases e : k = d
    · rw [if_pos e, if_pos e, scaleRow_gi (by rw [(hg a ha).1]; exact hj)]
    · rw [if_neg e, if_neg e, swapR_gr hd ha, if_neg e]
      split <;> rfl
  rw [hP] at g2
  have eT : ∀ k j, k < N.length → j < W → en (stepM p N d c a) k j = if k = d then en P k j else (en P k j - en P k c * en P d j) % p := fun k j hk hj => by
    have := clr_en g2 (d := d) (col := c) (k := k) (j := j) (by omega) hj
    rw [← this, stepM, hP, lP]
  have lT : (stepM p N d c a).length = N.length := by rw [stepM, clrTo_len, pivM_len, swapR_len]
  have pd : en P d c = 1 := by
    rw [eP d c hc, if_pos rfl]
    show gi (gr N a) c * _ % p = 1
    rw [hx]; exact hm
  rw [hdd]
  have hlow : ∀ j, j < c → en P d j = 0 := fun j hj => by
    rw [eP d j (by omega), if_pos rfl, h.low a j (by omega) ha hj, Int.zero_mul, Int.zero_emod]
  refine ⟨fun t ht => ?_, fun k j hk hkl hj => ?_⟩
  · simp only [List.length_append, List.length_cons, List.length_nil] at ht
    by_cases e : t < d
    · obtain ⟨q, hq, hqc, hu⟩ := h.piv t (by omega)
      refine ⟨q, by rw [← hq]; unfold gi; simp only [List.getD]; rw [List.getElem?_append_left (by omega)], by omega, fun k hk => ?_⟩
      rw [lT] at hk
      have h0 : ∀ k', d ≤ k' → k' < N.length → en N k' q = 0 := fun k' h1 h2 => h.low k' q (by omega) h2 hqc
      rw [eT k q hk (by omega), hlow q hqc, Int.mul_zero, Int.sub_zero]
      by_cases ek : k = d
      · rw [if_pos ek, ek, hlow q hqc]; simp [dl, show ¬ d = t by omega]
      · rw [if_neg ek, eP k q (by omega), if_neg ek]
        by_cases ea : k = a
        · rw [if_pos ea, h0 d (Nat.le_refl _) hd, ea]; simp [dl, show ¬ a = t by omega]
        · rw [if_neg ea, hu k hk]
          unfold dl; split
          · exact Int.emod_eq_of_lt (by decide) (by omega)
          · rfl
    · have et : t = d := by omega
      subst et
      refine ⟨c, by unfold gi; simp [List.getD, ← hdd], by omega, fun k hk => ?_⟩
      rw [lT] at hk
      rw [eT k c hk hc, pd]
      by_cases ek : k = t
      · rw [if_pos ek, ek, pd]; simp [dl]
      · rw [if_neg ek, Int.mul_one, Int.sub_self, Int.zero_emod]; simp [dl, ek]
  · rw [lT] at hkl
    simp only [List.length_append, List.length_cons, List.length_nil] at hk
    rw [eT k j hkl (by omega), if_neg (by omega)]
    by_cases ej : j = c
    · subst ej; rw [pd, Int.mul_one, Int.sub_self, Int.zero_emod]
    · rw [hlow j (by omega), Int.mul_zero, Int.sub_zero, eP k j (by omega), if_neg (by omega)]
      split
      · rw [h.low d j (by omega) hd (by omega), Int.zero_emod]
      · rw [h.low k j (by omega) hkl (by omega), Int.zero_emod]
theorem isAt_has (M : List (List Int)) (d col : Nat) (hd : d ≤ M.length) : ∃ a, IsAt M d col a := by
  obtain ⟨n, hn⟩ : ∃ n, M.length - d = n := ⟨_, rfl⟩
  induction n generalizing d with
  | zero => exact ⟨d, Nat.le_refl _, hd, fun t _ _ => by omega, fun h => by omega⟩
  | succ n ih =>
    by_cases h0 : gi (gr M d) col = 0
    · obtain ⟨a, h1, h2, h3, h4⟩ := ih (d + 1) (by omega) (by omega)
      refine ⟨a, by omega, h2, fun t ht hta => ?_, h4⟩
      by_cases e : t = d
      · subst e; exact h0
      · exact h3 t (by omega) hta
    · exact ⟨d, Nat.le_refl _, hd, fun t _ _ => by omega, fun _ => h0⟩
theorem red_ech {p : Int} {W : Nat} {M : List (List Int)} (hp : PrimeP p) (hg : Good p W M) : ∀ c, c ≤ W → Ech p W c (red p M c).1 (red p M c).2 ∧ LE p M.length W (en M) (en (red p M c).1) ∧ LE p M.length W (en (red p M c).1) (en M)
  | 0, _ => ⟨⟨fun t ht => by simp [red] at ht, fun k j _ _ hj => by omega⟩, LE.refl _ _ _ _, LE.refl _ _ _ _⟩
  | c + 1, hc => by
    obtain ⟨he, hl, hr⟩ := red_ech hp hg c (by omega)
    have hlen := (red_len p M c).1
    have hpl := red_piv p M c
    have hgc := red_good hp hg c
    obtain ⟨a, ha⟩ := isAt_has (red p M c).1 (red p M c).2.length c (by omega)
    have hal := ha.2.1
    by_cases e : a = M.length
    · rw [red_none ha e]
      refine ⟨⟨fun t ht => ?_, fun k j hk hkl hj => ?_⟩, hl, hr⟩
      · obtain ⟨q, h1, h2, h3⟩ := he.piv t ht
        exact ⟨q, h1, by omega, h3⟩
      · by_cases ej : j = c
        · subst ej; exact ha.2.2.1 k hk (by omega)
        · exact he.low k j hk hkl (by omega)
    · rw [red_some ha (by omega)]
      have had := ha.1
      have hne := ha.2.2.2 (by omega)
      have hs := step_le hp hgc (d := (red p M c).2.length) (col := c) (a := a) (by omega) (by omega) hne
      rw [hlen] at hs
      exact ⟨step_ech hp hgc he (by omega) (by omega) had (by omega) hne, hl.trans hs.1, hs.2.trans hr⟩

theorem pivs_rk {p : Int} {W : Nat} {M : List (List Int)} (hp : PrimeP p) (hg : Good p W M) : RK p M.length W (pivs p W M).length (en M) := by
  obtain ⟨he, hl, hr⟩ := red_ech hp hg W (Nat.le_refl _)
  have hlen := (red_len p M W).1
  have hpl := red_piv p M W
  unfold pivs
  obtain ⟨N, hN⟩ : ∃ N, (red p M W).1 = N := ⟨_, rfl⟩
  obtain ⟨ps, hps⟩ : ∃ ps, (red p M W).2 = ps := ⟨_, rfl⟩
  rw [hN, hps] at he
  rw [hN] at hl hr hlen
  rw [hps] at hpl ⊢
  refine ⟨FR.le (A := en N) ⟨dl, en N, fun i j hi hj => ?_⟩ hr, fun s hs => ?_⟩
  · by_cases e : i < ps.length
    · exact dvd_zero_sub (sm_dl' (fun t => en N t j) e).symm
    · have : sm (fun k => dl i k * en N k j) ps.length = 0 := by
        rw [← sm_zero ps.length]; exact sm_congr fun k hk => by simp [dl, show ¬ i = k by omega]
      rw [this, he.low i j (by omega) (by omega) hj]; exact ⟨0, by omega⟩
  · obtain ⟨B, C, h⟩ := hs.le hl
    refine no_id hp.inv (B := B) (C := fun k t => C k (gi ps t).toNat) fun i t hi ht => ?_
    obtain ⟨q, hq, hqw, hu⟩ := he.piv t ht
    have := h i q (by omega) hqw
    rw [hu i (by omega)] at this
    rw [hq]; exact this
theorem rankR_rk {p : Int} {M : List (List Int)} (hp : PrimeP p) (hE : ∀ k, k < M.length → (gr M k).length = (gr M 0).length) : ∃ r : Nat, rankR p M = r ∧ RK p M.length (gr M 0).length r (en M) := by
  refine ⟨_, rfl, ?_⟩
  have h := pivs_rk hp (modM_good hp hE)
  rw [modM_len] at h
  have e : ∀ i j, i < M.length → j < (gr M 0).length → en (modM p M) i j = en M i j % p := fun i j hi hj => by
    unfold en; rw [modM_gr hi, modRow_gi (by rw [hE i hi]; exact hj)]
  refine ⟨h.1.congr fun i j hi hj => ?_, fun s hs => h.2 s (hs.congr fun i j hi hj => ?_)⟩
  · rw [e i j hi hj]
    obtain ⟨u, hu⟩ := emod_sub (en M i j) p
    exact ⟨-u, by rw [Int.mul_neg]; omega⟩
  · rw [e i j hi hj]; exact emod_sub _ _

end Go.Proofs.Ytjaofbdfhcgmeaa
