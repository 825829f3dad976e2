/-
  Signs of borders under new names: plain law.
-/
import Derived.Test.YtjaofbdfhcgmeaaGreatFv
import Derived.Test.YtjaofbdfhcgmeaaGreatDm
namespace Go.Proofs.YtjaofbdfhcgmeaaGreat
open Go.RowKit

/-! ### Products over the points of a set -/

def chi (b : Bool) : Int := if b = true then -1 else 1
theorem chi_sq (a : Bool) : chi a * chi a = 1 := by cases a <;> rfl
def prodB (s : Int) (f : Nat → Int) : Nat → Int
  | 0 => 1
  | j + 1 => prodB s f j * (if bitP s j = true then f j else 1)
theorem prodB_mul (s : Int) (f g : Nat → Int) : ∀ j, prodB s (fun a => f a * g a) j = prodB s f j * prodB s g j
  | 0 => rfl
  | j + 1 => by
    rw [prodB, prodB, prodB, prodB_mul s f g j]
    by_cases h : bitP s j = true
    · simp only [if_pos h]
      rw [Int.mul_assoc, Int.mul_assoc]
      congr 1
      rw [← Int.mul_assoc, ← Int.mul_assoc, Int.mul_comm (f j) (prodB s g j)]
    · simp only [if_neg h, Int.mul_one]
theorem prodB_congr (s : Int) {f g : Nat → Int} : ∀ j, (∀ a, a < j → f a = g a) → prodB s f j = prodB s g j
  | 0, _ => rfl
  | j + 1, h => by rw [prodB, prodB, prodB_congr s j fun a ha => h a (by omega), h j (by omega)]
theorem prodB_low {s t : Int} (f : Nat → Int) : ∀ j, (∀ a, a < j → bitP t a = bitP s a) → prodB t f j = prodB s f j
  | 0, _ => rfl
  | j + 1, h => by rw [prodB, prodB, prodB_low f j fun a ha => h a (by omega), h j (by omega)]
theorem prodB_add {s t : Int} (f : Nat → Int) {i : Nat} (hs : bitP s i = false) (ht : bitP t i = true) (h : ∀ a, a ≠ i → a < 6 → bitP t a = bitP s a) : ∀ j, i < j → j ≤ 6 → prodB t f j = prodB s f j * f i
  | 0, hj, _ => by omega
  | j + 1, hj, h6 => by
    rw [prodB, prodB]
    by_cases e : i = j
    · subst e
      rw [prodB_low f i fun a ha => h a (by omega) (by omega), if_pos ht, if_neg (by rw [hs]; simp), Int.mul_one]
    · rw [prodB_add f hs ht h j (by omega) (by omega), h j (by omega) (by omega), Int.mul_assoc, Int.mul_assoc, Int.mul_comm (f i)]
theorem prodB_high {s : Int} (f : Nat → Int) {n : Nat} : ∀ m, (∀ a, n ≤ a → a < n + m → bitP s a = false) → prodB s f (n + m) = prodB s f n
  | 0, _ => rfl
  | m + 1, h => by
    rw [← Nat.add_assoc, prodB, prodB_high f m fun a h1 h2 => h a h1 (by omega), h (n + m) (by omega) (by omega)]
    simp
theorem prodB_sq (s : Int) {f : Nat → Int} (hf : ∀ a, f a * f a = 1) (j : Nat) : prodB s f j * prodB s f j = 1 := by
  rw [← prodB_mul, prodB_congr (g := fun _ => 1) s j fun a _ => hf a]
  induction j with
  | zero => rfl
  | succ j ih => rw [prodB, ih]; split <;> rfl

/-! ### The sign of a border as a product -/

def sgP (r : Int) (c : Nat) : Int := prodB r (fun b => chi (decide (b < c))) 6
theorem sgP_fin : ∀ r : Fin 64, ∀ i : Fin 6, bitP r.val i.val = false → sgnS r.val (orP r.val i.val) = sgP r.val i.val := by decide +kernel
theorem sgP_or_fin : ∀ r : Fin 64, ∀ k c : Fin 6, bitP r.val k.val = false → sgP (orP r.val k.val) c.val = sgP r.val c.val * chi (decide (k.val < c.val)) := by decide +kernel
theorem sgP_zero : ∀ c : Fin 6, sgP 0 c.val = 1 := by decide +kernel
theorem cover_ex_fin : ∀ s t : Fin 64, sub s.val t.val = true → pc t.val = pc s.val + 1 → ∃ i : Fin 6, bitP s.val i.val = false ∧ orP s.val i.val = t.val := by decide +kernel
theorem bit_or_nat {s : Int} (s0 : 0 ≤ s) (s1 : s < 64) {i a : Nat} (hi : i < 6) (ha : a < 6) (e : a ≠ i) : bitP (orP s i) a = bitP s a := by
  rw [bit_or s0 s1 hi ha]; simp [e]
theorem rn_fresh {s : Int} {xs : List Int} (hx : ∀ j, j < xs.length → 0 ≤ gi xs j ∧ gi xs j ≤ 5) (hd : xs.Nodup) {j : Nat} (hj : j < xs.length) : bitP (rnTo s xs j) (gi xs j).toNat = false := by
  have h5 := hx j hj
  rw [← Bool.not_eq_true, rnTo_bit hx j (by omega) (by omega)]
  rintro ⟨i, hi, _, e⟩
  have h5' := hx i (by omega)
  exact nodup_gi hd hi hj (by omega)
theorem sgP_rn {s : Int} {xs : List Int} (hx : ∀ j, j < xs.length → 0 ≤ gi xs j ∧ gi xs j ≤ 5) (hd : xs.Nodup) {c : Nat} (hc : c < 6) : ∀ j, j ≤ xs.length → sgP (rnTo s xs j) c = prodB s (fun a => chi (decide ((gi xs a).toNat < c))) j
  | 0, _ => sgP_zero ⟨c, hc⟩
  | j + 1, hj => by
    have ih := sgP_rn (s := s) hx hd hc j (by omega)
    have h5 := hx j (by omega)
    have ok := rnTo_ok (s := s) hx j (by omega)
    rw [rnTo, prodB]
    by_cases hb : bitP s j = true
    · rw [if_pos hb, if_pos hb, ← ih]
      obtain ⟨r, hr⟩ := fin64 ok.1 ok.2.1
      have hf := rn_fresh (s := s) hx hd (j := j) (by omega)
      rw [← hr] at hf ⊢
      exact sgP_or_fin r ⟨(gi xs j).toNat, by omega⟩ ⟨c, hc⟩ hf
    · rw [if_neg hb, if_neg hb, ih, Int.mul_one]

/-! ### The sign of new names on a set -/

/-- The points before c whose names are greater than c's. -/
def invQ (s : Int) (xs : List Int) (c : Nat) (j : Nat) : Int := prodB s (fun a => chi (decide (gi xs c < gi xs a))) j
def eTo (s : Int) (xs : List Int) : Nat → Int
  | 0 => 1
  | j + 1 => eTo s xs j * (if bitP s j = true then invQ s xs j j else 1)
theorem invQ_sq (s : Int) (xs : List Int) (c j : Nat) : invQ s xs c j * invQ s xs c j = 1 := prodB_sq s (fun _ => chi_sq _) j
theorem eTo_sq (s : Int) (xs : List Int) : ∀ j, eTo s xs j * eTo s xs j = 1
  | 0 => rfl
  | j + 1 => by
    have ih := eTo_sq s xs j
    rw [eTo]
    by_cases h : bitP s j = true
    · rw [if_pos h, Int.mul_assoc, Int.mul_comm (invQ s xs j j), Int.mul_assoc, invQ_sq, Int.mul_one, ih]
    · rw [if_neg h, Int.mul_one, ih]
/-- What changes with point i. -/
def dF (xs : List Int) (i a : Nat) : Int := chi (decide (a < i)) * chi (decide (gi xs a < gi xs i))
theorem dF_below {xs : List Int} (hd : xs.Nodup) {i a : Nat} (hi : i < xs.length) (h : a < i) : dF xs i a = chi (decide (gi xs i < gi xs a)) := by
  have hne := nodup_gi hd h hi
  unfold dF
  rw [decide_eq_true h]
  by_cases e : gi xs a < gi xs i
  · rw [decide_eq_true e, decide_eq_false (by omega)]; rfl
  · rw [decide_eq_false e, decide_eq_true (by omega)]; rfl
theorem dF_above {xs : List Int} {i a : Nat} (h : ¬ a < i) : dF xs i a = chi (decide (gi xs a < gi xs i)) := by
  unfold dF
  rw [decide_eq_false h]
  show 1 * _ = _
  rw [Int.one_mul]
theorem eTo_low {s t : Int} {xs : List Int} {i : Nat} (h : ∀ a, a ≠ i → a < 6 → bitP t a = bitP s a) (h6 : xs.length ≤ 6) (hi : i < xs.length) : ∀ j, j ≤ i → eTo t xs j = eTo s xs j
  | 0, _ => rfl
  | j + 1, hj => by
    rw [eTo, eTo, eTo_low h h6 hi j (by omega), h j (by omega) (by omega), invQ, invQ, prodB_low _ j fun a ha => h a (by omega) (by omega)]
theorem eTo_add {s t : Int} {xs : List Int} (hd : xs.Nodup) (h6 : xs.length ≤ 6) {i : Nat} (hi : i < xs.length) (hs : bitP s i = false) (ht : bitP t i = true) (h : ∀ a, a ≠ i → a < 6 → bitP t a = bitP s a) :
    ∀ j, i < j → j ≤ xs.length → eTo t xs j = eTo s xs j * prodB s (dF xs i) j
  | 0, hj, _ => by omega
  | j + 1, hj, hl => by
    rw [eTo, eTo, prodB]
    by_cases e : i = j
    · subst e
      rw [eTo_low h h6 hi i (Nat.le_refl _), if_pos ht, if_neg (by rw [hs]; simp), if_neg (by rw [hs]; simp), Int.mul_one, Int.mul_one]
      congr 1
      rw [invQ, prodB_low _ i fun a ha => h a (by omega) (by omega)]
      exact prodB_congr s i fun a ha => (dF_below hd hi ha).symm
    · rw [eTo_add hd h6 hi hs ht h j (by omega) (by omega), h j (by omega) (by omega)]
      by_cases hb : bitP s j = true
      · rw [if_pos hb, if_pos hb, if_pos hb, invQ, prodB_add _ hs ht h j (by omega) (by omega), dF_above (xs := xs) (i := i) (a := j) (by omega)]
        show _ = eTo s xs j * invQ s xs j j * _
        rw [invQ]
        generalize eTo s xs j = A
        generalize prodB s (dF xs i) j = B
        generalize prodB s (fun a => chi (decide (gi xs j < gi xs a))) j = C
        generalize chi (decide (gi xs j < gi xs i)) = D
        rw [Int.mul_assoc, Int.mul_assoc, ← Int.mul_assoc B C D, Int.mul_comm B C, Int.mul_assoc]
      · rw [if_neg hb, if_neg hb, if_neg hb, Int.mul_one, Int.mul_one, Int.mul_one]

/-! ### Borders under new names -/

theorem names_len6 {n : Int} {xs : List Int} (h : Names n xs) : xs.length ≤ 6 := by have := h.2.1; have := h.2.2.1; omega
theorem orP_low {n : Int} (n0 : 0 ≤ n) (n6 : n ≤ 6) {s : Int} (s0 : 0 ≤ s) {i : Nat} (hi : i < 6) (ht : orP s i < pw n) (s1 : s < 64) : (i : Int) < n := by
  refine Int.not_le.1 fun hn => ?_
  have h1 := (orP_rng s0 s1 hi).1
  have h2 := bit_high h1 n0 n6 ht hi hn
  rw [bit_or s0 s1 hi hi] at h2
  simp at h2
theorem sgn_rn {n : Int} {xs : List Int} (h : Names n xs) {s t : Int} (s0 : 0 ≤ s) (s1 : s < pw n) (t0 : 0 ≤ t) (t1 : t < pw n) (hsub : sub s t = true) (hpc : pc t = pc s + 1) :
    sgnS (rnB s xs) (rnB t xs) = eTo s xs xs.length * eTo t xs xs.length * sgnS s t := by
  have n0 : 0 ≤ n := by have := h.1; omega
  have n6 := h.2.1
  have hl := h.2.2.1
  have h6 := names_len6 h
  have hd := h.2.2.2.2
  have hx := names_gi h
  have h64 := (pw_rng n0 n6).2
  obtain ⟨i, hs, he⟩ : ∃ i : Nat, (i < 6 ∧ bitP s i = false) ∧ orP s i = t := by
    obtain ⟨a, ha⟩ := fin64 s0 (by omega)
    obtain ⟨b, hb⟩ := fin64 t0 (by omega)
    rw [← ha, ← hb] at hsub hpc
    obtain ⟨i, h1, h2⟩ := cover_ex_fin a b hsub hpc
    rw [ha, hb] at h2
    rw [ha] at h1
    exact ⟨i.val, ⟨i.isLt, h1⟩, h2⟩
  obtain ⟨hi6, hs⟩ := hs
  have hin : i < xs.length := by
    have := orP_low n0 n6 s0 hi6 (by rw [he]; exact t1) (by omega)
    omega
  have ht : bitP t i = true := by rw [← he, bit_or s0 (by omega) hi6 hi6]; simp
  have hst : ∀ a, a ≠ i → a < 6 → bitP t a = bitP s a := fun a e ha => by rw [← he]; exact bit_or_nat s0 (by omega) hi6 ha e
  have e1 : sgnS s t = sgP s i := by
    obtain ⟨a, ha⟩ := fin64 s0 (by omega)
    rw [← he, ← ha]
    rw [← ha] at hs
    exact sgP_fin a ⟨i, hi6⟩ hs
  have rr := rnB_rng h s
  have g5 := hx i hin
  have hc6 : (gi xs i).toNat < 6 := by omega
  have hfr : bitP (rnB s xs) (gi xs i).toNat = false := by rw [rnB_at h s hin]; exact hs
  have e2 : rnB t xs = orP (rnB s xs) (gi xs i).toNat := by
    have ro := orP_rng rr.1 rr.2 hc6
    have rt := rnB_rng h t
    refine bit_ext rt.1 rt.2 ro.1 ro.2 fun m hm => ?_
    refine bool_ext ?_
    rw [bit_or rr.1 rr.2 hc6 hm, Bool.or_eq_true, rnB, rnB, rnTo_bit hx _ (Nat.le_refl _) hm, rnTo_bit hx _ (Nat.le_refl _) hm]
    constructor
    · rintro ⟨a, a1, a2, a3⟩
      by_cases e : a = i
      · subst e; left; simp; omega
      · exact .inr ⟨a, a1, by rw [← hst a e (by omega)]; exact a2, a3⟩
    · rintro (h1 | ⟨a, a1, a2, a3⟩)
      · exact ⟨i, hin, ht, by simp at h1; omega⟩
      · by_cases e : a = i
        · subst e; rw [hs] at a2; cases a2
        · exact ⟨a, a1, by rw [hst a e (by omega)]; exact a2, a3⟩
  have e3 : sgnS (rnB s xs) (rnB t xs) = sgP (rnB s xs) (gi xs i).toNat := by
    rw [e2]
    obtain ⟨a, ha⟩ := fin64 rr.1 rr.2
    rw [← ha] at hfr ⊢
    exact sgP_fin a ⟨(gi xs i).toNat, hc6⟩ hfr
  have e4 : sgP (rnB s xs) (gi xs i).toNat = prodB s (fun a => chi (decide (gi xs a < gi xs i))) xs.length := by
    rw [rnB, sgP_rn hx hd hc6 _ (Nat.le_refl _)]
    refine prodB_congr s _ fun a ha => ?_
    have := hx a ha
    congr 1
    exact decide_eq_decide.2 ⟨fun h => by omega, fun h => by omega⟩
  have e5 : sgP s i = prodB s (fun a => chi (decide (a < i))) xs.length := by
    have := prodB_high (s := s) (fun b => chi (decide (b < i))) (n := xs.length) (6 - xs.length) fun a h1 h2 => bit_high s0 n0 n6 s1 (by omega) (by omega)
    rw [show xs.length + (6 - xs.length) = 6 by omega] at this
    exact this
  have e6 : prodB s (dF xs i) xs.length = prodB s (fun a => chi (decide (a < i))) xs.length * prodB s (fun a => chi (decide (gi xs a < gi xs i))) xs.length := prodB_mul s _ _ _
  have e7 := eTo_add hd h6 hin hs ht hst xs.length hin (Nat.le_refl _)
  have q1 := eTo_sq s xs xs.length
  have q2 := prodB_sq s (f := fun a => chi (decide (a < i))) (fun _ => chi_sq _) xs.length
  rw [e3, e4, e7, e6, e1, e5]
  generalize eTo s xs xs.length = A at *
  generalize prodB s (fun a => chi (decide (a < i))) xs.length = B at *
  generalize prodB s (fun a => chi (decide (gi xs a < gi xs i))) xs.length = C at *
  have : A * (A * (B * C)) * B = (A * A) * (B * B) * C := by
    rw [← Int.mul_assoc A A, Int.mul_assoc (A * A), Int.mul_assoc (A * A), Int.mul_comm (B * C) B, Int.mul_assoc B B C]
  rw [this, q1, q2, Int.one_mul, Int.one_mul]

/-! ### Ranks under new names -/

theorem FR.scale {p : Int} {m n M N r : Nat} {A B : Nat → Nat → Int} (f g : Nat → Nat) (u v : Nat → Int) (hf : ∀ i, i < m → f i < M) (hg : ∀ j, j < n → g j < N)
    (hB : ∀ i j, i < m → j < n → B i j = u i * v j * A (f i) (g j)) (h : FR p M N r A) : FR p m n r B := by
  obtain ⟨X, Y, h⟩ := h
  refine ⟨fun i k => u i * X (f i) k, fun k j => v j * Y k (g j), fun i j hi hj => ?_⟩
  have h1 := h (f i) (g j) (hf i hi) (hg j hj)
  have h2 : sm (fun k => u i * X (f i) k * (v j * Y k (g j))) r = u i * v j * sm (fun k => X (f i) k * Y k (g j)) r := by
    rw [← sm_mul]
    refine sm_congr fun k _ => ?_
    generalize X (f i) k = a
    generalize Y k (g j) = b
    rw [Int.mul_assoc, Int.mul_assoc, ← Int.mul_assoc a, Int.mul_comm a, Int.mul_assoc]
  rw [hB i j hi hj, h2, ← Int.mul_sub]
  exact Int.dvd_mul_of_dvd_right h1
theorem DM_f {P : Int → Bool} {k s t : Nat} (h : ¬ ((P (s : Int) = true ∧ pc (s : Int) + 1 = k) ∧ P (t : Int) = true ∧ pc (t : Int) = k)) : DM P k s t = 0 := if_neg h
theorem DM_t {P : Int → Bool} {k s t : Nat} (h : (P (s : Int) = true ∧ pc (s : Int) + 1 = k) ∧ P (t : Int) = true ∧ pc (t : Int) = k) : DM P k s t = sgnS (s : Int) (t : Int) := if_pos h
/-- The border of the renamed complex, at renamed sets. -/
theorem DM_rn {n : Int} {xs : List Int} (h : Names n xs) {P Q : Int → Bool} (hPQ : ∀ s, 0 ≤ s → s < pw n → Q (rnB s xs) = P s) (k : Nat) {s t : Int} (s0 : 0 ≤ s) (s1 : s < pw n) (t0 : 0 ≤ t) (t1 : t < pw n) :
    DM Q k (rnB s xs).toNat (rnB t xs).toNat = eTo s xs xs.length * eTo t xs xs.length * DM P k s.toNat t.toNat := by
  have rs := rnB_rng h s
  have rt := rnB_rng h t
  have c1 : (((rnB s xs).toNat : Nat) : Int) = rnB s xs := Int.toNat_of_nonneg rs.1
  have c2 : (((rnB t xs).toNat : Nat) : Int) = rnB t xs := Int.toNat_of_nonneg rt.1
  have c3 : ((s.toNat : Nat) : Int) = s := Int.toNat_of_nonneg s0
  have c4 : ((t.toNat : Nat) : Int) = t := Int.toNat_of_nonneg t0
  have p1 := pc_rn h s0 s1
  have p2 := pc_rn h t0 t1
  have q1 := hPQ s s0 s1
  have q2 := hPQ t t0 t1
  by_cases hc : (P s = true ∧ pc s + 1 = k) ∧ P t = true ∧ pc t = k
  · rw [DM_t (by rw [c1, c2, p1, p2, q1, q2]; exact hc), DM_t (by rw [c3, c4]; exact hc), c1, c2, c3, c4]
    by_cases hsub : sub s t = true
    · exact sgn_rn h s0 s1 t0 t1 hsub (by omega)
    · have e1 : sgnS s t = 0 := if_neg hsub
      have e2 : sgnS (rnB s xs) (rnB t xs) = 0 := if_neg (by rw [rn_sub h s0 s1 t0 t1]; exact hsub)
      rw [e1, e2, Int.mul_zero]
  · rw [DM_f (by rw [c1, c2, p1, p2, q1, q2]; exact hc), DM_f (by rw [c3, c4]; exact hc), Int.mul_zero]
theorem rk_rn {n : Int} {xs : List Int} (h : Names n xs) {P Q : Int → Bool} (hP : ∀ s, 0 ≤ s → s < 64 → P s = true → s < pw n) (hQ : ∀ s, 0 ≤ s → s < 64 → Q s = true → s < pw n)
    (hPQ : ∀ s, 0 ≤ s → s < pw n → Q (rnB s xs) = P s) {p : Int} (hp : PrimeP p) (k : Nat) : rkN Q p k = rkN P p k := by
  have h64 := (pw_rng (by have := h.1; omega : 0 ≤ n) h.2.1).2
  have rP := rkN_rk (P := P) hp k
  have rQ := rkN_rk (P := Q) hp k
  refine Nat.le_antisymm (rQ.2 _ ?_) (rP.2 _ ?_)
  · -- the renamed one out of the first
    classical
    have ex : ∀ y : Nat, (y : Int) < pw n → ∃ s : Nat, (s : Int) < pw n ∧ rnB (s : Int) xs = (y : Int) := fun y hy => by
      obtain ⟨s, s0, s1, e⟩ := rn_surj h (show 0 ≤ (y : Int) by omega) hy
      exact ⟨s.toNat, by omega, by rw [Int.toNat_of_nonneg s0]; exact e⟩
    let g : Nat → Nat := fun y => if e : (y : Int) < pw n then (ex y e).choose else 0
    have hg : ∀ y : Nat, (y : Int) < pw n → ((g y : Nat) : Int) < pw n ∧ rnB ((g y : Nat) : Int) xs = (y : Int) := fun y hy => by
      have := (ex y hy).choose_spec
      simp only [g, dif_pos hy]; exact this
    have hg64 : ∀ y, y < 64 → g y < 64 := fun y _ => by
      by_cases e : (y : Int) < pw n
      · have := (hg y e).1; omega
      · simp only [g, dif_neg e]; omega
    refine rP.1.scale g g (fun y => if (y : Int) < pw n then eTo (g y : Nat) xs xs.length else 0) (fun y => if (y : Int) < pw n then eTo (g y : Nat) xs xs.length else 0) hg64 hg64 fun y z hy hz => ?_
    by_cases ey : (y : Int) < pw n
    · by_cases ez : (z : Int) < pw n
      · have := DM_rn h hPQ k (s := (g y : Nat)) (t := (g z : Nat)) (by omega) (hg y ey).1 (by omega) (hg z ez).1
        rw [(hg y ey).2, (hg z ez).2] at this
        simp only [Int.toNat_natCast] at this
        simp only [if_pos ey, if_pos ez]
        exact this
      · simp only [if_neg ez, Int.mul_zero, Int.zero_mul]
        exact DM_f fun hc => ez (hQ z (by omega) (by omega) hc.2.1)
    · simp only [if_neg ey, Int.zero_mul]
      exact DM_f fun hc => ey (hQ y (by omega) (by omega) hc.1.1)
  · have hf64 : ∀ s : Nat, s < 64 → (rnB (s : Int) xs).toNat < 64 := fun s _ => by have := rnB_rng h (s : Int); omega
    refine rQ.1.scale (fun s => (rnB (s : Int) xs).toNat) (fun s => (rnB (s : Int) xs).toNat) (fun y => if (y : Int) < pw n then eTo (y : Int) xs xs.length else 0) (fun y => if (y : Int) < pw n then eTo (y : Int) xs xs.length else 0) hf64 hf64 fun y z hy hz => ?_
    by_cases ey : (y : Int) < pw n
    · by_cases ez : (z : Int) < pw n
      · have := DM_rn h hPQ k (s := (y : Int)) (t := (z : Int)) (by omega) ey (by omega) ez
        simp only [Int.toNat_natCast] at this
        simp only [if_pos ey, if_pos ez]
        rw [this]
        have q1 := eTo_sq (y : Int) xs xs.length
        have q2 := eTo_sq (z : Int) xs xs.length
        generalize eTo (y : Int) xs xs.length = a at *
        generalize eTo (z : Int) xs xs.length = b at *
        have : a * b * (a * b * DM P k y z) = (a * a) * (b * b) * DM P k y z := by
          rw [← Int.mul_assoc, ← Int.mul_assoc (a * b) a b, Int.mul_assoc a b a, Int.mul_comm b a, ← Int.mul_assoc a a b, Int.mul_assoc (a * a) b b]
        rw [this, q1, q2, Int.one_mul, Int.one_mul]
      · simp only [if_neg ez, Int.mul_zero, Int.zero_mul]
        exact DM_f fun hc => ez (hP z (by omega) (by omega) hc.2.1)
    · simp only [if_neg ey, Int.zero_mul]
      exact DM_f fun hc => ey (hP y (by omega) (by omega) hc.1.1)

end Go.Proofs.YtjaofbdfhcgmeaaGreat
