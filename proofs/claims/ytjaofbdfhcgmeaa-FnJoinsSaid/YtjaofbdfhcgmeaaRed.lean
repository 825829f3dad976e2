/-
  Elimination modulo a prime: plain law.
-/
import Derived.Test.YtjaofbdfhcgmeaaFill
import Derived.Test.YtjaofbdfhcgmeaaNum2
namespace Go.Proofs.Ytjaofbdfhcgmeaa
open Go.RowKit

def PrimeP (p : Int) : Prop := p = 2 ∨ p = 3 ∨ p = 5
theorem PrimeP.rng {p : Int} (h : PrimeP p) : 2 ≤ p ∧ p ≤ 5 := by unfold PrimeP at h; omega
theorem invFrom_rng (a p : Int) : ∀ (n : Nat) (b : Int), 0 ≤ b → 0 ≤ invFrom a p n b ∧ invFrom a p n b ≤ b + n := by
  intro n
  induction n with
  | zero => intro b hb; simp [invFrom]; omega
  | succ n ih =>
    intro b hb
    rw [invFrom]
    split
    · omega
    · have := ih (b + 1) (by omega); omega
theorem invB_rng {a p : Int} (hp : PrimeP p) : 0 ≤ invB a p ∧ invB a p ≤ 5 := by
  have h := hp.rng
  unfold invB
  split
  · have := invFrom_rng a p (p.toNat - 1) 1 (by omega); omega
  · omega
theorem small_mul {a b : Int} (a0 : 0 ≤ a) (a1 : a ≤ 5) (b0 : 0 ≤ b) (b1 : b ≤ 5) : 0 ≤ a * b ∧ a * b ≤ 25 := by
  have : a = 0 ∨ a = 1 ∨ a = 2 ∨ a = 3 ∨ a = 4 ∨ a = 5 := by omega
  rcases this with rfl | rfl | rfl | rfl | rfl | rfl <;> omega

/-- All rows have W places, all numbers are remainders. -/
def Good (p : Int) (W : Nat) (M : List (List Int)) : Prop := ∀ k, k < M.length → (gr M k).length = W ∧ ∀ j, 0 ≤ gi (gr M k) j ∧ gi (gr M k) j < p

/-- What is new up to place j, what is old behind. -/
def mixTo (new old : List Int) (j : Nat) : List Int := (List.range old.length).map fun t => if t < j then gi new t else gi old t
theorem mixTo_len (new old : List Int) (j : Nat) : (mixTo new old j).length = old.length := by simp [mixTo]
theorem mixTo_gi {new old : List Int} {j t : Nat} (h : t < old.length) : gi (mixTo new old j) t = if t < j then gi new t else gi old t := by simp [gi, mixTo, List.getD, h]
theorem giExt {L N : List Int} (hl : L.length = N.length) (h : ∀ k, k < L.length → gi L k = gi N k) : L = N := by
  refine List.ext_getElem hl fun k h1 h2 => ?_
  have := h k h1
  rwa [gi_eq L k h1, gi_eq N k h2] at this
theorem giSet {o : List Int} {k i : Nat} {x : Int} (h : k < o.length) : gi (o.set k x) i = if i = k then x else gi o i := by
  simp only [gi, List.getD, List.getElem?_set]
  by_cases e : i = k
  · subst e; simp [h]
  · simp [e, Ne.symm e]
theorem mixTo_zero (new old : List Int) : mixTo new old 0 = old := giExt (mixTo_len _ _ _) fun k hk => by
  rw [mixTo_gi (by rwa [mixTo_len] at hk), if_neg (by omega)]
theorem mixTo_all {new old : List Int} {j : Nat} (hl : new.length = old.length) (h : old.length ≤ j) : mixTo new old j = new := giExt (by rw [mixTo_len, hl]) fun k hk => by
  have hk' : k < old.length := by rwa [mixTo_len] at hk
  rw [mixTo_gi hk', if_pos (by omega)]
theorem mixTo_succ {new old : List Int} {j : Nat} (h : j < old.length) : (mixTo new old j).set j (gi new j) = mixTo new old (j + 1) := giExt (by simp [mixTo]) fun k hk => by
  have hk' : k < old.length := by simpa [mixTo] using hk
  rw [giSet (by rw [mixTo_len]; exact h), mixTo_gi hk', mixTo_gi hk']
  by_cases e : k = j
  · subst e; rw [if_pos rfl, if_pos (by omega)]
  · rw [if_neg e]
    by_cases h2 : k < j
    · rw [if_pos h2, if_pos (by omega)]
    · rw [if_neg h2, if_neg (by omega)]

def scaleRow (p f : Int) (r : List Int) : List Int := r.map fun x => x * f % p
theorem scaleRow_len (p f : Int) (r : List Int) : (scaleRow p f r).length = r.length := by simp [scaleRow]
theorem scaleRow_gi {p f : Int} {r : List Int} {j : Nat} (h : j < r.length) : gi (scaleRow p f r) j = gi r j * f % p := by simp [gi, scaleRow, List.getD, h]
def clearRow (p g : Int) (r s : List Int) : List Int := (List.range r.length).map fun j => (gi r j - g * gi s j) % p
theorem clearRow_len (p g : Int) (r s : List Int) : (clearRow p g r s).length = r.length := by simp [clearRow]
theorem clearRow_gi {p g : Int} {r s : List Int} {j : Nat} (h : j < r.length) : gi (clearRow p g r s) j = (gi r j - g * gi s j) % p := by simp [gi, clearRow, List.getD, h]
theorem gi_out {r : List Int} {j : Nat} (h : r.length ≤ j) : gi r j = 0 := by
  simp only [gi, List.getD]; rw [List.getElem?_eq_none h]; rfl
theorem clearRow_zero {p : Int} {r : List Int} (s : List Int) (h : ∀ j, 0 ≤ gi r j ∧ gi r j < p) : clearRow p 0 r s = r := giExt (clearRow_len _ _ _ _) fun k hk => by
  have := h k
  rw [clearRow_gi (by rwa [clearRow_len] at hk), Int.zero_mul, Int.sub_zero, Int.emod_eq_of_lt this.1 this.2]

def swapR (M : List (List Int)) (a b : Nat) : List (List Int) := (M.set a (gr M b)).set b (gr M a)
def swapV (vs : List Value) (a b : Nat) : List Value := (vs.set a (gv vs b)).set b (gv vs a)
theorem swapR_len (M : List (List Int)) (a b : Nat) : (swapR M a b).length = M.length := by simp [swapR]
theorem swapV_len (vs : List Value) (a b : Nat) : (swapV vs a b).length = vs.length := by simp [swapV]
theorem swapR_gr {M : List (List Int)} {a b : Nat} (ha : a < M.length) (hb : b < M.length) (k : Nat) : gr (swapR M a b) k = if k = b then gr M a else if k = a then gr M b else gr M k := by
  rw [swapR, gr_set (by simp; exact hb), gr_set ha]
theorem swapV_gv {vs : List Value} {a b : Nat} (ha : a < vs.length) (hb : b < vs.length) (k : Nat) : gv (swapV vs a b) k = if k = b then gv vs a else if k = a then gv vs b else gv vs k := by
  rw [swapV, gv_set (by simp; exact hb), gv_set ha]
theorem rows_len {vs : List Value} {M : List (List Int)} (hl : vs.length = M.length) : (rows vs M).length = M.length := by simp [rows, hl]
theorem rows_get {vs : List Value} {M : List (List Int)} (hl : vs.length = M.length) {k : Nat} (hk : k < M.length) : (rows vs M)[k]? = some ⟨gv vs k, 3, ints (gr M k)⟩ := by
  have h1 := gv_get (vs := vs) (k := k) (by omega)
  have h2 : M[k]? = some (gr M k) := by rw [gr_eq hk]; simp [hk]
  simp [rows, List.getElem?_zipWith, h1, h2]
theorem perm_swap {α : Type} (l : List α) (a b : Nat) (ha : a < l.length) (hb : b < l.length) : ((l.set a l[b]).set b l[a]).Perm l := by
  have h := Array.swap_perm (xs := l.toArray) (i := a) (j := b) (by simpa using ha) (by simpa using hb)
  have h2 := Array.perm_iff_toList_perm.1 h
  simpa [Array.toList_swap] using h2
theorem rows_swap {vs : List Value} {M : List (List Int)} (hl : vs.length = M.length) {a b : Nat} (ha : a < M.length) (hb : b < M.length) : (rows (swapV vs a b) (swapR M a b)).Perm (rows vs M) := by
  have hr := rows_len hl
  have e : rows (swapV vs a b) (swapR M a b) = ((rows vs M).set a ((rows vs M)[b]'(by omega))).set b ((rows vs M)[a]'(by omega)) := by
    refine List.ext_getElem? fun k => ?_
    by_cases hk : k < M.length
    · rw [rows_get (by rw [swapV_len, swapR_len, hl]) (by rw [swapR_len]; exact hk), swapV_gv (by omega) (by omega), swapR_gr ha hb]
      have hb' := rows_get hl hb
      have ha' := rows_get hl ha
      have hk' := rows_get hl hk
      rw [List.getElem?_eq_getElem (by omega)] at hb' ha'
      simp only [Option.some.injEq] at hb' ha'
      rw [List.getElem?_set, List.getElem?_set, hb', ha', hk', List.length_set, hr]
      by_cases e1 : k = b
      · subst e1; simp [hk]
      · rw [if_neg e1, if_neg e1, if_neg (Ne.symm e1)]
        by_cases e2 : k = a
        · subst e2; simp [hk]
        · rw [if_neg e2, if_neg e2, if_neg (Ne.symm e2)]
    · rw [List.getElem?_eq_none (by rw [rows_len (by rw [swapV_len, swapR_len, hl]), swapR_len]; omega), List.getElem?_eq_none (by simp [hr]; omega)]
  rw [e]
  exact perm_swap _ _ _ (by omega) (by omega)
theorem St.swapRows {w0 w : World} {v : Value} {t : TypeId} {vs us : List Value} {M : List (List Int)} {env : List Ent} (h : St w0 w (⟨v, t, us⟩ :: rowsOn vs M env)) (hl : vs.length = M.length) {a b : Nat} (ha : a < M.length) (hb : b < M.length) :
    St w0 w (⟨v, t, us⟩ :: rowsOn (swapV vs a b) (swapR M a b) env) := h.perm (List.Perm.cons _ ((rows_swap hl ha hb).symm.append_right _))

/-- The first row from d on whose place col is not 0; the number of rows, if there is none. -/
def IsAt (M : List (List Int)) (d col a : Nat) : Prop := d ≤ a ∧ a ≤ M.length ∧ (∀ t, d ≤ t → t < a → gi (gr M t) col = 0) ∧ (a < M.length → gi (gr M a) col ≠ 0)
theorem isAt_unique {M : List (List Int)} {d col a b : Nat} (h : IsAt M d col a) (h' : IsAt M d col b) : a = b := by
  obtain ⟨a1, a2, a3, a4⟩ := h
  obtain ⟨b1, b2, b3, b4⟩ := h'
  rcases Nat.lt_trichotomy a b with h | h | h
  · exact absurd (b3 a a1 h) (a4 (by omega))
  · exact h
  · exact absurd (a3 b b1 h) (b4 (by omega))
open Classical in
noncomputable def findAt (M : List (List Int)) (d col : Nat) : Nat := if h : ∃ a, IsAt M d col a then h.choose else 0
theorem findAt_eq {M : List (List Int)} {d col a : Nat} (h : IsAt M d col a) : findAt M d col = a := by
  have he : ∃ a, IsAt M d col a := ⟨a, h⟩
  rw [findAt, dif_pos he]
  exact isAt_unique he.choose_spec h

/-- Row d divided by its place col. -/
def pivM (p : Int) (M : List (List Int)) (d col : Nat) : List (List Int) := M.set d (scaleRow p (invB (gi (gr M d) col) p) (gr M d))
/-- The first i rows cleared by row d. -/
def clrTo (p : Int) (M : List (List Int)) (d col i : Nat) : List (List Int) := (List.range M.length).map fun k => if k < i ∧ k ≠ d then clearRow p (gi (gr M k) col) (gr M k) (gr M d) else gr M k
theorem pivM_len (p : Int) (M : List (List Int)) (d col : Nat) : (pivM p M d col).length = M.length := by simp [pivM]
theorem clrTo_len (p : Int) (M : List (List Int)) (d col i : Nat) : (clrTo p M d col i).length = M.length := by simp [clrTo]
theorem clrTo_gr {p : Int} {M : List (List Int)} {d col i k : Nat} (h : k < M.length) : gr (clrTo p M d col i) k = if k < i ∧ k ≠ d then clearRow p (gi (gr M k) col) (gr M k) (gr M d) else gr M k := by simp [gr, clrTo, List.getD, h]
theorem clrTo_zero (p : Int) (M : List (List Int)) (d col : Nat) : clrTo p M d col 0 = M := ext_gr' (clrTo_len _ _ _ _ _) fun k hk => by
  rw [clrTo_gr (by rwa [clrTo_len] at hk), if_neg (by omega)]
theorem clrTo_row {p : Int} {M : List (List Int)} {d col i k : Nat} (h : k < M.length) (hk : i ≤ k ∨ k = d) : gr (clrTo p M d col i) k = gr M k := by
  rw [clrTo_gr h, if_neg (by omega)]
theorem clrTo_same {p : Int} {M : List (List Int)} {d col : Nat} : clrTo p M d col d = clrTo p M d col (d + 1) := ext_gr' (by simp [clrTo]) fun k hk => by
  have hk' : k < M.length := by simpa [clrTo] using hk
  rw [clrTo_gr hk', clrTo_gr hk']
  by_cases h : k < d
  · rw [if_pos ⟨h, by omega⟩, if_pos ⟨by omega, by omega⟩]
  · rw [if_neg (by omega), if_neg (by omega)]
theorem clrTo_succ {p : Int} {M : List (List Int)} {d col i : Nat} (h : i < M.length) (hne : i ≠ d) : (clrTo p M d col i).set i (clearRow p (gi (gr M i) col) (gr M i) (gr M d)) = clrTo p M d col (i + 1) := ext_gr' (by simp [clrTo]) fun k hk => by
  have hk' : k < M.length := by simpa [clrTo] using hk
  rw [gr_set (by rw [clrTo_len]; exact h), clrTo_gr hk', clrTo_gr hk']
  by_cases e : k = i
  · subst e; rw [if_pos rfl, if_pos ⟨by omega, hne⟩]
  · rw [if_neg e]
    by_cases h2 : k < i ∧ k ≠ d
    · rw [if_pos h2, if_pos ⟨by omega, h2.2⟩]
    · rw [if_neg h2, if_neg (by omega)]
theorem clrTo_skip {p : Int} {M : List (List Int)} {d col i W : Nat} (hg : Good p W M) (h : i < M.length) (hne : i ≠ d) (hz : gi (gr M i) col = 0) : clrTo p M d col i = clrTo p M d col (i + 1) := by
  rw [← clrTo_succ h hne, hz, clearRow_zero _ (hg i h).2, ← clrTo_row (p := p) (d := d) (col := col) (i := i) h (.inl (Nat.le_refl _)), set_gr (by rw [clrTo_len]; exact h)]
theorem swapR_good {p : Int} {W : Nat} {M : List (List Int)} (hg : Good p W M) {a b : Nat} (ha : a < M.length) (hb : b < M.length) : Good p W (swapR M a b) := fun k hk => by
  rw [swapR_len] at hk
  rw [swapR_gr ha hb]
  split
  · exact hg a ha
  · split
    · exact hg b hb
    · exact hg k hk
theorem pivM_good {p : Int} {W : Nat} {M : List (List Int)} (hp : PrimeP p) (hg : Good p W M) {d col : Nat} (hd : d < M.length) : Good p W (pivM p M d col) := fun k hk => by
  rw [pivM_len] at hk
  rw [pivM, gr_set hd]
  split
  · refine ⟨by rw [scaleRow_len]; exact (hg d hd).1, fun j => ?_⟩
    have := hp.rng
    by_cases hj : j < (gr M d).length
    · rw [scaleRow_gi hj]
      exact ⟨Int.emod_nonneg _ (by omega), Int.emod_lt_of_pos _ (by omega)⟩
    · rw [gi_out (by rw [scaleRow_len]; omega)]; omega
  · exact hg k hk
theorem clrTo_good {p : Int} {W : Nat} {M : List (List Int)} (hp : PrimeP p) (hg : Good p W M) (d col i : Nat) : Good p W (clrTo p M d col i) := fun k hk => by
  rw [clrTo_len] at hk
  rw [clrTo_gr hk]
  split
  · refine ⟨by rw [clearRow_len]; exact (hg k hk).1, fun j => ?_⟩
    have := hp.rng
    by_cases hj : j < (gr M k).length
    · rw [clearRow_gi hj]
      exact ⟨Int.emod_nonneg _ (by omega), Int.emod_lt_of_pos _ (by omega)⟩
    · rw [gi_out (by rw [clearRow_len]; omega)]; omega
  · exact hg k hk

/-- One column. -/
noncomputable def stepM (p : Int) (M : List (List Int)) (d col a : Nat) : List (List Int) := clrTo p (pivM p (swapR M d a) d col) d col M.length
noncomputable def red (p : Int) (M : List (List Int)) : Nat → List (List Int) × List Int
  | 0 => (M, [])
  | c + 1 => if (red p M c).2.length < (red p M c).1.length ∧ findAt (red p M c).1 (red p M c).2.length c < (red p M c).1.length then
      (stepM p (red p M c).1 (red p M c).2.length c (findAt (red p M c).1 (red p M c).2.length c), (red p M c).2 ++ [(c : Int)]) else red p M c
theorem stepM_len (p : Int) (M : List (List Int)) (d col a : Nat) : (stepM p M d col a).length = M.length := by rw [stepM, clrTo_len, pivM_len, swapR_len]
theorem red_len (p : Int) (M : List (List Int)) (c : Nat) : (red p M c).1.length = M.length ∧ (red p M c).2.length ≤ c := by
  induction c with
  | zero => exact ⟨rfl, Nat.le_refl _⟩
  | succ c ih =>
    rw [red]
    split
    · refine ⟨?_, ?_⟩
      · show (stepM _ _ _ _ _).length = _
        rw [stepM_len]; exact ih.1
      · simp; exact ih.2
    · exact ⟨ih.1, by omega⟩
theorem red_piv (p : Int) (M : List (List Int)) (c : Nat) : (red p M c).2.length ≤ M.length := by
  induction c with
  | zero => simp [red]
  | succ c ih =>
    rw [red]
    split
    · rename_i h
      have := (red_len p M c).1
      simp; omega
    · exact ih
theorem red_good {p : Int} {W : Nat} {M : List (List Int)} (hp : PrimeP p) (hg : Good p W M) (c : Nat) : Good p W (red p M c).1 := by
  induction c with
  | zero => exact hg
  | succ c ih =>
    rw [red]
    split
    · rename_i h
      have h1 := swapR_good ih h.1 h.2
      exact clrTo_good hp (pivM_good hp h1 (by rw [swapR_len]; exact h.1)) _ _ _
    · exact ih
theorem red_stop {p : Int} {M : List (List Int)} {c : Nat} (h : (red p M c).2.length = M.length) (k : Nat) : red p M (c + k) = red p M c := by
  induction k with
  | zero => rfl
  | succ k ih =>
    rw [← Nat.add_assoc, red, ih, if_neg (by have := (red_len p M c).1; omega)]
theorem red_none {p : Int} {M : List (List Int)} {c a : Nat} (h : IsAt (red p M c).1 (red p M c).2.length c a) (ha : a = M.length) : red p M (c + 1) = red p M c := by
  have := (red_len p M c).1
  rw [red, findAt_eq h, if_neg (by omega)]
theorem red_some {p : Int} {M : List (List Int)} {c a : Nat} (h : IsAt (red p M c).1 (red p M c).2.length c a) (ha : a < M.length) : red p M (c + 1) = (stepM p (red p M c).1 (red p M c).2.length c a, (red p M c).2 ++ [(c : Int)]) := by
  have h1 := (red_len p M c).1
  have h2 := h.1
  rw [red, findAt_eq h, if_pos (by omega)]
/-- The rank: the number of pivots. -/
noncomputable def pivs (p : Int) (W : Nat) (M : List (List Int)) : List Int := (red p M W).2

/-- The remainders. -/
def modRow (p : Int) (r : List Int) : List Int := r.map fun x => x % p
def modM (p : Int) (M : List (List Int)) : List (List Int) := M.map (modRow p)
theorem modRow_len (p : Int) (r : List Int) : (modRow p r).length = r.length := by simp [modRow]
theorem modM_len (p : Int) (M : List (List Int)) : (modM p M).length = M.length := by simp [modM]
theorem modRow_gi {p : Int} {r : List Int} {j : Nat} (h : j < r.length) : gi (modRow p r) j = gi r j % p := by simp [gi, modRow, List.getD, h]
theorem modM_gr {p : Int} {M : List (List Int)} {k : Nat} (h : k < M.length) : gr (modM p M) k = modRow p (gr M k) := by simp [gr, modM, List.getD, h]
theorem modM_good {p : Int} {W : Nat} {M : List (List Int)} (hp : PrimeP p) (h : ∀ k, k < M.length → (gr M k).length = W) : Good p W (modM p M) := fun k hk => by
  rw [modM_len] at hk
  rw [modM_gr hk, modRow_len]
  refine ⟨h k hk, fun j => ?_⟩
  have := hp.rng
  by_cases hj : j < (gr M k).length
  · rw [modRow_gi hj]
    exact ⟨Int.emod_nonneg _ (by omega), Int.emod_lt_of_pos _ (by omega)⟩
  · rw [gi_out (by rw [modRow_len]; omega)]; omega
noncomputable def rankR (p : Int) (M : List (List Int)) : Int := ((pivs p (gr M 0).length (modM p M)).length : Int)
theorem clear_fin {p x g y : Int} (hx : 0 ≤ x) (hy : 0 ≤ y) (hg : 0 ≤ g) (hgp : g < p) (hy5 : y ≤ 5) (hp : p ≤ 5) : Int.tmod (x + (p - g) * y) p = (x - g * y) % p := by
  have h1 := small_mul (a := p - g) (b := y) (by omega) (by omega) hy hy5
  rw [Int.tmod_eq_emod_of_nonneg (by omega), show x + (p - g) * y = x - g * y + p * y by rw [Int.sub_mul]; omega, Int.add_mul_emod_self_left]

end Go.Proofs.Ytjaofbdfhcgmeaa
