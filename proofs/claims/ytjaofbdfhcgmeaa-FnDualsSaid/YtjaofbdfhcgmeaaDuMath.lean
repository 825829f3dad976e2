/-
  Duals: holes of a complex and of its dual, the dual's dual, covers; plain law.
-/
import Derived.Test.YtjaofbdfhcgmeaaAlex
import Derived.Test.YtjaofbdfhcgmeaaMax
import Derived.Test.YtjaofbdfhcgmeaaHoles2
namespace Go.Proofs.Ytjaofbdfhcgmeaa
open Go.RowKit

/-! ### Complements of sets -/

theorem comp_fin : ∀ n : Fin 7, ∀ s t : Fin 64, s.val < 2 ^ n.val → t.val < 2 ^ n.val → pc ((2 ^ n.val - 1 - s.val : Nat) : Int) = (n.val : Int) - pc (s.val : Int) ∧ (pc (t.val : Int) = pc (s.val : Int) + 1 → (sgnS (s.val : Int) (t.val : Int) - sgnS ((2 ^ n.val - 1 - t.val : Nat) : Int) ((2 ^ n.val - 1 - s.val : Nat) : Int)) % 2 = 0) := by decide +kernel
def cmN (N s : Nat) : Nat := 2 ^ N - 1 - s
theorem cmN_cmN {N s : Nat} (h : s < 2 ^ N) : cmN N (cmN N s) = s := by unfold cmN; omega
theorem cmN_lt {N : Nat} (s : Nat) : cmN N s < 2 ^ N := by have := Nat.two_pow_pos N; unfold cmN; omega
theorem pow_le64 {N : Nat} (h : N ≤ 6) : 2 ^ N ≤ 64 := Nat.pow_le_pow_right (n := 2) (by omega) h
theorem RK.inner2 {p : Int} {m n M N r : Nat} {A a : Nat → Nat → Int} (f g : Nat → Nat) (hf : ∀ i, i < m → f i < M) (hg : ∀ j, j < n → g j < N)
    (ha : ∀ i j, i < m → j < n → a i j = A (f i) (g j)) (hz : ∀ s t, s < M → t < N → A s t ≠ 0 → (∃ i, i < m ∧ f i = s) ∧ ∃ j, j < n ∧ g j = t) (h : RK p M N r A) : RK p m n r a :=
  ⟨h.1.inner f g hf hg ha, fun s hs => h.2 s (hs.embed f g ha hz)⟩
theorem RK.comp {p : Int} {N r : Nat} (hN : N ≤ 6) {A B : Nat → Nat → Int} (hA : ∀ s t, s < 64 → t < 64 → A s t ≠ 0 → s < 2 ^ N ∧ t < 2 ^ N) (hB : ∀ s t, s < 64 → t < 64 → B s t ≠ 0 → s < 2 ^ N ∧ t < 2 ^ N)
    (hAB : ∀ i t, i < 2 ^ N → t < 2 ^ N → p ∣ (A i t - B (cmN N t) (cmN N i))) (h : RK p 64 64 r A) : RK p 64 64 r B := by
  have h64 := pow_le64 hN
  have h1 : RK p (2 ^ N) (2 ^ N) r A := h.inner2 (fun i => i) (fun i => i) (fun i hi => Nat.lt_of_lt_of_le hi h64) (fun i hi => Nat.lt_of_lt_of_le hi h64) (fun _ _ _ _ => rfl) fun s t hs ht hne => by
    obtain ⟨a, b⟩ := hA s t hs ht hne
    exact ⟨⟨s, a, rfl⟩, t, b, rfl⟩
  have h2 : RK p (2 ^ N) (2 ^ N) r fun i j => B (cmN N i) (cmN N j) := h1.turn.cg fun i j hi hj => hAB j i hj hi
  exact h2.embed (cmN N) (cmN N) (fun i _ => Nat.lt_of_lt_of_le (cmN_lt i) h64) (fun i _ => Nat.lt_of_lt_of_le (cmN_lt i) h64) (fun _ _ _ _ => rfl) fun s t hs ht hne => by
    obtain ⟨a, b⟩ := hB s t hs ht hne
    exact ⟨⟨cmN N s, cmN_lt s, cmN_cmN a⟩, cmN N t, cmN_lt t, cmN_cmN b⟩

/-- Q is the dual of P, on N points. -/
structure DualP (N : Nat) (P Q : Int → Bool) : Prop where
  N6 : N ≤ 6
  iff : ∀ s : Nat, s < 64 → (Q (s : Int) = true ↔ s < 2 ^ N ∧ P ((cmN N s : Nat) : Int) = false)
theorem pw_nat (N : Nat) : pw (N : Int) = ((2 ^ N : Nat) : Int) := by simp [pw]
theorem Nf_iff {N : Nat} {P : Int → Bool} {s : Nat} : Nf (N : Int) P (s : Int) = true ↔ s < 2 ^ N ∧ P (s : Int) = false := by
  unfold Nf
  rw [pw_nat, Bool.and_eq_true, decide_eq_true_eq, Bool.not_eq_true', Int.ofNat_lt]
theorem DualP.cm {N : Nat} {P Q : Int → Bool} (h : DualP N P Q) {s : Nat} (hs : s < 2 ^ N) : Q ((cmN N s : Nat) : Int) = true ↔ Nf (N : Int) P (s : Int) = true := by
  have h64 := pow_le64 h.N6
  rw [h.iff _ (Nat.lt_of_lt_of_le (cmN_lt s) h64), Nf_iff, cmN_cmN hs]
  exact ⟨fun h' => ⟨hs, h'.2⟩, fun h' => ⟨cmN_lt s, h'.2⟩⟩
theorem cm_facts {N s t : Nat} (hN : N ≤ 6) (hs : s < 2 ^ N) (ht : t < 2 ^ N) : pc ((cmN N s : Nat) : Int) = (N : Int) - pc (s : Int) ∧ (pc (t : Int) = pc (s : Int) + 1 → (sgnS (s : Int) (t : Int) - sgnS ((cmN N t : Nat) : Int) ((cmN N s : Nat) : Int)) % 2 = 0) := by
  have h64 := pow_le64 hN
  exact comp_fin ⟨N, by omega⟩ ⟨s, by omega⟩ ⟨t, by omega⟩ hs ht
theorem rk_dual {N : Nat} {P Q : Int → Bool} (h : DualP N P Q) {j k : Nat} (hjk : j + k = N + 1) : rkN Q 2 j = nkN N P 2 k := by
  have h2 : PrimeP 2 := .inl rfl
  have hN := rkN_rk (P := Nf (N : Int) P) h2 k
  have hQ := rkN_rk (P := Q) h2 j
  refine RK.unique hQ (hN.comp h.N6 (fun s t hs ht hne => ?_) (fun s t hs ht hne => ?_) (fun i t hi ht => ?_))
  · have hc : (Nf (N : Int) P (s : Int) = true ∧ pc (s : Int) + 1 = k) ∧ Nf (N : Int) P (t : Int) = true ∧ pc (t : Int) = k := Classical.byContradiction fun hn => hne (if_neg hn)
    exact ⟨(Nf_iff.1 hc.1.1).1, (Nf_iff.1 hc.2.1).1⟩
  · have hc : (Q (s : Int) = true ∧ pc (s : Int) + 1 = j) ∧ Q (t : Int) = true ∧ pc (t : Int) = j := Classical.byContradiction fun hn => hne (if_neg hn)
    exact ⟨((h.iff s hs).1 hc.1.1).1, ((h.iff t ht).1 hc.2.1).1⟩
  · obtain ⟨a1, a2⟩ := cm_facts h.N6 hi ht
    have b1 := (cm_facts h.N6 ht hi).1
    have c1 := h.cm hi
    have c2 := h.cm ht
    unfold DM
    by_cases hc : (Nf (N : Int) P (i : Int) = true ∧ pc (i : Int) + 1 = k) ∧ Nf (N : Int) P (t : Int) = true ∧ pc (t : Int) = k
    · obtain ⟨⟨d1, d2⟩, d3, d4⟩ := hc
      rw [if_pos ⟨⟨d1, d2⟩, d3, d4⟩, if_pos ⟨⟨c2.2 d3, by rw [b1]; omega⟩, c1.2 d1, by rw [a1]; omega⟩]
      exact Int.dvd_of_emod_eq_zero (a2 (by omega))
    · rw [if_neg hc, if_neg fun h' => hc ⟨⟨c1.1 h'.2.1, by have := h'.2.2; rw [a1] at this; omega⟩, c2.1 h'.1.1, by have := h'.1.2; rw [b1] at this; omega⟩]
      exact ⟨0, by omega⟩
/-- The number of sets that are no faces. -/
def gN (N : Nat) (P : Int → Bool) (k : Nat) : Nat := cntQ (szF (Nf (N : Int) P) k) 64
theorem idS_ne {S : Nat → Bool} {s t : Nat} (h : idS S s t ≠ 0) : S s = true ∧ s = t := Classical.byContradiction fun hn => h (if_neg hn)
theorem cnt_dual {N : Nat} {P Q : Int → Bool} (h : DualP N P Q) {j k : Nat} (hjk : j + k = N) : fcN Q j = gN N P k := by
  have h2 : PrimeP 2 := .inl rfl
  have hN := idS_rk h2 (szF (Nf (N : Int) P) k) 64
  have hQ := idS_rk h2 (szF Q j) 64
  refine RK.unique hQ (hN.comp h.N6 (fun s t hs ht hne => ?_) (fun s t hs ht hne => ?_) (fun i t hi ht => ?_))
  · obtain ⟨h1, rfl⟩ := idS_ne hne
    have := (Nf_iff.1 (szF_iff.1 h1).1).1
    exact ⟨this, this⟩
  · obtain ⟨h1, rfl⟩ := idS_ne hne
    have := ((h.iff s hs).1 (szF_iff.1 h1).1).1
    exact ⟨this, this⟩
  · refine dvd_zero_sub ?_
    have a1 := (cm_facts h.N6 hi hi).1
    have c1 := h.cm hi
    unfold idS
    by_cases e : i = t
    · subst e
      by_cases hc : szF (Nf (N : Int) P) k i = true
      · obtain ⟨d1, d2⟩ := szF_iff.1 hc
        rw [if_pos ⟨hc, rfl⟩, if_pos ⟨szF_iff.2 ⟨c1.2 d1, by rw [a1]; omega⟩, rfl⟩]
      · rw [if_neg (fun h' => hc h'.1), if_neg fun h' => hc (by
          obtain ⟨d1, d2⟩ := szF_iff.1 h'.1
          rw [a1] at d2
          exact szF_iff.2 ⟨c1.1 d1, by omega⟩)]
    · rw [if_neg (fun h' => e h'.2), if_neg fun h' => e (by rw [← cmN_cmN hi, ← cmN_cmN ht, h'.2])]
theorem cntQ_sum {f g h : Nat → Bool} : ∀ n, (∀ a, a < n → (f a).toNat + (g a).toNat = (h a).toNat) → cntQ f n + cntQ g n = cntQ h n
  | 0, _ => rfl
  | n + 1, e => by
    have h1 := cntQ_sum n fun a ha => e a (by omega)
    have h2 := e n (by omega)
    rw [cntQ, cntQ, cntQ]; omega
theorem Uf_iff {N s : Nat} : Uf (N : Int) (s : Int) = true ↔ s < 2 ^ N := by
  unfold Uf
  rw [pw_nat, decide_eq_true_eq, Int.ofNat_lt]
theorem cnt_all {N : Nat} {P : Int → Bool} (h : Cpx N P) (k : Nat) : fcN P k + gN N P k = fcN (Uf N) k := cntQ_sum 64 fun a ha => by
  have h1 : szF (Uf (N : Int)) k a = true ↔ szF P k a = true ∨ szF (Nf (N : Int) P) k a = true := by
    rw [szF_iff, szF_iff, szF_iff, Uf_iff, Nf_iff]
    constructor
    · rintro ⟨a1, a2⟩
      cases e : P (a : Int) with
      | true => exact .inl ⟨rfl, a2⟩
      | false => exact .inr ⟨⟨a1, rfl⟩, a2⟩
    · rintro (⟨a1, a2⟩ | ⟨a1, a2⟩)
      · have := h.lt a ha a1
        rw [pw_nat] at this
        exact ⟨by omega, a2⟩
      · exact ⟨a1.1, a2⟩
  cases e1 : szF P k a with
  | true =>
    have e2 : szF (Nf (N : Int) P) k a = false := by
      cases e : szF (Nf (N : Int) P) k a with
      | false => rfl
      | true => rw [NF_not e] at e1; cases e1
    rw [h1.2 (.inl e1), e2]; rfl
  | false =>
    cases e2 : szF (Nf (N : Int) P) k a with
    | true => rw [h1.2 (.inr e2)]; rfl
    | false =>
      cases e3 : szF (Uf (N : Int)) k a with
      | false => rfl
      | true => rcases h1.1 e3 with h' | h' <;> simp_all
/-- Holes of a complex, holes of its dual. -/
theorem alex_holes {N : Nat} {P Q : Int → Bool} (hc : Cpx N P) (h : DualP N P Q) {k j : Nat} (hjk : j + k + 1 = N) : holeAt P 2 k = holeAt Q 2 j := by
  have h2 : PrimeP 2 := .inl rfl
  have a1 := alex h2 hc k
  have a2 := alex h2 hc (k + 1)
  have r1 := rk_dual h (j := j) (k := k + 2) (by omega)
  have r2 := rk_dual h (j := j + 1) (k := k + 1) (by omega)
  have c1 := cnt_dual h (j := j) (k := k + 1) (by omega)
  have c2 := cnt_all hc (k + 1)
  have u := cone_rk h2 (Uf_dn N) (Uf_cone hc.n1 hc.n6) (k + 1)
  rw [holeAt_eq, holeAt_eq, r1, r2, c1]
  rw [show k + 1 + 1 = k + 2 from rfl] at a2 u
  omega

/-! ### The dual as a list -/

theorem cpx_dn {n : Int} {xs : List Int} (hc : IsC n xs) : Cpx n (dn (mem xs)) := ⟨hc.1, hc.2.1, dn_Dn _, fun s hs h => dn_lt hc (by omega) (by omega) h⟩
theorem dual_dn {n : Int} {xs : List Int} (hc : IsC n xs) {s : Int} (s0 : 0 ≤ s) (s1 : s < 64) : dn (mem (dualL n xs)) s = upToP (pw n) (dualP n (dn (mem xs))) s := by
  have n0 : 0 ≤ n := by have := hc.1; omega
  have h64 := pw_rng n0 hc.2.1
  rw [dualL, dn_congr (fun t t0 t1 => mem_maxL (P := upToP (pw n) (dualP n (dn (mem xs)))) t0 t1) s, dn_maxP]
  refine dn_self (fun a b a0 a1 b0 b1 hb hab => ?_) s0 s1
  simp only [upToP, dualP, Bool.and_eq_true, decide_eq_true_eq, Bool.not_eq_true'] at hb ⊢
  have hle := sub_leM a0 a1 b0 b1 hab
  refine ⟨by omega, ?_⟩
  have hs := sub_comp n0 hc.2.1 a0 (by omega) b0 hb.1 hab
  cases e : dn (mem xs) (compN n a) with
  | false => rfl
  | true => rw [dn_down e hs] at hb; cases hb.2
theorem dual_isC {n : Int} {xs : List Int} (hc : IsC n xs) : IsC n (dualL n xs) := isC_maxL hc.1 hc.2.1 fun s _ _ h => by
  rw [upToP, Bool.and_eq_true, decide_eq_true_eq] at h; exact h.1
theorem dual_P {n : Int} {xs : List Int} (hc : IsC n xs) : DualP n.toNat (dn (mem xs)) (dn (mem (dualL n xs))) := by
  have n0 : 0 ≤ n := by have := hc.1; omega
  have h64 := pw_rng n0 hc.2.1
  have en : ((n.toNat : Nat) : Int) = n := by omega
  have hp : pw n = ((2 ^ n.toNat : Nat) : Int) := by rw [← pw_nat, en]
  refine ⟨by have := hc.2.1; omega, fun s hs => ?_⟩
  rw [dual_dn hc (by omega) (by omega)]
  simp only [upToP, dualP, Bool.and_eq_true, decide_eq_true_eq, Bool.not_eq_true']
  constructor
  · rintro ⟨h1, h2⟩
    have e : compN n (s : Int) = ((cmN n.toNat s : Nat) : Int) := by unfold compN cmN; omega
    rw [e] at h2
    exact ⟨by omega, h2⟩
  · rintro ⟨h1, h2⟩
    have e : compN n (s : Int) = ((cmN n.toNat s : Nat) : Int) := by unfold compN cmN; omega
    rw [← e] at h2
    exact ⟨by omega, h2⟩
theorem dual_dual {n : Int} {xs : List Int} (hc : IsC n xs) : dualL n (dualL n xs) = xs := by
  have n0 : 0 ≤ n := by have := hc.1; omega
  have h64 := pw_rng n0 hc.2.1
  refine Eq.trans (Eq.trans (maxL_congr (Q := dn (mem xs)) fun s s0 s1 => ?_) (maxL_of_dn fun s s0 s1 => ?_)) (maxL_self hc)
  · by_cases h : s < pw n
    · have hr := compN_rng s0 h
      have e : compN n (compN n s) = s := by unfold compN; omega
      simp only [upToP, dualP, dual_dn hc hr.1 (show compN n s < 64 by omega), e]
      simp [h, hr.2]
    · cases e : dn (mem xs) s with
      | true => exact absurd (dn_lt hc s0 s1 e) h
      | false => simp [upToP, h]
  · exact dn_self (fun a b _ _ _ _ hb hab => dn_down hb hab) s0 s1
theorem fos_len {n : Int} {xs : List Int} (hc : IsC n xs) (k : Nat) : (fosB n xs (k : Int)).length = fcN (dn (mem xs)) k := by
  rw [fosB, if_pos (isC_iff.2 hc), cnt_row]; rfl
theorem choose_fin : ∀ n : Fin 7, ∀ k : Fin 7, k.val ≤ n.val → ((cntQ (szF (Uf (n.val : Int)) k.val) 64 : Nat) : Int) = chooseB (n.val : Int) (k.val : Int) := by decide +kernel
theorem dual_count {n : Int} {xs : List Int} (hc : IsC n xs) {k : Nat} (hk : (k : Int) ≤ n) : ((fosB n xs (k : Int)).length : Int) + ((fosB n (dualL n xs) (n - (k : Int))).length : Int) = chooseB n (k : Int) := by
  have n1 := hc.1
  have n6 := hc.2.1
  have en : ((n.toNat : Nat) : Int) = n := by omega
  obtain ⟨j, hj⟩ : ∃ j : Nat, n - (k : Int) = j := ⟨(n - k).toNat, by omega⟩
  rw [hj, fos_len hc, fos_len (dual_isC hc), cnt_dual (dual_P hc) (j := j) (k := k) (by omega)]
  have hx := cpx_dn hc
  rw [← en] at hx
  have h1 := cnt_all hx k
  have h2 := choose_fin ⟨n.toNat, by omega⟩ ⟨k, by omega⟩ (by show k ≤ n.toNat; omega)
  simp only [en] at h2
  rw [← h2]
  have h3 : fcN (Uf ((n.toNat : Nat) : Int)) k = cntQ (szF (Uf n) k) 64 := by rw [en]; rfl
  rw [← h3, ← h1]
  push_cast; rfl
/-- A number of the list, nothing outside. -/
def atB (L : List Int) (i : Int) : Int := if i < 0 ∨ (L.length : Int) ≤ i then 0 else gi L i.toNat
theorem atB_nat (L : List Int) (i : Nat) : atB L (i : Int) = gi L i := by
  unfold atB
  by_cases h : (L.length : Int) ≤ i
  · rw [if_pos (.inr h), gi_out (by omega)]
  · rw [if_neg (by omega), Int.toNat_natCast]
theorem pc_zero_dm : ∀ s : Fin 64, pc (s.val : Int) = 0 → s.val = 0 := by decide +kernel
theorem holeAt_none {P : Int → Bool} (p : Int) {j : Nat} (h : sizesN P ≤ j) : holeAt P p j = 0 := by
  rw [holeAt, hRk_out p h, hRk_out p (by omega), rowTo_none (.inr (by omega))]; rfl
theorem prime2 : primeB 2 = true := by decide
theorem holesB_at {n : Int} {xs : List Int} (hc : IsC n xs) (j : Nat) : gi (holesB n xs 2) j = holeAt (dn (mem xs)) 2 j := by
  rw [holesB, if_pos ⟨isC_iff.2 hc, prime2⟩]
  by_cases hj : j < sizesN (dn (mem xs))
  · rw [holeTo_gi hj]
  · rw [gi_out (by rw [holeTo_len]; omega), holeAt_none 2 (by omega)]
theorem dual_holes {n : Int} {xs : List Int} (hc : IsC n xs) {k : Nat} (hk : (k : Int) ≤ n) (hb : 0 < (holesB n (dualL n xs) 2).length) : atB (holesB n xs 2) (k : Int) = atB (holesB n (dualL n xs) 2) (n - 1 - (k : Int)) := by
  have n1 := hc.1
  have n6 := hc.2.1
  have hd := dual_isC hc
  have en : ((n.toNat : Nat) : Int) = n := by omega
  have hx := cpx_dn hc
  rw [← en] at hx
  rw [atB_nat, holesB_at hc]
  by_cases e : (k : Int) = n
  · have e1 : atB (holesB n (dualL n xs) 2) (n - 1 - (k : Int)) = 0 := if_pos (.inl (by omega))
    rw [e1]
    -- no face has all points: else the dual is empty
    refine holeAt_none 2 ?_
    refine Classical.byContradiction fun hlt => ?_
    have hs : sizesN (dn (mem (dualL n xs))) = 0 := by
      have h1 : topN (dn (mem xs)) 64 ≥ n := by have := sizesN_eq (dn (mem xs)); omega
      have hfull : dn (mem xs) (pw n - 1) = true := by
        refine Classical.byContradiction fun hn => ?_
        have := topN_le (P := dn (mem xs)) (B := n - 1) (by omega) (s := 64) fun t ht hp => by
          have hlt2 := hx.lt t ht hp
          rw [pw_nat] at hlt2
          have h64 := pow_le64 (show n.toNat ≤ 6 by omega)
          have hc1 := (cm_facts (N := n.toNat) (s := t) (t := t) (by omega) (by omega) (by omega)).1
          have hpc := pc_rng ((cmN n.toNat t : Nat) : Int)
          by_cases hz : cmN n.toNat t = 0
          · exfalso
            apply hn
            have : pw n - 1 = (t : Int) := by
              have : pw n = ((2 ^ n.toNat : Nat) : Int) := by rw [← pw_nat, en]
              unfold cmN at hz; omega
            rw [this]; exact hp
          · have hz2 : pc ((cmN n.toNat t : Nat) : Int) ≠ 0 := fun h0 => hz (by
              have := cmN_lt (N := n.toNat) t
              exact pc_zero_dm ⟨cmN n.toNat t, by omega⟩ h0)
            omega
        omega
      have h0 := topN_le (P := dn (mem (dualL n xs))) (B := -1) (by omega) (s := 64) fun t ht hp => by
        exfalso
        have h64 := pw_rng (show 0 ≤ n by omega) n6
        rw [dual_dn hc (by omega) (by omega)] at hp
        simp only [upToP, dualP, Bool.and_eq_true, decide_eq_true_eq, Bool.not_eq_true'] at hp
        have hcp := compN_rng (show (0 : Int) ≤ t by omega) hp.1
        have hsub : sub (compN n t) (pw n - 1) = true := by
          have := sub_comp (n := n) (by omega) n6 (a := 0) (b := t) (by omega) (by omega) (by omega) hp.1 (by simp [sub])
          have e9 : compN n 0 = pw n - 1 := by unfold compN; omega
          rwa [e9] at this
        rw [dn_down hfull hsub] at hp
        cases hp.2
      have := sizesN_eq (dn (mem (dualL n xs)))
      omega
    rw [holesB, if_pos ⟨isC_iff.2 hd, prime2⟩, holeTo_len, hs] at hb
    omega
  · obtain ⟨j, hj⟩ : ∃ j : Nat, n - 1 - (k : Int) = j := ⟨(n - 1 - k).toNat, by omega⟩
    rw [hj, atB_nat, holesB_at hd]
    exact alex_holes hx (dual_P hc) (by omega)

/-! ### Covers -/

theorem cover_fin : ∀ n : Fin 7, ∀ s t : Fin 64, s.val < 2 ^ n.val → t.val < 2 ^ n.val → (bits .and .i64 ((2 ^ n.val - 1 - s.val : Nat) : Int) (t.val : Int) != 0) = !sub (t.val : Int) (s.val : Int) := by decide +kernel
theorem cover_comp {n : Int} {sets : List Int} (h : AreS n sets) {s : Int} (s0 : 0 ≤ s) (s1 : s < pw n) : coverP sets (compN n s) = avoidP sets s := by
  have n0 : 0 ≤ n := by have := h.1; omega
  have h64 := pw_rng n0 h.2.1
  have hp : pw n = ((2 ^ n.toNat : Nat) : Int) := by rw [← pw_nat]; congr 1; omega
  unfold coverP avoidP
  rw [List.not_any_eq_all_not]
  have : ∀ t ∈ sets, (bits .and .i64 (compN n s) t != 0) = !sub t s := fun t ht => by
    have ht2 := h.2.2.2 t ht
    have hf := cover_fin ⟨n.toNat, by have := h.2.1; omega⟩ ⟨s.toNat, by omega⟩ ⟨t.toNat, by omega⟩ (by show s.toNat < 2 ^ n.toNat; omega) (by show t.toNat < 2 ^ n.toNat; omega)
    simp only at hf
    have e1 : ((2 ^ n.toNat - 1 - s.toNat : Nat) : Int) = compN n s := by unfold compN; omega
    rw [e1, Int.toNat_of_nonneg s0, Int.toNat_of_nonneg ht2.1] at hf
    exact hf
  rw [Bool.eq_iff_iff, List.all_eq_true, List.all_eq_true]
  exact ⟨fun h' t ht => by rw [← this t ht]; exact h' t ht, fun h' t ht => by rw [this t ht]; exact h' t ht⟩
/-- Facets' complements are the least covers. -/
theorem covers_law {n : Int} {sets : List Int} (h : AreS n sets) : setsL (mem ((fromL n sets).map (complB n))) = covB n sets := by
  have n0 : 0 ≤ n := by have := h.1; omega
  have n6 := h.2.1
  have h64 := pw_rng n0 n6
  rw [covB, if_pos h, minL]
  refine setsL_congr fun s s0 s1 => bool_ext ?_
  rw [mem_iff, List.mem_map]
  have inF : ∀ f, f ∈ fromL n sets ↔ 0 ≤ f ∧ f < 64 ∧ maxP (avoN n sets) f = true := fun f => mem_setsL
  constructor
  · rintro ⟨f, hf, rfl⟩
    obtain ⟨f0, f1, hm⟩ := (inF f).1 hf
    obtain ⟨m1, m2⟩ := maxP_iff.1 hm
    have hlt : f < pw n := (avoN_iff.1 m1).1
    rw [complB_set n0 n6 f0 hlt] at s0 s1 ⊢
    have hcr := compN_rng f0 hlt
    refine minP_iff.2 ⟨?_, fun t t0 t1 ht hts => ?_⟩
    · simp only [upToP, Bool.and_eq_true, decide_eq_true_eq]
      refine ⟨hcr.2, ?_⟩
      rw [cover_comp h f0 hlt]
      have := m1
      rw [avoN, upToP, Bool.and_eq_true] at this
      exact this.2
    · simp only [upToP, Bool.and_eq_true, decide_eq_true_eq] at ht
      have htr := compN_rng t0 ht.1
      have e2 : compN n (compN n t) = t := by unfold compN; omega
      have e3 : compN n (compN n f) = f := by unfold compN; omega
      have hs2 := sub_comp n0 n6 t0 ht.1 hcr.1 hcr.2 hts
      rw [e3] at hs2
      have hav : avoN n sets (compN n t) = true := by
        rw [avoN, upToP, Bool.and_eq_true, decide_eq_true_eq]
        refine ⟨htr.2, ?_⟩
        rw [← cover_comp h htr.1 htr.2, e2]; exact ht.2
      have := m2 (compN n t) htr.1 (by omega) hav hs2
      rw [← e2, this]
  · intro hm
    obtain ⟨m1, m2⟩ := minP_iff.1 hm
    simp only [upToP, Bool.and_eq_true, decide_eq_true_eq] at m1
    have hcr := compN_rng s0 m1.1
    have e2 : compN n (compN n s) = s := by unfold compN; omega
    refine ⟨compN n s, (inF _).2 ⟨hcr.1, by omega, maxP_iff.2 ⟨?_, fun t t0 t1 ht hst => ?_⟩⟩, by rw [complB_set n0 n6 hcr.1 hcr.2, e2]⟩
    · rw [avoN, upToP, Bool.and_eq_true, decide_eq_true_eq]
      refine ⟨hcr.2, ?_⟩
      rw [← cover_comp h hcr.1 hcr.2, e2]; exact m1.2
    · have htl : t < pw n := (avoN_iff.1 ht).1
      have htr := compN_rng t0 htl
      have hs2 := sub_comp n0 n6 hcr.1 hcr.2 t0 htl hst
      rw [e2] at hs2
      have e3 : compN n (compN n t) = t := by unfold compN; omega
      have := m2 (compN n t) htr.1 (by omega) (by
        simp only [upToP, Bool.and_eq_true, decide_eq_true_eq]
        refine ⟨htr.2, ?_⟩
        rw [cover_comp h t0 htl]
        rw [avoN, upToP, Bool.and_eq_true] at ht
        exact ht.2) hs2
      rw [← e3, this]

end Go.Proofs.Ytjaofbdfhcgmeaa
