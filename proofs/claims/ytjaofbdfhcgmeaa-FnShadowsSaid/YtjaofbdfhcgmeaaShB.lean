/-
  Kruskal and Katona on at most six points: counts of faces are possible ones; plain law.
-/
import Derived.Test.YtjaofbdfhcgmeaaFaces
import Derived.Test.YtjaofbdfhcgmeaaPoss
namespace Go.Proofs.Ytjaofbdfhcgmeaa
open Go.RowKit

/-! ### Counting -/

def cq (f : Nat → Bool) : Nat → Nat
  | 0 => 0
  | n + 1 => cq f n + (f n).toNat
theorem cq_split (f : Nat → Bool) (a : Nat) : ∀ b, cq f (a + b) = cq f a + cq (fun k => f (a + k)) b
  | 0 => rfl
  | b + 1 => by rw [← Nat.add_assoc, cq, cq_split f a b, cq]; omega
theorem cq_same {f g : Nat → Bool} : ∀ n, (∀ a, a < n → f a = g a) → cq f n = cq g n
  | 0, _ => rfl
  | n + 1, h => by rw [cq, cq, cq_same n (fun a ha => h a (by omega)), h n (by omega)]
theorem cq_none {f : Nat → Bool} : ∀ n, (∀ a, a < n → f a = false) → cq f n = 0
  | 0, _ => rfl
  | n + 1, h => by rw [cq, cq_none n (fun a ha => h a (by omega)), h n (by omega)]; rfl
theorem cq_le {f g : Nat → Bool} : ∀ n, (∀ a, a < n → f a = true → g a = true) → cq f n ≤ cq g n
  | 0, _ => Nat.le_refl _
  | n + 1, h => by
    have h1 := cq_le n fun a ha => h a (by omega)
    have h2 := h n (by omega)
    rw [cq, cq]
    cases e : f n with
    | false => simp only [Bool.toNat_false]; omega
    | true => rw [h2 e]; omega
theorem cq_pos {f : Nat → Bool} {a : Nat} (h : f a = true) : ∀ n, a < n → 1 ≤ cq f n
  | n + 1, hn => by
    rw [cq]
    by_cases e : a = n
    · subst e; rw [h]; simp
    · have := cq_pos h n (by omega); omega
theorem row_cq (P : Int → Bool) (k : Nat) : ∀ n, (rowTo P (k : Int) n).length = cq (fun s => P (s : Int) && decide (pcN s = k)) n
  | 0 => rfl
  | n + 1 => by
    rw [rowTo, cq, ← row_cq P k n]
    have hpc : pc (n : Int) = (pcN n : Int) := rfl
    by_cases e : P (n : Int) = true ∧ pc (n : Int) = (k : Int)
    · have e2 : pcN n = k := by have := e.2; omega
      rw [if_pos e, e.1, decide_eq_true e2]; simp
    · rw [if_neg e]
      cases hP : P (n : Int) with
      | false => simp
      | true =>
        have e2 : ¬ pcN n = k := fun h => e ⟨hP, by omega⟩
        simp [e2]

/-! ### The bound as a table -/

def phT : List (List Nat) := [[0, 0, 0, 0, 0, 0, 0, 0, 0, 0, 0, 0, 0, 0, 0, 0, 0, 0, 0, 0, 0, 0, 0, 0, 0, 0, 0, 0, 0, 0, 0, 0, 0, 0, 0, 0, 0, 0, 0, 0, 0], [0, 1, 1, 1, 1, 1, 1, 1, 1, 1, 1, 1, 1, 1, 1, 1, 1, 1, 1, 1, 1, 1, 1, 1, 1, 1, 1, 1, 1, 1, 1, 1, 1, 1, 1, 1, 1, 1, 1, 1, 1], [0, 2, 3, 3, 4, 4, 4, 5, 5, 5, 5, 6, 6, 6, 6, 6, 7, 7, 7, 7, 7, 7, 8, 8, 8, 8, 8, 8, 8, 9, 9, 9, 9, 9, 9, 9, 9, 10, 10, 10, 10], [0, 3, 5, 6, 6, 8, 9, 9, 10, 10, 10, 12, 13, 13, 14, 14, 14, 15, 15, 15, 15, 17, 18, 18, 19, 19, 19, 20, 20, 20, 20, 21, 21, 21, 21, 21, 23, 24, 24, 25, 25], [0, 4, 7, 9, 10, 10, 13, 15, 16, 16, 18, 19, 19, 20, 20, 20, 23, 25, 26, 26, 28, 29, 29, 30, 30, 30, 32, 33, 33, 34, 34, 34, 35, 35, 35, 35, 38, 40, 41, 41, 43], [0, 5, 9, 12, 14, 15, 15, 19, 22, 24, 25, 25, 28, 30, 31, 31, 33, 34, 34, 35, 35, 35, 39, 42, 44, 45, 45, 48, 50, 51, 51, 53, 54, 54, 55, 55, 55, 58, 60, 61, 61], [0, 6, 11, 15, 18, 20, 21, 21, 26, 30, 33, 35, 36, 36, 40, 43, 45, 46, 46, 49, 51, 52, 52, 54, 55, 55, 56, 56, 56, 61, 65, 68, 70, 71, 71, 75, 78, 80, 81, 81, 84]]
def phi (k m : Nat) : Nat := (phT.getD k []).getD m 0
set_option maxRecDepth 100000 in
theorem phi_fin : ∀ k : Fin 6, ∀ m : Fin 41, shaB (m.val : Int) ((k.val : Int) + 1) = (phi (k.val + 1) m.val : Int) := by decide +kernel
theorem phi_num : ∀ k : Fin 6, ∀ a b : Fin 21, phi (k.val + 1) (a.val + b.val) ≤ max (phi (k.val + 1) a.val) b.val + phi k.val b.val := by decide +kernel
theorem phi_pos : ∀ k : Fin 6, ∀ m : Fin 21, 0 < m.val → 1 ≤ phi (k.val + 1) m.val := by decide +kernel
theorem phi_mono : ∀ k : Fin 7, ∀ a b : Fin 21, a.val ≤ b.val → phi k.val a.val ≤ phi k.val b.val := by decide +kernel
theorem phi_eq {k m : Nat} (hk : k < 6) (hm : m < 41) : shaB (m : Int) ((k : Int) + 1) = (phi (k + 1) m : Int) := phi_fin ⟨k, hk⟩ ⟨m, hm⟩

/-! ### The theorem -/

def kn (Q : Nat → Bool) (n k : Nat) : Nat := cq (fun s => Q s && decide (pcN s = k)) (2 ^ n)
theorem kn_all : ∀ n k : Fin 7, kn (fun _ => true) n.val k.val ≤ 20 ∧ kn (fun _ => true) n.val 0 = 1 := by decide +kernel
theorem kn_le {Q R : Nat → Bool} {n k : Nat} (h : ∀ s, s < 2 ^ n → Q s = true → R s = true) : kn Q n k ≤ kn R n k :=
  cq_le _ fun s hs e => by
    rw [Bool.and_eq_true] at e ⊢
    exact ⟨h s hs e.1, e.2⟩
theorem kn_20 (Q : Nat → Bool) {n k : Nat} (hn : n ≤ 6) (hk : k ≤ 6) : kn Q n k ≤ 20 :=
  Nat.le_trans (kn_le fun _ _ _ => rfl) (kn_all ⟨n, by omega⟩ ⟨k, by omega⟩).1
def DnQ (Q : Nat → Bool) (n : Nat) : Prop := ∀ s, s < 2 ^ n → Q s = true → ∀ i, i < n → s.testBit i = true → Q (s - 2 ^ i) = true
theorem pc_top_fin : ∀ n : Fin 6, ∀ s : Fin 64, s.val < 2 ^ n.val → pcN (2 ^ n.val + s.val) = pcN s.val + 1 := by decide +kernel
theorem kn_split (Q : Nat → Bool) {n k : Nat} (hn : n < 6) : kn Q (n + 1) (k + 1) = kn Q n (k + 1) + kn (fun s => Q (2 ^ n + s)) n k := by
  unfold kn
  rw [Nat.pow_succ, Nat.mul_two, cq_split]
  congr 1
  exact cq_same _ fun s hs => by
    have h64 : 2 ^ n ≤ 64 := Nat.pow_le_pow_right (n := 2) (by omega) (show n ≤ 6 by omega)
    have := pc_top_fin ⟨n, hn⟩ ⟨s, by omega⟩ hs
    simp only at this
    rw [this]
    congr 1
    exact decide_eq_decide.2 ⟨fun h => by omega, fun h => by omega⟩
theorem kn_split0 (Q : Nat → Bool) {n : Nat} (hn : n < 6) : kn Q (n + 1) 0 = kn Q n 0 := by
  have h0 : cq (fun k => Q (2 ^ n + k) && decide (pcN (2 ^ n + k) = 0)) (2 ^ n) = 0 := cq_none _ fun s hs => by
    have h64 : 2 ^ n ≤ 64 := Nat.pow_le_pow_right (n := 2) (by omega) (show n ≤ 6 by omega)
    have := pc_top_fin ⟨n, hn⟩ ⟨s, by omega⟩ hs
    simp only at this
    rw [this]
    simp
  unfold kn
  rw [Nat.pow_succ, Nat.mul_two, cq_split, h0, Nat.add_zero]
theorem kn_zero (Q : Nat → Bool) (k : Nat) : kn Q 0 (k + 1) = 0 := cq_none _ fun s hs => by
  have : s = 0 := by simpa using hs
  subst this
  have h : pcN 0 = 0 := by decide
  simp [h]
theorem phi_zero : ∀ k : Fin 7, phi k.val 0 = 0 := by decide +kernel
theorem kk : ∀ n, n ≤ 6 → ∀ Q, DnQ Q n → ∀ k, k < 6 → phi (k + 1) (kn Q n (k + 1)) ≤ kn Q n k
  | 0, _, Q, _, k, hk => by
    rw [kn_zero, phi_zero ⟨k + 1, by omega⟩]; exact Nat.zero_le _
  | n + 1, hn, Q, hQ, k, hk => by
    have hp : 2 ^ (n + 1) = 2 ^ n + 2 ^ n := by rw [Nat.pow_succ]; omega
    have dn0 : DnQ Q n := fun s hs hq i hi hb => hQ s (by omega) hq i (by omega) hb
    have dn1 : DnQ (fun s => Q (2 ^ n + s)) n := fun s hs hq i hi hb => by
      have hb2 : (2 ^ n + s).testBit i = true := by rw [Nat.testBit_two_pow_add_gt hi]; exact hb
      have h1 := hQ (2 ^ n + s) (by omega) hq i (by omega) hb2
      have h2 : 2 ^ i ≤ s := Nat.ge_two_pow_of_testBit hb
      show Q (2 ^ n + (s - 2 ^ i)) = true
      rw [show 2 ^ n + (s - 2 ^ i) = 2 ^ n + s - 2 ^ i by omega]
      exact h1
    have below : ∀ s, s < 2 ^ n → Q (2 ^ n + s) = true → Q s = true := fun s hs hq => by
      have hb : (2 ^ n + s).testBit n = true := by
        rw [Nat.testBit_two_pow_add_eq, Nat.testBit_lt_two_pow hs]; rfl
      have := hQ (2 ^ n + s) (by omega) hq n (by omega) hb
      rwa [show 2 ^ n + s - 2 ^ n = s by omega] at this
    have ih0 := kk n (by omega) Q dn0 k hk
    have h1 : kn (fun s => Q (2 ^ n + s)) n k ≤ kn Q n k := kn_le below
    have b0 := kn_20 Q (n := n) (k := k + 1) (by omega) (by omega)
    have b1 := kn_20 (fun s => Q (2 ^ n + s)) (n := n) (k := k) (by omega) (by omega)
    have hnum := phi_num ⟨k, hk⟩ ⟨kn Q n (k + 1), by omega⟩ ⟨kn (fun s => Q (2 ^ n + s)) n k, by omega⟩
    simp only at hnum
    rw [kn_split Q (by omega)]
    cases k with
    | zero =>
      rw [kn_split0 Q (by omega)]
      have h0 : ∀ m : Fin 41, phi 0 m.val = 0 := by decide +kernel
      have h0' := h0 ⟨kn (fun s => Q (2 ^ n + s)) n 0, by omega⟩
      simp only at h0'
      omega
    | succ k =>
      rw [kn_split Q (k := k) (by omega)]
      have ih1 := kk n (by omega) _ dn1 k (by omega)
      omega

/-! ### Counts of faces -/

theorem bit_sub_fin : ∀ s : Fin 64, ∀ i : Fin 6, s.val.testBit i.val = true → sub ((s.val - 2 ^ i.val : Nat) : Int) (s.val : Int) = true := by decide +kernel
theorem dnQ_dn (P : Int → Bool) : DnQ (fun s => dn P (s : Int)) 6 := fun s hs hq i hi hb => by
  have h := bit_sub_fin ⟨s, hs⟩ ⟨i, hi⟩ hb
  rw [dn_iff] at hq ⊢
  obtain ⟨t, t0, t1, t2, t3⟩ := hq
  exact ⟨t, t0, t1, t2, sub_trans h t3⟩
theorem top_has (P : Int → Bool) : ∀ n, topN P n = -1 ∨ ∃ t : Nat, t < n ∧ P (t : Int) = true ∧ pc (t : Int) = topN P n
  | 0 => .inl rfl
  | n + 1 => by
    rw [topN]
    split
    · rename_i h; exact .inr ⟨n, by omega, h.1, rfl⟩
    · rcases top_has P n with h | ⟨t, h1, h2, h3⟩
      · exact .inl h
      · exact .inr ⟨t, by omega, h2, h3⟩
theorem cnt_kn {P : Int → Bool} {k : Nat} (hk : k < sizesN P) : gi (cntS P) k = (kn (fun s => P (s : Int)) 6 k : Int) := by
  rw [cntS, lens_gi (by rw [bySz, bySzTo_len]; exact hk), bySz, bySzTo_get hk, row_cq]; rfl
theorem fv_poss {n : Int} {xs : List Int} (h : 0 < (fvB n xs).length) : Poss 1 afStep (fvB n xs) := by
  have hc : isC n xs = true := by
    cases e : isC n xs with
    | true => rfl
    | false => rw [fvB, e] at h; simp at h
  have ef : fvB n xs = cntS (dn (mem xs)) := by rw [fvB, if_pos hc]
  rw [ef] at h ⊢
  have hD := dnQ_dn (mem xs)
  obtain ⟨P, hP⟩ : ∃ P, dn (mem xs) = P := ⟨_, rfl⟩
  rw [hP] at h ⊢
  have hD' : DnQ (fun s => P (s : Int)) 6 := by rw [← hP]; exact hD
  rw [cntS_len] at h
  have h7 := sizesN_le P
  have hK := kk 6 (by omega) _ hD'
  have hb : ∀ k, k ≤ 6 → kn (fun s => P (s : Int)) 6 k ≤ 20 := fun k hk => kn_20 _ (by omega) hk
  have htop : 1 ≤ kn (fun s => P (s : Int)) 6 (sizesN P - 1) := by
    have he := sizesN_eq P
    rcases top_has P 64 with h1 | ⟨t, t1, t2, t3⟩
    · omega
    · refine cq_pos (a := t) ?_ _ t1
      have : pcN t = sizesN P - 1 := by have e : pc (t : Int) = (pcN t : Int) := rfl; omega
      show (P (t : Int) && decide (pcN t = sizesN P - 1)) = true
      rw [t2, this]; simp
  have hdown : ∀ d, d < sizesN P → 1 ≤ kn (fun s => P (s : Int)) 6 (sizesN P - 1 - d) := by
    intro d
    induction d with
    | zero => intro _; exact htop
    | succ d ih =>
      intro hd
      have h1 := ih (by omega)
      have h2 := hb (sizesN P - 1 - d) (by omega)
      have h3 := phi_pos ⟨sizesN P - 1 - (d + 1), by omega⟩ ⟨kn (fun s => P (s : Int)) 6 (sizesN P - 1 - d), Nat.lt_succ_of_le h2⟩ h1
      have h4 := hK (sizesN P - 1 - (d + 1)) (by omega)
      simp only at h3
      rw [show sizesN P - 1 - (d + 1) + 1 = sizesN P - 1 - d by omega] at h3 h4
      omega
  have hone : ∀ k, k < sizesN P → 1 ≤ kn (fun s => P (s : Int)) 6 k := fun k hk => by
    have := hdown (sizesN P - 1 - k) (by omega)
    rwa [show sizesN P - 1 - (sizesN P - 1 - k) = k by omega] at this
  refine ⟨by rw [cntS_len]; omega, by rw [cntS_len]; omega, ?_, fun j hj => ?_, fun j hj => ?_⟩
  · rw [cnt_kn h]
    have h1 := hone 0 h
    have h2 : kn (fun s => P (s : Int)) 6 0 ≤ kn (fun _ => true) 6 0 := kn_le fun _ _ _ => rfl
    have h3 := (kn_all ⟨6, by omega⟩ ⟨0, by omega⟩).2
    simp only at h3
    omega
  · rw [cntS_len] at hj
    rw [cnt_kn hj]
    have h1 := hone j hj
    have h2 := hb j (by omega)
    omega
  · rw [cntS_len] at hj
    show shaB (gi (cntS P) (j + 1)) ((j : Int) + 1) ≤ gi (cntS P) j
    rw [cnt_kn hj, cnt_kn (by omega)]
    have h2 := hb (j + 1) (by omega)
    rw [phi_eq (by omega) (by omega)]
    have h4 := hK j (by omega)
    omega

end Go.Proofs.Ytjaofbdfhcgmeaa
