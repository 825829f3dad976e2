/-
  A compressed complex has the counts that it is made of; plain law.
-/
import Derived.Test.YtjaofbdfhcgmeaaShB
import Derived.Test.YtjaofbdfhcgmeaaComp
import Derived.Test.YtjaofbdfhcgmeaaMax
namespace Go.Proofs.Ytjaofbdfhcgmeaa
open Go.RowKit

/-- How many sets of the same size lie before s. -/
def rkS (s : Nat) : Nat := cq (fun t => decide (pcN t = pcN s)) s
theorem row_fs (P : Int → Bool) (k m : Nat) : ∀ n, (∀ s, s < n → pcN s = k → (P (s : Int) = true ↔ rkS s < m)) → rowTo P (k : Int) n = fsTo (k : Int) m n ∧ (fsTo (k : Int) m n).length = min m (cq (fun t => decide (pcN t = k)) n)
  | 0, _ => ⟨rfl, by simp [fsTo, cq]⟩
  | n + 1, h => by
    obtain ⟨h1, h2⟩ := row_fs P k m n fun s hs => h s (by omega)
    have hpc : pc (n : Int) = (pcN n : Int) := rfl
    rw [rowTo, fsTo, cq, h1]
    by_cases e : pcN n = k
    · have h3 := h n (by omega) e
      have e4 : rkS n = cq (fun t => decide (pcN t = k)) n := by rw [rkS, e]
      have e5 : pc (n : Int) = (k : Int) := by omega
      have e6 : decide (pcN n = k) = true := by simp [e]
      rw [e4] at h3
      by_cases e3 : cq (fun t => decide (pcN t = k)) n < m
      · rw [if_pos ⟨h3.2 e3, e5⟩, if_pos ⟨by omega, e5⟩, e6]
        refine ⟨rfl, ?_⟩
        rw [List.length_append, h2]
        simp
        omega
      · rw [if_neg (fun h' => e3 (h3.1 h'.1)), if_neg (fun h' => by have := h'.1; omega), e6]
        refine ⟨rfl, ?_⟩
        rw [h2]; simp; omega
    · have e5 : ¬ pc (n : Int) = (k : Int) := by omega
      have e6 : decide (pcN n = k) = false := by simp [e]
      rw [if_neg (fun h' => e5 h'.2), if_neg (fun h' => e5 h'.2), e6]
      exact ⟨rfl, by rw [h2]; simp⟩
def rkP (m : Nat) (s : Int) : Bool := decide (rkS s.toNat < m)
theorem rkP_iff {m s : Nat} : rkP m (s : Int) = true ↔ rkS s < m := by simp [rkP]
theorem ch_cq : ∀ k : Fin 7, chooseB 6 (k.val : Int) = (cq (fun t => decide (pcN t = k.val)) 64 : Int) := by decide +kernel
theorem mem_fsB {k s : Nat} {m : Int} (hk : k ≤ 6) (m0 : 0 ≤ m) (hm : m ≤ chooseB 6 k) (hs : s < 64) : (s : Int) ∈ fsB k m ↔ pcN s = k ∧ (rkS s : Int) < m := by
  have ok : fsOk (k : Int) m := ⟨by omega, by omega, m0, hm⟩
  have h := (row_fs (rkP m.toNat) k m.toNat 64 fun s _ _ => rkP_iff).1
  rw [fsB, if_pos ok, ← h, mem_rowTo, rkP_iff]
  have hpc : pc (s : Int) = (pcN s : Int) := rfl
  constructor
  · rintro ⟨_, _, h1, h2⟩; exact ⟨by omega, by omega⟩
  · rintro ⟨h1, h2⟩; exact ⟨by omega, by omega, by omega, by omega⟩
theorem mem_cmp {xs : List Int} {x : Int} : ∀ j, x ∈ cmpTo xs j ↔ ∃ k, k < j ∧ x ∈ fsB (k : Int) (gi xs k)
  | 0 => by simp [cmpTo]
  | j + 1 => by
    rw [cmpTo, List.mem_append, mem_cmp j]
    constructor
    · rintro (⟨k, h1, h2⟩ | h)
      · exact ⟨k, by omega, h2⟩
      · exact ⟨j, by omega, h⟩
    · rintro ⟨k, h1, h2⟩
      by_cases e : k = j
      · subst e; exact .inr h2
      · exact .inl ⟨k, by omega, h2⟩
theorem mem_all {xs : List Int} (h : CmpOk xs) {s : Nat} (hs : s < 64) : mem (cmpTo xs xs.length) (s : Int) = true ↔ pcN s < xs.length ∧ (rkS s : Int) < gi xs (pcN s) := by
  obtain ⟨⟨_, h7, _, hr, _⟩, hc⟩ := h
  rw [mem_iff, mem_cmp]
  constructor
  · rintro ⟨k, h1, h2⟩
    have := (mem_fsB (by omega) (by have := hr k h1; omega) (hc k h1) hs).1 h2
    rw [this.1]; exact ⟨h1, this.2⟩
  · rintro ⟨h1, h2⟩
    exact ⟨pcN s, h1, (mem_fsB (by omega) (by have := hr _ h1; omega) (hc _ h1) hs).2 ⟨rfl, h2⟩⟩
/-- One point less comes early enough. -/
theorem rk_fin : ∀ s : Fin 64, ∀ i : Fin 6, s.val.testBit i.val = true → pcN s.val = pcN (s.val - 2 ^ i.val) + 1 ∧ rkS (s.val - 2 ^ i.val) + 1 ≤ phi (pcN s.val) (rkS s.val + 1) ∧ rkS s.val < 20 := by decide +kernel
theorem less_fin : ∀ s t : Fin 64, sub (t.val : Int) (s.val : Int) = true → t.val ≠ s.val → ∃ i : Fin 6, s.val.testBit i.val = true ∧ sub (t.val : Int) ((s.val - 2 ^ i.val : Nat) : Int) = true := by decide +kernel
theorem cmp_step {xs : List Int} (h : CmpOk xs) {s i : Nat} (hs : s < 64) (hi : i < 6) (hb : s.testBit i = true) (hm : mem (cmpTo xs xs.length) (s : Int) = true) : mem (cmpTo xs xs.length) ((s - 2 ^ i : Nat) : Int) = true := by
  obtain ⟨h1, h2⟩ := (mem_all h hs).1 hm
  have hf := rk_fin ⟨s, hs⟩ ⟨i, hi⟩ hb
  simp only at hf
  obtain ⟨f1, f2, f3⟩ := hf
  rw [mem_all h (Nat.lt_of_le_of_lt (Nat.sub_le _ _) hs)]
  obtain ⟨⟨l1, h7, h0, hr, hst⟩, hc⟩ := h
  obtain ⟨k, hk⟩ : ∃ k, pcN (s - 2 ^ i) = k := ⟨_, rfl⟩
  rw [hk] at f1 ⊢
  rw [f1] at h1 h2 f2
  refine ⟨by omega, ?_⟩
  have st : shaB (gi xs (k + 1)) ((k : Int) + 1) ≤ gi xs k := hst k h1
  have r1 := hr (k + 1) h1
  have c1 := hc (k + 1) h1
  have c2 := ch_cq ⟨k + 1, by omega⟩
  simp only at c2
  rw [c2] at c1
  have c3 : cq (fun t => decide (pcN t = k + 1)) 64 ≤ 20 := by
    have := (kn_all ⟨6, by omega⟩ ⟨k + 1, by omega⟩).1
    simp only [kn, Bool.true_and] at this
    exact this
  obtain ⟨m, hm2⟩ : ∃ m : Nat, gi xs (k + 1) = m := ⟨(gi xs (k + 1)).toNat, by omega⟩
  rw [hm2] at st r1 c1 h2
  rw [phi_eq (by omega) (by omega)] at st
  have mo := phi_mono ⟨k + 1, by omega⟩ ⟨rkS s + 1, by omega⟩ ⟨m, by omega⟩ (by show rkS s + 1 ≤ m; omega)
  simp only at mo
  omega
theorem cmp_down {xs : List Int} (h : CmpOk xs) : ∀ (n s : Nat), s ≤ n → s < 64 → mem (cmpTo xs xs.length) (s : Int) = true → ∀ t : Nat, t < 64 → sub (t : Int) (s : Int) = true → mem (cmpTo xs xs.length) (t : Int) = true
  | n, s, hn, hs, hm, t, ht, hsub => by
    by_cases e : t = s
    · subst e; exact hm
    · obtain ⟨i, hb, hsub2⟩ := less_fin ⟨s, hs⟩ ⟨t, ht⟩ hsub e
      simp only at hb hsub2
      have hge : 2 ^ i.val ≤ s := Nat.ge_two_pow_of_testBit hb
      have hpos := Nat.two_pow_pos i.val
      cases n with
      | zero => omega
      | succ n => exact cmp_down h n (s - 2 ^ i.val) (by omega) (by omega) (cmp_step h hs i.isLt hb hm) t ht hsub2
theorem first_fin : ∀ k : Fin 7, 2 ^ k.val - 1 < 64 ∧ pcN (2 ^ k.val - 1) = k.val ∧ rkS (2 ^ k.val - 1) = 0 := by decide +kernel
theorem cmp_counts {xs : List Int} (h : CmpOk xs) : fvB 6 (cmpL xs) = xs := by
  have hd : ∀ s : Int, 0 ≤ s → s < 64 → dn (mem (cmpL xs)) s = mem (cmpTo xs xs.length) s := fun s s0 s1 => by
    rw [cmpL, dn_congr (fun t t0 t1 => mem_maxL (P := mem (cmpTo xs xs.length)) t0 t1) s, dn_maxP]
    refine dn_self (fun a b a0 a1 b0 b1 hb hab => ?_) s0 s1
    have := cmp_down h b.toNat b.toNat (Nat.le_refl _) (by omega) (by rwa [Int.toNat_of_nonneg b0]) a.toNat (by omega) (by rwa [Int.toNat_of_nonneg a0, Int.toNat_of_nonneg b0])
    rwa [Int.toNat_of_nonneg a0] at this
  have e64 : pw 6 = 64 := by decide
  have hI : IsC 6 (maxL (mem (cmpTo xs xs.length))) := isC_maxL (by omega) (by omega) fun s _ s1 _ => by rw [e64]; exact s1
  have hC : isC 6 (cmpL xs) = true := isC_iff.2 hI
  have hD : ∀ s : Nat, s < 64 → (dn (mem (cmpL xs)) (s : Int) = true ↔ pcN s < xs.length ∧ (rkS s : Int) < gi xs (pcN s)) := fun s hs => by rw [hd s (by omega) (by omega), mem_all h hs]
  rw [fvB, if_pos hC]
  generalize dn (mem (cmpL xs)) = P at hD
  obtain ⟨⟨l1, h7, h0, hr, hst⟩, hc⟩ := h
  have hsz : sizesN P = xs.length := by
    have h1 : topN P 64 ≤ (xs.length : Int) - 1 := topN_le (by omega) fun t ht hp => by
      have := ((hD t ht).1 hp).1
      have e : pc (t : Int) = (pcN t : Int) := rfl
      omega
    obtain ⟨f1, f2, f3⟩ := first_fin ⟨xs.length - 1, by omega⟩
    simp only at f1 f2 f3
    have h2 := topN_ge (P := P) f1 ((hD _ f1).2 (by rw [f2, f3]; have := hr (xs.length - 1) (by omega); exact ⟨by omega, by omega⟩))
    have e : pc ((2 ^ (xs.length - 1) - 1 : Nat) : Int) = (pcN (2 ^ (xs.length - 1) - 1) : Int) := rfl
    have h3 := sizesN_eq P
    omega
  refine gi_ext (by rw [cntS_len, hsz]) fun k hk => ?_
  rw [cntS_len] at hk
  rw [cntS, lens_gi (by rw [bySz, bySzTo_len]; exact hk), bySz, bySzTo_get hk]
  rw [hsz] at hk
  have r1 := hr k hk
  have c1 := hc k hk
  obtain ⟨m, hm⟩ : ∃ m : Nat, gi xs k = m := ⟨(gi xs k).toNat, by omega⟩
  have hrow := row_fs P k m 64 fun s hs e => by
    rw [hD s hs, e, hm]
    exact ⟨fun h' => by omega, fun h' => ⟨hk, by omega⟩⟩
  rw [hrow.1, hrow.2, hm]
  have c2 := ch_cq ⟨k, by omega⟩
  simp only at c2
  rw [c2, hm] at c1
  omega

end Go.Proofs.Ytjaofbdfhcgmeaa
