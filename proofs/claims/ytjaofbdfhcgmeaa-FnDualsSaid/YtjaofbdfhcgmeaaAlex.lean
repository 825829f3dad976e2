/-
  Ranks of the borders of a complex and of its dual: plain law.
-/
import Derived.Test.YtjaofbdfhcgmeaaDm
import Derived.Test.YtjaofbdfhcgmeaaDual
namespace Go.Proofs.Ytjaofbdfhcgmeaa
open Go.RowKit

/-! ### Two blocks -/

/-- The rows and columns that count. -/
def rst (S T : Nat → Bool) (A : Nat → Nat → Int) (s t : Nat) : Int := if S s = true ∧ T t = true then A s t else 0
def cutL (S : Nat → Bool) (L : Nat → Nat → Int) (i s : Nat) : Int := if S s = true then L i s else 0
def cutR (T : Nat → Bool) (X : Nat → Nat → Int) (t j : Nat) : Int := if T t = true then X t j else 0
theorem mm_cut (m n : Nat) (S T : Nat → Bool) (L A X : Nat → Nat → Int) (i j : Nat) : mm m (cutL S L) (mm n A (cutR T X)) i j = mm m L (mm n (rst S T A) X) i j := by
  unfold mm
  refine sm_congr fun s _ => ?_
  unfold cutL
  by_cases hs : S s = true
  · rw [if_pos hs]
    congr 1
    refine sm_congr fun t _ => ?_
    unfold cutR rst
    by_cases ht : T t = true
    · rw [if_pos ht, if_pos ⟨hs, ht⟩]
    · rw [if_neg ht, if_neg (fun h => ht h.2), Int.mul_zero, Int.zero_mul]
  · rw [if_neg hs, Int.zero_mul, show sm (fun t => rst S T A s t * X t j) n = 0 from Eq.trans (sm_congr (g := fun _ => 0) fun t _ => by unfold rst; rw [if_neg (fun h => hs h.1), Int.zero_mul]) (sm_zero n), Int.mul_zero]
theorem block_ids {p : Int} {m n r1 r2 : Nat} {A : Nat → Nat → Int} {S1 T1 S2 T2 : Nat → Bool} (h1 : HasId p m n r1 (rst S1 T1 A)) (h2 : HasId p m n r2 (rst S2 T2 A))
    (h0 : ∀ s t, s < m → t < n → S2 s = true → T1 t = true → A s t = 0) : HasId p m n (r1 + r2) A := by
  obtain ⟨L1, X1, h1⟩ := h1
  obtain ⟨L2, X2, h2⟩ := h2
  refine two_ids (L1 := cutL S1 L1) (X1 := cutR T1 X1) (L2 := cutL S2 L2) (X2 := cutR T2 X2) (h1.trans (Cg.of_eq fun i j _ _ => (mm_cut m n S1 T1 L1 A X1 i j).symm)) (h2.trans (Cg.of_eq fun i j _ _ => (mm_cut m n S2 T2 L2 A X2 i j).symm)) (Cg.of_eq fun i j _ _ => ?_)
  rw [mm_cut]
  refine (Eq.trans (sm_congr (g := fun _ => 0) fun s hs => ?_) (sm_zero m)).symm
  have : mm n (rst S2 T1 A) X1 s j = 0 := by
    refine Eq.trans (sm_congr (g := fun _ => 0) fun t ht => ?_) (sm_zero n)
    unfold rst
    by_cases h : S2 s = true ∧ T1 t = true
    · rw [if_pos h, h0 s t hs ht h.1 h.2, Int.zero_mul]
    · rw [if_neg h, Int.zero_mul]
  rw [this, Int.mul_zero]
theorem HasId.le_fr {p : Int} (hp : PrimeP p) {m n r s : Nat} {A B : Nat → Nat → Int} (h : HasId p m n r A) (e : Cg p m n A B) (h' : FR p m n s B) : r ≤ s := h.le hp.inv (h'.cg e.symm)

/-! ### Faces, sets that are none, all sets -/

def Uf (n : Int) (s : Int) : Bool := decide (s < pw n)
def Nf (n : Int) (P : Int → Bool) (s : Int) : Bool := decide (s < pw n) && !P s
theorem sub_le_dm : ∀ a b : Fin 64, sub a.val b.val = true → a.val ≤ b.val := by decide +kernel
theorem Uf_dn (n : Int) : Dn (Uf n) := fun s t s0 s1 t0 t1 ht hs => by
  have h := sub_le_dm ⟨s.toNat, by omega⟩ ⟨t.toNat, by omega⟩ (by simp only [Int.toNat_of_nonneg s0, Int.toNat_of_nonneg t0]; exact hs)
  simp only at h
  unfold Uf at ht ⊢
  simp only [decide_eq_true_eq] at ht ⊢
  omega
theorem Uf_cone {n : Int} (n1 : 1 ≤ n) (n6 : n ≤ 6) : ConeAt (Uf n) 0 := ⟨by omega, fun t ht hP h0 => by
  unfold Uf at hP ⊢
  simp only [decide_eq_true_eq] at hP ⊢
  rcases (show n = 1 ∨ n = 2 ∨ n = 3 ∨ n = 4 ∨ n = 5 ∨ n = 6 by omega) with rfl | rfl | rfl | rfl | rfl | rfl <;> simp [pw] at hP ⊢ <;> simp at h0 <;> omega⟩
/-- A complex on n points. -/
structure Cpx (n : Int) (P : Int → Bool) : Prop where
  n1 : 1 ≤ n
  n6 : n ≤ 6
  dn : Dn P
  lt : ∀ s : Nat, s < 64 → P (s : Int) = true → (s : Int) < pw n
theorem sgn_ne {s t : Nat} (h : sgnS (s : Int) (t : Int) ≠ 0) : sub (s : Int) (t : Int) = true := by
  cases e : sub (s : Int) (t : Int) with
  | true => rfl
  | false => exact absurd (sgnS_sub (by rw [e]; simp)) h
/-- The rank of the border of the sets that are no faces. -/
noncomputable def nkN (n : Int) (P : Int → Bool) (p : Int) (k : Nat) : Nat := rkN (Nf n P) p k
theorem DM_idS {P : Int → Bool} (k : Nat) {s t : Nat} (ht : t < 64) : mm 64 (DM P k) (idS (szF P k)) s t = DM P k s t := by
  rw [mm_idS ht]
  by_cases h : szF P k t = true
  · rw [if_pos h]
  · rw [if_neg h]; exact (if_neg fun h' => h (szF_iff.2 h'.2)).symm
theorem DU_face {n : Int} {P : Int → Bool} (h : Cpx n P) (k : Nat) {s t : Nat} (hs : s < 64) (ht : t < 64) (hP : P (t : Int) = true) : DM (Uf n) k s t = DM P k s t := by
  by_cases hk : pc (t : Int) = k
  · have hu : Uf n (t : Int) = true := by have := h.lt t ht hP; unfold Uf; simpa using this
    rw [DM_col (Uf_dn n) hs ht ⟨hu, hk⟩, DM_col h.dn hs ht ⟨hP, hk⟩]
  · unfold DM; rw [if_neg (fun h => hk h.2.2), if_neg (fun h => hk h.2.2)]
theorem DU_idS {n : Int} {P : Int → Bool} (h : Cpx n P) (k : Nat) {s t : Nat} (hs : s < 64) (ht : t < 64) : mm 64 (DM (Uf n) k) (idS (szF P k)) s t = DM P k s t := by
  rw [mm_idS ht]
  by_cases hf : szF P k t = true
  · rw [if_pos hf, DU_face h k hs ht (szF_iff.1 hf).1]
  · rw [if_neg hf]; exact (if_neg fun h' => hf (szF_iff.2 h'.2)).symm
theorem DU_idS_sz {n : Int} {P : Int → Bool} (h : Cpx n P) (k : Nat) {s t : Nat} (ht : t < 64) : mm 64 (idS (szF (Uf n) k)) (idS (szF P k)) s t = idS (szF P k) s t := by
  rw [mm_idS ht]
  by_cases hf : szF P k t = true
  · rw [if_pos hf]
    have hu : szF (Uf n) k t = true := szF_iff.2 ⟨by have := h.lt t ht (szF_iff.1 hf).1; unfold Uf; simpa using this, (szF_iff.1 hf).2⟩
    unfold idS
    by_cases e : s = t
    · subst e; rw [if_pos ⟨hu, rfl⟩, if_pos ⟨hf, rfl⟩]
    · rw [if_neg (fun h => e h.2), if_neg (fun h => e h.2)]
  · rw [if_neg hf]; exact (if_neg fun h' => hf (by rw [← h'.2]; exact h'.1)).symm
/-- The border of all sets, its rows that are no faces. -/
theorem DN_rows {n : Int} {P : Int → Bool} (h : Cpx n P) (k : Nat) {s t : Nat} (hs : s < 64) (ht : t < 64) : (if szF (Nf n P) k s = true then DM (Uf n) (k + 1) s t else 0) = DM (Nf n P) (k + 1) s t := by
  by_cases hf : szF (Nf n P) k s = true
  · rw [if_pos hf]
    obtain ⟨h1, h2⟩ := szF_iff.1 hf
    have h3 : (s : Int) < pw n ∧ P (s : Int) = false := by unfold Nf at h1; simpa using h1
    by_cases hc : Uf n (t : Int) = true ∧ pc (t : Int) = (k + 1 : Nat)
    · rw [DM_col (Uf_dn n) hs ht hc]
      by_cases h0 : sgnS (s : Int) (t : Int) = 0
      · unfold sgn1 DM
        rw [h0]; split <;> split <;> rfl
      · have hsub := sgn_ne h0
        have hPt : P (t : Int) = false := by
          cases e : P (t : Int) with
          | false => rfl
          | true => rw [h.dn _ _ (by omega) (by omega) (by omega) (by omega) e hsub] at h3; cases h3.2
        have hN : Nf n P (t : Int) = true := by
          have := hc.1
          unfold Uf at this
          unfold Nf
          rw [hPt]; simpa using this
        unfold sgn1 DM
        rw [if_pos (by rw [hc.2, h2]; rfl), if_pos ⟨⟨h1, by rw [h2]; rfl⟩, hN, hc.2⟩]
    · have e1 : DM (Uf n) (k + 1) s t = 0 := if_neg fun h' => hc h'.2
      have e2 : DM (Nf n P) (k + 1) s t = 0 := if_neg fun h' => hc ⟨by
        have := h'.2.1
        unfold Nf at this
        unfold Uf
        simp at this ⊢
        exact this.1, h'.2.2⟩
      rw [e1, e2]
  · rw [if_neg hf]
    exact (if_neg fun h' => hf (szF_iff.2 ⟨h'.1.1, by have := h'.1.2; push_cast at this; omega⟩)).symm
theorem NF_not {n : Int} {P : Int → Bool} {k s : Nat} (h : szF (Nf n P) k s = true) : szF P k s = false := by
  cases e : szF P k s with
  | false => rfl
  | true =>
    have h1 := (szF_iff.1 h).1
    unfold Nf at h1
    rw [(szF_iff.1 e).1] at h1
    simp at h1

/-- Cycles and what is no face: no more than the border of all sets. -/
theorem alex_ge {n : Int} {P : Int → Bool} {p : Int} (hp : PrimeP p) (h : Cpx n P) (k : Nat) : fcN P k + nkN n P p (k + 1) ≤ rkN (Uf n) p (k + 1) + rkN P p k := by
  obtain ⟨F, hF⟩ : ∃ F, F = idS (szF P k) := ⟨_, rfl⟩
  have hU := (rkN_rk (P := Uf n) hp (k + 1)).1
  have hD := (rkN_rk (P := P) hp k).1
  have hN := (rkN_rk (P := Nf n P) hp (k + 1)).id hp
  have hc := Uf_cone h.n1 h.n6
  -- the sum and its factors
  have f1 : FR p 64 64 (rkN (Uf n) p (k + 1)) (mm 64 (DM (Uf n) (k + 1)) fun i j => mm 64 (hmM 0) F i j + dl i j) := hU.mmR _
  have f2 : FR p 64 64 (rkN P p k) (mm 64 (hmM 0) (DM P k)) := hD.mmL _
  have f3 := f1.add f2
  have key : ∀ s t, s < 64 → t < 64 → F s t = mm 64 (DM (Uf n) (k + 1)) (mm 64 (hmM 0) F) s t + mm 64 (hmM 0) (DM P k) s t := fun s t hs ht => by
    have e0 : mm 64 (idS (szF (Uf n) k)) F s t = F s t := by rw [hF]; exact DU_idS_sz h k ht
    have e1 : mm 64 (idS (szF (Uf n) k)) F s t = mm 64 (fun i j => mm 64 (mm 64 (DM (Uf n) (k + 1)) (hmM 0)) (idS (szF (Uf n) k)) i j + mm 64 (hmM 0) (DM (Uf n) k) i j) F s t :=
      sm_congr fun u hu => by rw [cone_id (Uf_dn n) hc k hs hu]
    have e2 : mm 64 (fun i j => mm 64 (mm 64 (DM (Uf n) (k + 1)) (hmM 0)) (idS (szF (Uf n) k)) i j + mm 64 (hmM 0) (DM (Uf n) k) i j) F s t = mm 64 (mm 64 (mm 64 (DM (Uf n) (k + 1)) (hmM 0)) (idS (szF (Uf n) k))) F s t + mm 64 (mm 64 (hmM 0) (DM (Uf n) k)) F s t := by
      unfold mm
      rw [← sm_add]; exact sm_congr fun u _ => Int.add_mul _ _ _
    have e3 : mm 64 (mm 64 (mm 64 (DM (Uf n) (k + 1)) (hmM 0)) (idS (szF (Uf n) k))) F s t = mm 64 (DM (Uf n) (k + 1)) (mm 64 (hmM 0) F) s t := by
      rw [mm_assoc 64 64 (mm 64 (DM (Uf n) (k + 1)) (hmM 0))]
      have a2 : ∀ Z : Nat → Nat → Int, mm 64 Z (mm 64 (idS (szF (Uf n) k)) F) s t = mm 64 Z F s t := fun Z => by
        unfold mm
        refine sm_congr fun u _ => ?_
        have : sm (fun k_1 => idS (szF (Uf n) k) u k_1 * F k_1 t) 64 = F u t := by rw [hF]; exact DU_idS_sz h k ht
        rw [this]
      rw [a2, mm_assoc]
    have e4 : mm 64 (mm 64 (hmM 0) (DM (Uf n) k)) F s t = mm 64 (hmM 0) (DM P k) s t := by
      rw [mm_assoc]
      exact sm_congr fun u hu => by
        show hmM 0 s u * mm 64 (DM (Uf n) k) F u t = _
        rw [hF, DU_idS h k hu ht]
    rw [← e0, e1, e2, e3, e4]
  -- the identities
  have b1 : HasId p 64 64 (fcN P k) (rst (fun _ => true) (szF P k) fun s t => F s t + DM (Uf n) (k + 1) s t) := (idS_id (p := p) (szF P k) 64).cg (Cg.of_eq fun s t hs ht => by
    unfold rst
    by_cases hf : szF P k t = true
    · rw [if_pos ⟨rfl, hf⟩]
      show _ = F s t + DM (Uf n) (k + 1) s t
      rw [hF, show DM (Uf n) (k + 1) s t = 0 from if_neg fun h' => by have a := h'.2.2; have b := (szF_iff.1 hf).2; omega, Int.add_zero]
    · rw [if_neg (fun h' => hf h'.2)]
      exact if_neg fun h' => hf (by rw [← h'.2]; exact h'.1))
  have b2 : HasId p 64 64 (nkN n P p (k + 1)) (rst (szF (Nf n P) k) (fun _ => true) fun s t => F s t + DM (Uf n) (k + 1) s t) := hN.cg (Cg.of_eq fun s t hs ht => by
    rw [← DN_rows h k hs ht]
    unfold rst
    by_cases hf : szF (Nf n P) k s = true
    · rw [if_pos hf, if_pos ⟨hf, rfl⟩]
      show _ = F s t + DM (Uf n) (k + 1) s t
      rw [hF, show idS (szF P k) s t = 0 from if_neg fun h' => by rw [NF_not hf] at h'; exact absurd h'.1 (by simp), Int.zero_add]
    · rw [if_neg hf, if_neg (fun h' => hf h'.1)])
  have b3 := block_ids b1 b2 (fun s t hs ht h1 h2 => by
    rw [hF, show idS (szF P k) s t = 0 from if_neg fun h' => by rw [NF_not h1] at h'; exact absurd h'.1 (by simp), show DM (Uf n) (k + 1) s t = 0 from if_neg fun h' => by have a := h'.2.2; have b := (szF_iff.1 h2).2; omega]
    rfl)
  refine b3.le_fr hp (Cg.of_eq fun s t hs ht => ?_) f3
  rw [mm_add, key s t hs ht, mm_dl _ ht]
  omega
/-- And no less. -/
theorem alex_le {n : Int} {P : Int → Bool} {p : Int} (hp : PrimeP p) (h : Cpx n P) (k : Nat) : rkN (Uf n) p (k + 1) + rkN P p k ≤ fcN P k + nkN n P p (k + 1) := by
  obtain ⟨F, hF⟩ : ∃ F, F = idS (szF P k) := ⟨_, rfl⟩
  obtain ⟨G, hG⟩ : ∃ G, G = DM (Uf n) (k + 1) := ⟨_, rfl⟩
  have hN := (rkN_rk (P := Nf n P) hp (k + 1)).1
  have hU := (rkN_rk (P := Uf n) hp (k + 1)).id hp
  have hD := (rkN_rk (P := P) hp k).id hp
  have b1 : HasId p 64 64 (rkN (Uf n) p (k + 1)) (rst (fun _ => true) (szF (Uf n) (k + 1)) fun s t => F s t + DM P k s t + G s t) := hU.cg (Cg.of_eq fun s t hs ht => by
    unfold rst
    by_cases hf : szF (Uf n) (k + 1) t = true
    · have hpc := (szF_iff.1 hf).2
      rw [if_pos ⟨rfl, hf⟩]
      show _ = F s t + DM P k s t + G s t
      rw [hF, hG, show DM P k s t = 0 from if_neg fun h' => by have a := h'.2.2; omega, show idS (szF P k) s t = 0 from if_neg fun h' => by have a := (szF_iff.1 h'.1).2; rw [h'.2] at a; omega]
      omega
    · rw [if_neg (fun h' => hf h'.2)]
      exact if_neg fun h' => hf (szF_iff.2 h'.2))
  have b2 : HasId p 64 64 (rkN P p k) (rst (fun s => pc (s : Int) + 1 == (k : Int)) (szF P k) fun s t => F s t + DM P k s t + G s t) := hD.cg (Cg.of_eq fun s t hs ht => by
    unfold rst
    by_cases hf : szF P k t = true
    · have hpc := (szF_iff.1 hf).2
      by_cases hs1 : pc (s : Int) + 1 = k
      · rw [if_pos ⟨by simpa using hs1, hf⟩]
        show _ = F s t + DM P k s t + G s t
        rw [hF, hG, show DM (Uf n) (k + 1) s t = 0 from if_neg fun h' => by have a := h'.2.2; omega, show idS (szF P k) s t = 0 from if_neg fun h' => by have a := (szF_iff.1 h'.1).2; omega]
        omega
      · rw [if_neg (fun h' => hs1 (by simpa using h'.1))]
        exact if_neg fun h' => hs1 h'.1.2
    · rw [if_neg (fun h' => hf h'.2)]
      exact if_neg fun h' => hf (szF_iff.2 h'.2))
  have b3 := block_ids b1 b2 (fun s t hs ht h1 h2 => by
    have hs1 : pc (s : Int) + 1 = k := by simpa using h1
    have hpc := (szF_iff.1 h2).2
    rw [hF, hG, show DM P k s t = 0 from if_neg fun h' => by have a := h'.2.2; omega, show idS (szF P k) s t = 0 from if_neg fun h' => by have a := (szF_iff.1 h'.1).2; omega, show DM (Uf n) (k + 1) s t = 0 from if_neg fun h' => by have a := h'.1.2; omega]
    rfl)
  -- the factors
  obtain ⟨K, hK⟩ : ∃ K : Nat → Nat → Int, K = DM (Nf n P) (k + 1) := ⟨_, rfl⟩
  have hGK : ∀ s t, s < 64 → t < 64 → G s t = mm 64 F G s t + K s t := fun s t hs ht => by
    rw [hF, idS_mm hs, hK, ← DN_rows h k hs ht, hG]
    by_cases h1 : szF P k s = true
    · rw [if_pos h1, if_neg (fun h2 => by rw [NF_not h2] at h1; cases h1)]; omega
    · rw [if_neg h1]
      by_cases h2 : szF (Nf n P) k s = true
      · rw [if_pos h2]; omega
      · rw [if_neg h2]
        have : DM (Uf n) (k + 1) s t = 0 := if_neg fun h' => by
          have a := h'.1.1
          have b := h'.1.2
          have hk : pc (s : Int) = k := by push_cast at b; omega
          cases e : P (s : Int) with
          | true => exact h1 (szF_iff.2 ⟨e, hk⟩)
          | false => exact h2 (szF_iff.2 ⟨by unfold Nf; rw [e]; unfold Uf at a; simpa using a, hk⟩)
        omega
  have hDG : ∀ s t, s < 64 → t < 64 → mm 64 (DM P k) G s t = - mm 64 (DM (Uf n) k) K s t := fun s t hs ht => by
    have e1 : mm 64 (DM (Uf n) k) G s t = 0 := by rw [hG]; exact DM_DM (Uf_dn n) k hs ht
    have e2 : mm 64 (DM (Uf n) k) G s t = mm 64 (DM (Uf n) k) (mm 64 F G) s t + mm 64 (DM (Uf n) k) K s t := by
      rw [← mm_add]
      exact sm_congr fun u hu => by rw [hGK u t hu ht]
    have e3 : mm 64 (DM (Uf n) k) (mm 64 F G) s t = mm 64 (DM P k) G s t := by
      rw [← mm_assoc]
      exact sm_congr fun u hu => by
        show mm 64 (DM (Uf n) k) F s u * G u t = _
        rw [hF, DU_idS h k hs hu]
    omega
  have f1 : FR p 64 64 (fcN P k) (mm 64 (fun i j => DM P k i j + F i j) (mm 64 F fun i j => dl i j + G i j)) := by
    have := (idS_fr p (szF P k) 64).mmR (n := 64) (fun i j => dl i j + G i j)
    rw [hF]; exact this.mmL _
  have f2 : FR p 64 64 (nkN n P p (k + 1)) (mm 64 (fun i j => dl i j + DM (Uf n) k i j) K) := by rw [hK]; exact hN.mmL _
  refine b3.le_fr hp (Cg.of_eq fun s t hs ht => ?_) (f1.add f2)
  have add_mm : ∀ (A B C : Nat → Nat → Int) (i j : Nat), mm 64 (fun i j => A i j + B i j) C i j = mm 64 A C i j + mm 64 B C i j := fun A B C i j => by
    unfold mm
    rw [← sm_add]; exact sm_congr fun u _ => Int.add_mul _ _ _
  have g1 : ∀ u, u < 64 → mm 64 F (fun i j => dl i j + G i j) u t = F u t + mm 64 F G u t := fun u _ => by rw [mm_add, mm_dl _ ht]
  have g2 : mm 64 (fun i j => DM P k i j + F i j) (mm 64 F fun i j => dl i j + G i j) s t = mm 64 (fun i j => DM P k i j + F i j) (fun i j => F i j + mm 64 F G i j) s t := sm_congr fun u hu => by
    show _ * mm 64 F (fun i j => dl i j + G i j) u t = _
    rw [g1 u hu]
  have g3 : mm 64 (DM P k) F s t = DM P k s t := by rw [hF]; exact DM_idS k ht
  have g4 : mm 64 F F s t = F s t := by
    rw [hF, idS_mm hs]
    by_cases e : szF P k s = true
    · rw [if_pos e]
    · rw [if_neg e]; exact (if_neg fun h' => e h'.1).symm
  have g5 : mm 64 (DM P k) (mm 64 F G) s t = mm 64 (DM P k) G s t := by
    rw [← mm_assoc]
    exact sm_congr fun u hu => by
      show mm 64 (DM P k) F s u * G u t = _
      rw [hF, DM_idS k hu]
  have g6 : mm 64 F (mm 64 F G) s t = mm 64 F G s t := by
    rw [hF, idS_mm hs, idS_mm hs]
    by_cases e : szF P k s = true <;> simp [e]
  rw [g2, add_mm, mm_add, mm_add, g3, g4, g5, g6, add_mm, dl_mm _ hs, hGK s t hs ht, hDG s t hs ht]
  omega
theorem alex {n : Int} {P : Int → Bool} {p : Int} (hp : PrimeP p) (h : Cpx n P) (k : Nat) : nkN n P p (k + 1) + fcN P k = rkN (Uf n) p (k + 1) + rkN P p k := by
  have h1 := alex_ge hp h k
  have h2 := alex_le hp h k
  omega

end Go.Proofs.Ytjaofbdfhcgmeaa
