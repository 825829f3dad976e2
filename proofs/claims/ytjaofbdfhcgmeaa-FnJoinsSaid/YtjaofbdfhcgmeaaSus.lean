/-
  Ranks of the borders of a suspension: plain law.
-/
import Derived.Test.YtjaofbdfhcgmeaaDm
namespace Go.Proofs.Ytjaofbdfhcgmeaa
open Go.RowKit

/-- The sign of t in t with one more point on top (bit n or n + 1). -/
def sA (n t : Nat) : Int := sgnS (t : Int) ((t + 2 ^ n : Nat) : Int)
def sB (n t : Nat) : Int := sgnS (t : Int) ((t + 2 ^ (n + 1) : Nat) : Int)
theorem sus1_fin : ∀ n : Fin 5, ∀ t : Fin 16, t.val < 2 ^ n.val → t.val + 2 ^ n.val < 64 ∧ t.val + 2 ^ (n.val + 1) < 64 ∧ pc ((t.val + 2 ^ n.val : Nat) : Int) = pc (t.val : Int) + 1 ∧ pc ((t.val + 2 ^ (n.val + 1) : Nat) : Int) = pc (t.val : Int) + 1 ∧ sA n.val t.val * sA n.val t.val = 1 ∧ sB n.val t.val * sB n.val t.val = 1 := by decide +kernel
theorem sus2_fin : ∀ n : Fin 5, ∀ s t : Fin 16, s.val < 2 ^ n.val → t.val < 2 ^ n.val → sgn1 s.val (t.val + 2 ^ n.val) = (if s.val = t.val then sA n.val t.val else 0) ∧ sgn1 (s.val + 2 ^ (n.val + 1)) (t.val + 2 ^ n.val) = 0 ∧ sgn1 (s.val + 2 ^ (n.val + 1)) (t.val + 2 ^ (n.val + 1)) * sB n.val t.val = - sB n.val s.val * sgn1 s.val t.val := by decide +kernel
/-- Rows of both cones. -/
def nM (n s u : Nat) : Int := if u < 2 ^ n then (if s = u + 2 ^ n then sA n u else if s = u + 2 ^ (n + 1) then - sB n u else 0) else 0
theorem sus3_fin : ∀ n : Fin 5, ∀ t : Fin 16, ∀ s : Fin 64, t.val < 2 ^ n.val → sB n.val t.val * sgn1 s.val (t.val + 2 ^ (n.val + 1)) - sA n.val t.val * sgn1 s.val (t.val + 2 ^ n.val) = sm (fun u => nM n.val s.val u * sgn1 u t.val) 16 := by decide +kernel
theorem sus4_fin : ∀ n : Fin 5, ∀ t : Fin 16, ∀ s : Fin 64, t.val < 2 ^ n.val → sgn1 s.val t.val = sm (fun u => if u < 2 ^ n.val then sgn1 s.val (u + 2 ^ n.val) * sA n.val u * sgn1 u t.val else 0) 16 := by decide +kernel

/-- Q is the suspension of P, from n points. -/
structure SusP (n : Nat) (P Q : Int → Bool) : Prop where
  n4 : n ≤ 4
  dP : Dn P
  dQ : Dn Q
  lt : ∀ s : Nat, s < 64 → P (s : Int) = true → s < 2 ^ n
  iff : ∀ s : Nat, s < 64 → (Q (s : Int) = true ↔ ∃ t : Nat, t < 2 ^ n ∧ P (t : Int) = true ∧ (s = t ∨ s = t + 2 ^ n ∨ s = t + 2 ^ (n + 1)))
theorem pow16 {n : Nat} (h : n ≤ 4) : 2 ^ n ≤ 16 := Nat.pow_le_pow_right (n := 2) (by omega) h
theorem SusP.f1 {n : Nat} {P Q : Int → Bool} (h : SusP n P Q) {t : Nat} (ht : t < 2 ^ n) : t + 2 ^ n < 64 ∧ t + 2 ^ (n + 1) < 64 ∧ pc ((t + 2 ^ n : Nat) : Int) = pc (t : Int) + 1 ∧ pc ((t + 2 ^ (n + 1) : Nat) : Int) = pc (t : Int) + 1 ∧ sA n t * sA n t = 1 ∧ sB n t * sB n t = 1 := by
  have h16 := pow16 h.n4
  exact sus1_fin ⟨n, by have := h.n4; omega⟩ ⟨t, by omega⟩ ht
theorem SusP.colA {n : Nat} {P Q : Int → Bool} (h : SusP n P Q) {k s t : Nat} (hs : s < 64) (hf : szF P k t = true) (ht : t < 64) : DM Q (k + 1) s (t + 2 ^ n) = sgn1 s (t + 2 ^ n) := by
  obtain ⟨h1, h2⟩ := szF_iff.1 hf
  have hl := h.lt t ht h1
  have hx := h.f1 hl
  exact DM_col h.dQ hs hx.1 ⟨(h.iff _ hx.1).2 ⟨t, hl, h1, .inr (.inl rfl)⟩, by rw [hx.2.2.1, h2]; rfl⟩
theorem SusP.colB {n : Nat} {P Q : Int → Bool} (h : SusP n P Q) {k s t : Nat} (hs : s < 64) (hf : szF P k t = true) (ht : t < 64) : DM Q (k + 1) s (t + 2 ^ (n + 1)) = sgn1 s (t + 2 ^ (n + 1)) := by
  obtain ⟨h1, h2⟩ := szF_iff.1 hf
  have hl := h.lt t ht h1
  have hx := h.f1 hl
  exact DM_col h.dQ hs hx.2.1 ⟨(h.iff _ hx.2.1).2 ⟨t, hl, h1, .inr (.inr rfl)⟩, by rw [hx.2.2.2.1, h2]; rfl⟩
/-- Columns t, taken from t + a. -/
def cA (n : Nat) (P : Int → Bool) (k τ t : Nat) : Int := if szF P k t = true ∧ τ = t + 2 ^ n then sA n t else 0
/-- Columns t, taken from t + b and t + a. -/
def cW (n : Nat) (P : Int → Bool) (k τ t : Nat) : Int := if szF P k t = true then (if τ = t + 2 ^ (n + 1) then sB n t else if τ = t + 2 ^ n then - sA n t else 0) else 0
theorem SusP.mmA {n : Nat} {P Q : Int → Bool} (h : SusP n P Q) (k : Nat) {s t : Nat} (hs : s < 64) (ht : t < 64) : mm 64 (DM Q (k + 1)) (cA n P k) s t = if szF P k t = true then sgn1 s (t + 2 ^ n) * sA n t else 0 := by
  by_cases hf : szF P k t = true
  · have hx := h.f1 (h.lt t ht (szF_iff.1 hf).1)
    rw [if_pos hf, ← h.colA hs hf ht]
    refine Eq.trans (sm_congr (g := fun τ => if τ = t + 2 ^ n then (fun τ => DM Q (k + 1) s τ * sA n t) τ else 0) fun τ _ => ?_) (sm_pick _ hx.1)
    unfold cA
    by_cases e : τ = t + 2 ^ n
    · rw [if_pos ⟨hf, e⟩, if_pos e]
    · rw [if_neg (fun h => e h.2), if_neg e, Int.mul_zero]
  · rw [if_neg hf]
    refine Eq.trans (sm_congr (g := fun _ => 0) fun τ _ => ?_) (sm_zero 64)
    unfold cA
    rw [if_neg (fun h => hf h.1), Int.mul_zero]
theorem SusP.mmW {n : Nat} {P Q : Int → Bool} (h : SusP n P Q) (k : Nat) {s t : Nat} (hs : s < 64) (ht : t < 64) : mm 64 (DM Q (k + 1)) (cW n P k) s t = if szF P k t = true then sB n t * sgn1 s (t + 2 ^ (n + 1)) - sA n t * sgn1 s (t + 2 ^ n) else 0 := by
  by_cases hf : szF P k t = true
  · have hx := h.f1 (h.lt t ht (szF_iff.1 hf).1)
    have hp : 2 ^ (n + 1) = 2 * 2 ^ n := by rw [Nat.pow_succ]; omega
    have h2 := Nat.two_pow_pos n
    rw [if_pos hf, ← h.colA hs hf ht, ← h.colB hs hf ht]
    refine Eq.trans (sm_congr (g := fun τ => (fun τ => if τ = t + 2 ^ (n + 1) then (fun τ => sB n t * DM Q (k + 1) s τ) τ else 0) τ - (fun τ => if τ = t + 2 ^ n then (fun τ => sA n t * DM Q (k + 1) s τ) τ else 0) τ) fun τ _ => ?_) ?_
    · show DM Q (k + 1) s τ * cW n P k τ t = (if τ = t + 2 ^ (n + 1) then sB n t * DM Q (k + 1) s τ else 0) - (if τ = t + 2 ^ n then sA n t * DM Q (k + 1) s τ else 0)
      unfold cW
      rw [if_pos hf]
      by_cases e : τ = t + 2 ^ (n + 1)
      · rw [if_pos e, if_pos e, if_neg (by omega), Int.mul_comm]; omega
      · rw [if_neg e, if_neg e]
        by_cases e2 : τ = t + 2 ^ n
        · rw [if_pos e2, if_pos e2, Int.mul_neg, Int.mul_comm]; omega
        · rw [if_neg e2, if_neg e2, Int.mul_zero]; rfl
    · rw [sm_sub, sm_pick _ hx.2.1, sm_pick _ hx.1]
  · rw [if_neg hf]
    refine Eq.trans (sm_congr (g := fun _ => 0) fun τ _ => ?_) (sm_zero 64)
    unfold cW
    rw [if_neg hf, Int.mul_zero]
/-- Rows u, taken from u + b. -/
def rB (n u s : Nat) : Int := if u < 2 ^ n ∧ s = u + 2 ^ (n + 1) then - sB n u else 0
theorem rB_mm {n u t : Nat} (hn : n ≤ 4) (Y : Nat → Nat → Int) : mm 64 (rB n) Y u t = if u < 2 ^ n then - sB n u * Y (u + 2 ^ (n + 1)) t else 0 := by
  by_cases hu : u < 2 ^ n
  · have h16 := pow16 hn
    have hx := (sus1_fin ⟨n, by omega⟩ ⟨u, by omega⟩ hu).2.1
    simp only at hx
    rw [if_pos hu]
    refine Eq.trans (sm_congr (g := fun s => if s = u + 2 ^ (n + 1) then (fun s => - sB n u * Y s t) s else 0) fun s _ => ?_) (sm_pick _ hx)
    unfold rB
    by_cases e : s = u + 2 ^ (n + 1)
    · rw [if_pos ⟨hu, e⟩, if_pos e]
    · rw [if_neg (fun h => e h.2), if_neg e, Int.zero_mul]
  · rw [if_neg hu]
    refine Eq.trans (sm_congr (g := fun _ => 0) fun s _ => ?_) (sm_zero 64)
    unfold rB
    rw [if_neg (fun h => hu h.1), Int.zero_mul]
theorem SusP.f2 {n : Nat} {P Q : Int → Bool} (h : SusP n P Q) {s t : Nat} (hs : s < 2 ^ n) (ht : t < 2 ^ n) : sgn1 s (t + 2 ^ n) = (if s = t then sA n t else 0) ∧ sgn1 (s + 2 ^ (n + 1)) (t + 2 ^ n) = 0 ∧ sgn1 (s + 2 ^ (n + 1)) (t + 2 ^ (n + 1)) * sB n t = - sB n s * sgn1 s t := by
  have h16 := pow16 h.n4
  exact sus2_fin ⟨n, by have := h.n4; omega⟩ ⟨s, by omega⟩ ⟨t, by omega⟩ hs ht
theorem SusP.m1 {n : Nat} {P Q : Int → Bool} (h : SusP n P Q) (k : Nat) {s t : Nat} (hs : s < 64) (ht : t < 64) : mm 64 (idS (szF P k)) (mm 64 (DM Q (k + 1)) (cA n P k)) s t = idS (szF P k) s t := by
  rw [idS_mm hs, h.mmA k hs ht]
  by_cases e1 : szF P k s = true
  · rw [if_pos e1]
    by_cases e2 : szF P k t = true
    · have l1 := h.lt s hs (szF_iff.1 e1).1
      have l2 := h.lt t ht (szF_iff.1 e2).1
      rw [if_pos e2, (h.f2 l1 l2).1]
      unfold idS
      by_cases e : s = t
      · rw [if_pos e, if_pos ⟨e1, e⟩, (h.f1 l2).2.2.2.2.1]
      · rw [if_neg e, if_neg (fun h => e h.2), Int.zero_mul]
    · rw [if_neg e2]; exact (if_neg fun h' => e2 (by rw [← h'.2]; exact h'.1)).symm
  · rw [if_neg e1]; exact (if_neg fun h' => e1 h'.1).symm
theorem SusP.low {n : Nat} {P Q : Int → Bool} (h : SusP n P Q) {u : Nat} (hu : u < 2 ^ n) : u + 2 ^ (n + 1) < 64 := (h.f1 hu).2.1
theorem SusP.m3 {n : Nat} {P Q : Int → Bool} (h : SusP n P Q) (k : Nat) {u t : Nat} (ht : t < 64) : mm 64 (rB n) (mm 64 (DM Q (k + 1)) (cA n P k)) u t = 0 := by
  rw [rB_mm h.n4]
  by_cases hu : u < 2 ^ n
  · rw [if_pos hu, h.mmA k (h.low hu) ht]
    by_cases e2 : szF P k t = true
    · rw [if_pos e2, (h.f2 hu (h.lt t ht (szF_iff.1 e2).1)).2.1, Int.zero_mul, Int.mul_zero]
    · rw [if_neg e2, Int.mul_zero]
  · rw [if_neg hu]
theorem SusP.m2 {n : Nat} {P Q : Int → Bool} (h : SusP n P Q) (k : Nat) {u t : Nat} (hu : u < 64) (ht : t < 64) : mm 64 (rB n) (mm 64 (DM Q (k + 1)) (cW n P k)) u t = DM P k u t := by
  rw [rB_mm h.n4]
  by_cases hl : u < 2 ^ n
  · rw [if_pos hl, h.mmW k (h.low hl) ht]
    by_cases e2 : szF P k t = true
    · have l2 := h.lt t ht (szF_iff.1 e2).1
      have f := h.f2 hl l2
      rw [if_pos e2, f.2.1, Int.mul_zero, Int.sub_zero, Int.mul_comm (sB n t), f.2.2, ← Int.mul_assoc, Int.neg_mul_neg, (h.f1 hl).2.2.2.2.2, Int.one_mul, DM_col h.dP hu ht (szF_iff.1 e2)]
    · rw [if_neg e2, Int.mul_zero]
      exact (if_neg fun h' => e2 (szF_iff.2 h'.2)).symm
  · rw [if_neg hl]
    exact (if_neg fun h' => hl (h.lt u hu h'.1.1)).symm
theorem sus_ge {n : Nat} {P Q : Int → Bool} {p : Int} (hp : PrimeP p) (h : SusP n P Q) (k : Nat) : fcN P k + rkN P p k ≤ rkN Q p (k + 1) := by
  obtain ⟨La, Xa, ha⟩ := idS_id (p := p) (szF P k) 64
  obtain ⟨Lb, Xb, hb⟩ := (rkN_rk (P := P) hp k).id hp
  obtain ⟨A, hA⟩ : ∃ A, A = DM Q (k + 1) := ⟨_, rfl⟩
  have big : ∀ (L L0 X0 X : Nat → Nat → Int), mm 64 (mm 64 L L0) (mm 64 A (mm 64 X0 X)) = mm 64 L (mm 64 (mm 64 L0 (mm 64 A X0)) X) := fun L L0 X0 X => by
    rw [mm_assoc, ← mm_assoc 64 64 A, ← mm_assoc 64 64 L0]
  have h1 : Cg p (fcN P k) (fcN P k) dl (mm 64 (mm 64 La (idS (szF P k))) (mm 64 A (mm 64 (cA n P k) Xa))) := by
    rw [big]
    refine ha.trans (Cg.rfl'.mm ((Cg.of_eq fun s t hs ht => ?_ : Cg p 64 64 _ _).mm Cg.rfl'))
    rw [hA]; exact (h.m1 k hs ht).symm
  have h2 : Cg p (rkN P p k) (rkN P p k) dl (mm 64 (mm 64 Lb (rB n)) (mm 64 A (mm 64 (cW n P k) Xb))) := by
    rw [big]
    refine hb.trans (Cg.rfl'.mm ((Cg.of_eq fun s t hs ht => ?_ : Cg p 64 64 _ _).mm Cg.rfl'))
    rw [hA]; exact (h.m2 k hs ht).symm
  have h0 : Cg p (rkN P p k) (fcN P k) (fun _ _ => 0) (mm 64 (mm 64 Lb (rB n)) (mm 64 A (mm 64 (cA n P k) Xa))) := by
    rw [big]
    have e : Cg p 64 64 (fun _ _ => 0) (mm 64 (rB n) (mm 64 A (cA n P k))) := Cg.of_eq fun s t _ ht => by rw [hA]; exact (h.m3 k ht).symm
    refine Cg.trans (Cg.of_eq fun i j _ _ => ?_) (Cg.rfl'.mm (e.mm (Cg.rfl' (A := Xa))))
    have z : mm 64 (fun _ _ => 0) Xa = fun _ _ => 0 := by funext a b; exact zero_mm 64 Xa a b
    rw [z, mm_zero]
  have := (two_ids h1 h2 h0).le hp.inv ((rkN_rk (P := Q) hp (k + 1)).1.cg (Cg.of_eq fun s t _ _ => by rw [hA]))
  exact this

/-! ### No more -/

def kM (n : Nat) (P : Int → Bool) (k u τ : Nat) : Int :=
  if τ < 2 ^ n then (if P (τ : Int) = true ∧ pc (τ : Int) = k + 1 then sgn1 u τ else 0)
  else if τ < 2 ^ (n + 1) then (if szF P k (τ - 2 ^ n) = true ∧ u = τ - 2 ^ n then sA n (τ - 2 ^ n) else 0)
  else (if szF P k (τ - 2 ^ (n + 1)) = true ∧ u = τ - 2 ^ (n + 1) then sB n (τ - 2 ^ (n + 1)) else 0)
def xM (n t τ : Nat) : Int := if τ = t + 2 ^ (n + 1) ∧ t < 2 ^ n then sB n t else 0
theorem sm_16 {f : Nat → Int} {n : Nat} (hn : n ≤ 16) (h : ∀ i, n ≤ i → f i = 0) : sm f 64 = sm f 16 := by
  have e : sm f (16 + 48) = sm f 16 + sm (fun k => f (16 + k)) 48 := sm_split f 16 48
  rw [show (64 : Nat) = 16 + 48 from rfl, e]
  have : sm (fun k => f (16 + k)) 48 = 0 := Eq.trans (sm_congr (g := fun _ => 0) fun k _ => h _ (by omega)) (sm_zero 48)
  rw [this]; omega
theorem sub_nat_dm {s t : Nat} : sub (s : Int) (t : Int) = true ↔ s &&& t = s := by simp [sub]
theorem sgn1_face {P : Int → Bool} (hP : Dn P) {u t : Nat} (hu : u < 64) (ht : t < 64) (h : P (t : Int) = true) (hn : sgn1 u t ≠ 0) : P (u : Int) = true ∧ pc (t : Int) = pc (u : Int) + 1 := by
  unfold sgn1 at hn
  by_cases e : pc (t : Int) = pc (u : Int) + 1
  · rw [if_pos e] at hn
    refine ⟨?_, e⟩
    cases e2 : sub (u : Int) (t : Int) with
    | true => exact hP _ _ (by omega) (by omega) (by omega) (by omega) h e2
    | false => exact absurd (sgnS_sub (by rw [e2]; simp)) hn
  · rw [if_neg e] at hn; exact absurd rfl hn
theorem SusP.nW {n : Nat} {P Q : Int → Bool} (h : SusP n P Q) (k : Nat) {s t : Nat} (hs : s < 64) (ht : t < 64) (hf : szF P k t = true) : mm 64 (nM n) (DM P k) s t = sB n t * sgn1 s (t + 2 ^ (n + 1)) - sA n t * sgn1 s (t + 2 ^ n) := by
  obtain ⟨h1, h2⟩ := szF_iff.1 hf
  have hl := h.lt t ht h1
  have h16 := pow16 h.n4
  have f := sus3_fin ⟨n, by have := h.n4; omega⟩ ⟨t, by omega⟩ ⟨s, hs⟩ hl
  simp only at f
  rw [f]
  unfold mm
  rw [sm_16 h16 (fun u hu => by unfold nM; rw [if_neg (by omega), Int.zero_mul])]
  exact sm_congr fun u hu => by rw [DM_col h.dP (by omega) ht ⟨h1, h2⟩]
theorem sus_eq {n : Nat} {P Q : Int → Bool} (h : SusP n P Q) (k : Nat) {s τ : Nat} (hs : s < 64) (hτ : τ < 64) :
    DM Q (k + 1) s τ = mm 64 (mm 64 (DM Q (k + 1)) (cA n P k)) (kM n P k) s τ + mm 64 (nM n) (mm 64 (DM P k) (xM n)) s τ := by
  have hp : 2 ^ (n + 1) = 2 * 2 ^ n := by rw [Nat.pow_succ]; omega
  have h2p := Nat.two_pow_pos n
  have h16 := pow16 h.n4
  -- the second product
  have sec : ∀ t, t < 2 ^ n → τ = t + 2 ^ (n + 1) → mm 64 (nM n) (mm 64 (DM P k) (xM n)) s τ = mm 64 (nM n) (DM P k) s t * sB n t := fun t htl e => by
    rw [← mm_assoc]
    refine Eq.trans (sm_congr (g := fun r => if r = t then (fun r => mm 64 (nM n) (DM P k) s r * sB n t) r else 0) fun r hr => ?_) (sm_pick _ (by omega))
    unfold xM
    by_cases e2 : r = t
    · rw [if_pos ⟨by rw [e2]; exact e, by rw [e2]; exact htl⟩, if_pos e2, e2]
    · rw [if_neg (fun h' => e2 (by omega)), if_neg e2, Int.mul_zero]
  have sec0 : (∀ t, t < 2 ^ n → τ ≠ t + 2 ^ (n + 1)) → mm 64 (nM n) (mm 64 (DM P k) (xM n)) s τ = 0 := fun hne => by
    rw [← mm_assoc]
    refine Eq.trans (sm_congr (g := fun _ => 0) fun r _ => ?_) (sm_zero 64)
    unfold xM
    rw [if_neg (fun h' => hne r h'.2 h'.1), Int.mul_zero]
  -- the first product
  have fst : mm 64 (mm 64 (DM Q (k + 1)) (cA n P k)) (kM n P k) s τ = sm (fun u => (if szF P k u = true then sgn1 s (u + 2 ^ n) * sA n u else 0) * kM n P k u τ) 64 := sm_congr fun u hu => by rw [h.mmA k hs hu]
  rw [fst]
  by_cases c1 : τ < 2 ^ n
  · rw [sec0 (fun t _ => by omega), Int.add_zero]
    by_cases hc : P (τ : Int) = true ∧ pc (τ : Int) = k + 1
    · have hq : Q (τ : Int) = true := (h.iff τ hτ).2 ⟨τ, c1, hc.1, .inl rfl⟩
      rw [DM_col h.dQ hs hτ ⟨hq, by rw [hc.2]; rfl⟩]
      have f := sus4_fin ⟨n, by have := h.n4; omega⟩ ⟨τ, by omega⟩ ⟨s, hs⟩ c1
      simp only at f
      rw [f, sm_16 h16 (fun u hu => by
        by_cases e : szF P k u = true
        · by_cases h64 : u < 64
          · exact absurd (h.lt u h64 (szF_iff.1 e).1) (by omega)
          · have : kM n P k u τ = 0 := by
              unfold kM
              rw [if_pos c1, if_pos hc]
              unfold sgn1
              have hsub : sgnS (u : Int) (τ : Int) = 0 := sgnS_sub fun h' => by
                have : u ≤ τ := by
                  rw [sub_nat_dm] at h'
                  have := Nat.and_le_right (n := u) (m := τ)
                  omega
                omega
              rw [hsub]; split <;> rfl
            rw [this, Int.mul_zero]
        · rw [if_neg e, Int.zero_mul])]
      refine sm_congr fun u hu => ?_
      unfold kM
      rw [if_pos c1, if_pos hc]
      by_cases hu2 : u < 2 ^ n
      · rw [if_pos hu2]
        by_cases hf : szF P k u = true
        · rw [if_pos hf]
        · rw [if_neg hf, Int.zero_mul]
          by_cases hz : sgn1 u τ = 0
          · rw [hz, Int.mul_zero]
          · obtain ⟨a1, a2⟩ := sgn1_face h.dP (by omega) hτ hc.1 hz
            exact absurd (szF_iff.2 ⟨a1, by omega⟩) hf
      · rw [if_neg hu2]
        have : szF P k u ≠ true := fun e => hu2 (h.lt u (by omega) (szF_iff.1 e).1)
        rw [if_neg this, Int.zero_mul]
    · have e0 : DM Q (k + 1) s τ = 0 := if_neg fun h' => by
        obtain ⟨t, t1, t2, t3⟩ := (h.iff τ hτ).1 h'.2.1
        rcases t3 with rfl | rfl | rfl
        · exact hc ⟨t2, by have := h'.2.2; push_cast at this; exact this⟩
        · omega
        · omega
      rw [e0]
      refine (Eq.trans (sm_congr (g := fun _ => 0) fun u _ => ?_) (sm_zero 64)).symm
      unfold kM
      rw [if_pos c1, if_neg hc, Int.mul_zero]
  · by_cases c2 : τ < 2 ^ (n + 1)
    · rw [sec0 (fun t _ => by omega), Int.add_zero]
      obtain ⟨t, rfl⟩ : ∃ t, τ = t + 2 ^ n := ⟨τ - 2 ^ n, by omega⟩
      by_cases hf : szF P k t = true
      · have hl := h.lt t (by omega) (szF_iff.1 hf).1
        rw [h.colA hs hf (by omega)]
        refine (Eq.trans (sm_congr (g := fun u => if u = t then (fun u => sgn1 s (u + 2 ^ n) * sA n u * sA n t) u else 0) fun u _ => ?_) (Eq.trans (sm_pick _ (by omega)) ?_)).symm
        · unfold kM
          rw [if_neg c1, if_pos c2, Nat.add_sub_cancel]
          by_cases e : u = t
          · rw [if_pos (c := szF P k t = true ∧ u = t) ⟨hf, e⟩, if_pos (c := u = t) e, e, if_pos hf]
          · rw [if_neg (c := szF P k t = true ∧ u = t) (fun h' => e h'.2), if_neg (c := u = t) e, Int.mul_zero]
        · rw [Int.mul_assoc, (h.f1 hl).2.2.2.2.1, Int.mul_one]
      · have e0 : DM Q (k + 1) s (t + 2 ^ n) = 0 := if_neg fun h' => by
          obtain ⟨r, t1, t2, t3⟩ := (h.iff _ hτ).1 h'.2.1
          rcases t3 with t3 | t3 | t3
          · omega
          · have : r = t := by omega
            subst this
            refine hf (szF_iff.2 ⟨t2, ?_⟩)
            have := h'.2.2
            rw [(h.f1 t1).2.2.1] at this
            push_cast at this; omega
          · omega
        rw [e0]
        refine (Eq.trans (sm_congr (g := fun _ => 0) fun u _ => ?_) (sm_zero 64)).symm
        unfold kM
        rw [if_neg c1, if_pos c2, Nat.add_sub_cancel, if_neg (c := szF P k t = true ∧ u = t) (fun h' => hf h'.1), Int.mul_zero]
    · obtain ⟨t, rfl⟩ : ∃ t, τ = t + 2 ^ (n + 1) := ⟨τ - 2 ^ (n + 1), by omega⟩
      by_cases hf : szF P k t = true
      · have hl := h.lt t (by omega) (szF_iff.1 hf).1
        rw [h.colB hs hf (by omega), sec t hl rfl, h.nW k hs (by omega) hf]
        have e1 : sm (fun u => (if szF P k u = true then sgn1 s (u + 2 ^ n) * sA n u else 0) * kM n P k u (t + 2 ^ (n + 1))) 64 = sgn1 s (t + 2 ^ n) * sA n t * sB n t := by
          refine Eq.trans (sm_congr (g := fun u => if u = t then (fun u => sgn1 s (u + 2 ^ n) * sA n u * sB n t) u else 0) fun u _ => ?_) (sm_pick _ (by omega))
          unfold kM
          rw [if_neg c1, if_neg c2, Nat.add_sub_cancel]
          by_cases e : u = t
          · rw [if_pos (c := szF P k t = true ∧ u = t) ⟨hf, e⟩, if_pos (c := u = t) e, e, if_pos hf]
          · rw [if_neg (c := szF P k t = true ∧ u = t) (fun h' => e h'.2), if_neg (c := u = t) e, Int.mul_zero]
        have hB := (h.f1 hl).2.2.2.2.2
        rw [e1, Int.sub_mul]
        have e2 : sB n t * sgn1 s (t + 2 ^ (n + 1)) * sB n t = sgn1 s (t + 2 ^ (n + 1)) := by
          rw [Int.mul_right_comm, hB, Int.one_mul]
        have e3 : sA n t * sgn1 s (t + 2 ^ n) * sB n t = sgn1 s (t + 2 ^ n) * sA n t * sB n t := by rw [Int.mul_comm (sA n t)]
        rw [e2, e3]; omega
      · have e0 : DM Q (k + 1) s (t + 2 ^ (n + 1)) = 0 := if_neg fun h' => by
          obtain ⟨r, t1, t2, t3⟩ := (h.iff _ hτ).1 h'.2.1
          rcases t3 with t3 | t3 | t3
          · omega
          · omega
          · have : r = t := by omega
            subst this
            refine hf (szF_iff.2 ⟨t2, ?_⟩)
            have := h'.2.2
            rw [(h.f1 t1).2.2.2.1] at this
            push_cast at this; omega
        have e1 : sm (fun u => (if szF P k u = true then sgn1 s (u + 2 ^ n) * sA n u else 0) * kM n P k u (t + 2 ^ (n + 1))) 64 = 0 := by
          refine Eq.trans (sm_congr (g := fun _ => 0) fun u _ => ?_) (sm_zero 64)
          unfold kM
          rw [if_neg c1, if_neg c2, Nat.add_sub_cancel, if_neg (c := szF P k t = true ∧ u = t) (fun h' => hf h'.1), Int.mul_zero]
        have e2 : mm 64 (nM n) (mm 64 (DM P k) (xM n)) s (t + 2 ^ (n + 1)) = 0 := by
          by_cases hl : t < 2 ^ n
          · rw [sec t hl rfl]
            have : mm 64 (nM n) (DM P k) s t = 0 := by
              refine Eq.trans (sm_congr (g := fun _ => 0) fun u _ => ?_) (sm_zero 64)
              rw [show DM P k u t = 0 from if_neg fun h' => hf (szF_iff.2 h'.2), Int.mul_zero]
            rw [this, Int.zero_mul]
          · exact sec0 (fun r hr => by omega)
        rw [e0, e1, e2]; rfl
theorem sus_le {n : Nat} {P Q : Int → Bool} {p : Int} (hp : PrimeP p) (h : SusP n P Q) (k : Nat) : rkN Q p (k + 1) ≤ fcN P k + rkN P p k := by
  have f1 : FR p 64 64 (fcN P k) (mm 64 (mm 64 (DM Q (k + 1)) (cA n P k)) (kM n P k)) := FR.supp (S := szF P k) _ _ fun i t hi ht hf => by
    rw [h.mmA k hi ht, if_neg (by rw [hf]; simp)]
  have f2 : FR p 64 64 (rkN P p k) (mm 64 (nM n) (mm 64 (DM P k) (xM n))) := ((rkN_rk (P := P) hp k).1.mmR (n := 64) (xM n)).mmL (nM n)
  exact (rkN_rk (P := Q) hp (k + 1)).2 _ ((f1.add f2).cg (Cg.of_eq fun s τ hs hτ => (sus_eq h k hs hτ).symm))
theorem sus_rk {n : Nat} {P Q : Int → Bool} {p : Int} (hp : PrimeP p) (h : SusP n P Q) (k : Nat) : rkN Q p (k + 1) = fcN P k + rkN P p k := Nat.le_antisymm (sus_le hp h k) (sus_ge hp h k)

end Go.Proofs.Ytjaofbdfhcgmeaa
