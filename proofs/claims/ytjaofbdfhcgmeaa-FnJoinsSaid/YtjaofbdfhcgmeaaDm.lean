/-
  Borders as matrices over all 64 sets: ranks, the border of a border, the homotopy of a cone.
-/
import Derived.Test.YtjaofbdfhcgmeaaLin
import Derived.Test.YtjaofbdfhcgmeaaHom
import Derived.Test.YtjaofbdfhcgmeaaHoles
namespace Go.Proofs.Ytjaofbdfhcgmeaa
open Go.RowKit

/-- Matrices that sit inside greater ones have the same rank. -/
theorem FR.embed {p : Int} {m n M N r : Nat} {A a : Nat → Nat → Int} (f g : Nat → Nat)
    (ha : ∀ i j, i < m → j < n → a i j = A (f i) (g j)) (hz : ∀ s t, s < M → t < N → A s t ≠ 0 → (∃ i, i < m ∧ f i = s) ∧ ∃ j, j < n ∧ g j = t) (h : FR p m n r a) : FR p M N r A := by
  obtain ⟨B, C, h⟩ := h
  classical
  refine ⟨fun s k => if e : ∃ i, i < m ∧ f i = s then B e.choose k else 0, fun k t => if e : ∃ j, j < n ∧ g j = t then C k e.choose else 0, fun s t hs ht => ?_⟩
  by_cases e : (∃ i, i < m ∧ f i = s) ∧ ∃ j, j < n ∧ g j = t
  · obtain ⟨e1, e2⟩ := e
    have h1 := e1.choose_spec
    have h2 := e2.choose_spec
    have := h _ _ h1.1 h2.1
    rw [ha _ _ h1.1 h2.1, h1.2, h2.2] at this
    rw [sm_congr (g := fun k => B e1.choose k * C k e2.choose) fun k _ => by simp only [dif_pos e1, dif_pos e2]]
    exact this
  · have e0 : A s t = 0 := Classical.byContradiction fun hn => e (hz s t hs ht hn)
    rw [e0, sm_congr (g := fun _ => 0) fun k _ => by
      by_cases e1 : ∃ i, i < m ∧ f i = s
      · by_cases e2 : ∃ j, j < n ∧ g j = t
        · exact absurd ⟨e1, e2⟩ e
        · simp only [dif_neg e2, Int.mul_zero]
      · simp only [dif_neg e1, Int.zero_mul], sm_zero]
    exact ⟨0, by omega⟩
theorem FR.inner {p : Int} {m n M N r : Nat} {A a : Nat → Nat → Int} (f g : Nat → Nat) (hf : ∀ i, i < m → f i < M) (hg : ∀ j, j < n → g j < N)
    (ha : ∀ i j, i < m → j < n → a i j = A (f i) (g j)) (h : FR p M N r A) : FR p m n r a := by
  obtain ⟨B, C, h⟩ := h
  exact ⟨fun i k => B (f i) k, fun k j => C k (g j), fun i j hi hj => by rw [ha i j hi hj]; exact h _ _ (hf i hi) (hg j hj)⟩
theorem RK.embed {p : Int} {m n M N r : Nat} {A a : Nat → Nat → Int} (f g : Nat → Nat) (hf : ∀ i, i < m → f i < M) (hg : ∀ j, j < n → g j < N)
    (ha : ∀ i j, i < m → j < n → a i j = A (f i) (g j)) (hz : ∀ s t, s < M → t < N → A s t ≠ 0 → (∃ i, i < m ∧ f i = s) ∧ ∃ j, j < n ∧ g j = t) (h : RK p m n r a) : RK p M N r A :=
  ⟨h.1.embed f g ha hz, fun s hs => h.2 s (hs.inner f g hf hg ha)⟩

/-! ### The border -/

/-- The faces with k points. -/
def szF (P : Int → Bool) (k : Nat) (s : Nat) : Bool := P (s : Int) && (pc (s : Int) == (k : Int))
theorem szF_iff {P : Int → Bool} {k s : Nat} : szF P k s = true ↔ P (s : Int) = true ∧ pc (s : Int) = k := by simp [szF]
theorem cnt_row (P : Int → Bool) (k : Nat) : ∀ n, (rowTo P (k : Int) n).length = cntQ (szF P k) n
  | 0 => rfl
  | n + 1 => by
    rw [rowTo, cntQ, ← cnt_row P k n]
    by_cases h : P (n : Int) = true ∧ pc (n : Int) = k
    · rw [if_pos h, szF_iff.2 h]; simp
    · rw [if_neg h, show szF P k n = false from by
        cases e : szF P k n with
        | false => rfl
        | true => exact absurd (szF_iff.1 e) h]
      simp
/-- The border of the faces with k points. -/
def DM (P : Int → Bool) (k : Nat) (s t : Nat) : Int := if (P (s : Int) = true ∧ pc (s : Int) + 1 = k) ∧ P (t : Int) = true ∧ pc (t : Int) = k then sgnS (s : Int) (t : Int) else 0
theorem DM_row {P : Int → Bool} {k s t : Nat} (h : szF P (k + 1) t = false) : DM P (k + 1) s t = 0 := if_neg fun h' => by rw [szF_iff.2 h'.2] at h; cases h
theorem rank_zero {p : Int} {m n : Nat} {A : Nat → Nat → Int} (h : ∀ i j, i < m → j < n → A i j = 0) : RK p m n 0 A :=
  ⟨⟨fun _ _ => 0, fun _ _ => 0, fun i j hi hj => by rw [h i j hi hj, sm]; exact ⟨0, by omega⟩⟩, fun _ _ => Nat.zero_le _⟩
theorem DM_rk {P : Int → Bool} {p : Int} (hp : PrimeP p) (k : Nat) : ∃ r : Nat, hRk P p k = r ∧ RK p 64 64 r (DM P k) := by
  by_cases h : 1 ≤ k ∧ k < sizesN P
  · rw [hRk, if_pos h]
    obtain ⟨rs, hrs⟩ : ∃ rs, rowTo P ((k : Int) - 1) 64 = rs := ⟨_, rfl⟩
    obtain ⟨cs, hcs⟩ : ∃ cs, rowTo P (k : Int) 64 = cs := ⟨_, rfl⟩
    rw [hrs, hcs]
    obtain ⟨r, hr, hR⟩ := rankR_rk hp (M := bordM rs cs) fun i hi => by
      rw [bordM_len] at hi
      rw [bordM_gr hi, bordM_gr (by omega), bRow_len, bRow_len]
    refine ⟨r, hr, ?_⟩
    rw [bordM_len] at hR
    have hm : ∀ i, i < rs.length → ((gi rs i).toNat : Int) = gi rs i ∧ (gi rs i).toNat < 64 ∧ P (gi rs i) = true ∧ pc (gi rs i) = (k : Int) - 1 := fun i hi => by
      have h1 := gi_mem hi
      rw [← hrs] at h1
      obtain ⟨h2, h3, h4, h5⟩ := mem_rowTo.1 h1
      rw [hrs] at h2 h3 h4 h5
      exact ⟨by omega, by omega, h4, h5⟩
    have hn : ∀ i, i < cs.length → ((gi cs i).toNat : Int) = gi cs i ∧ (gi cs i).toNat < 64 ∧ P (gi cs i) = true ∧ pc (gi cs i) = (k : Int) := fun i hi => by
      have h1 := gi_mem hi
      rw [← hcs] at h1
      obtain ⟨h2, h3, h4, h5⟩ := mem_rowTo.1 h1
      rw [hcs] at h2 h3 h4 h5
      exact ⟨by omega, by omega, h4, h5⟩
    have hw : rs.length = 0 ∨ (gr (bordM rs cs) 0).length = cs.length := by
      by_cases e : rs.length = 0
      · exact .inl e
      · right; rw [bordM_gr (by omega), bRow_len]
    rcases hw with e | e
    · have h0 : r = 0 := by
        have := hR.2 0 ⟨fun _ _ => 0, fun _ _ => 0, fun i j hi => by omega⟩
        omega
      rw [h0]
      refine rank_zero fun s t hs ht => if_neg fun hc => ?_
      have : (s : Int) ∈ rs := by rw [← hrs]; exact mem_rowTo.2 ⟨by omega, by omega, hc.1.1, by omega⟩
      have := List.length_pos_of_mem this
      omega
    · rw [e] at hR
      refine hR.embed (fun i => (gi rs i).toNat) (fun j => (gi cs j).toNat) (fun i hi => (hm i hi).2.1) (fun j hj => (hn j hj).2.1) (fun i j hi hj => ?_) (fun s t hs ht hne => ?_)
      · obtain ⟨a1, _, a3, a4⟩ := hm i hi
        obtain ⟨b1, _, b3, b4⟩ := hn j hj
        rw [bord_en hi hj]
        show _ = DM P k (gi rs i).toNat (gi cs j).toNat
        rw [DM, a1, b1, if_pos ⟨⟨a3, by omega⟩, b3, b4⟩]
      · have hc : (P (s : Int) = true ∧ pc (s : Int) + 1 = k) ∧ P (t : Int) = true ∧ pc (t : Int) = k := Classical.byContradiction fun hn => hne (if_neg hn)
        have h1 : (s : Int) ∈ rs := by rw [← hrs]; exact mem_rowTo.2 ⟨by omega, by omega, hc.1.1, by omega⟩
        have h2 : (t : Int) ∈ cs := by rw [← hcs]; exact mem_rowTo.2 ⟨by omega, by omega, hc.2.1, hc.2.2⟩
        obtain ⟨i, hi, e1⟩ := mem_gi h1
        obtain ⟨j, hj, e2⟩ := mem_gi h2
        exact ⟨⟨i, hi, by rw [e1]; omega⟩, ⟨j, hj, by rw [e2]; omega⟩⟩
  · rw [hRk, if_neg h]
    refine ⟨0, rfl, rank_zero fun s t hs ht => if_neg fun hc => ?_⟩
    have := pc_rng (s : Int)
    by_cases h1 : 1 ≤ k
    · have h2 : (t : Int) ∈ rowTo P (k : Int) 64 := mem_rowTo.2 ⟨by omega, by omega, hc.2.1, hc.2.2⟩
      rw [rowTo_none (.inr (by omega))] at h2
      cases h2
    · omega
/-- The rank of the border as a number. -/
noncomputable def rkN (P : Int → Bool) (p : Int) (k : Nat) : Nat := (hRk P p k).toNat
theorem rkN_eq (P : Int → Bool) (p : Int) (k : Nat) : hRk P p k = rkN P p k := by have := hRk_rng P p k; unfold rkN; omega
theorem rkN_rk {P : Int → Bool} {p : Int} (hp : PrimeP p) (k : Nat) : RK p 64 64 (rkN P p k) (DM P k) := by
  obtain ⟨r, hr, h⟩ := DM_rk (P := P) hp k
  have : rkN P p k = r := by unfold rkN; omega
  rw [this]; exact h
/-- The number of faces with k points. -/
def fcN (P : Int → Bool) (k : Nat) : Nat := cntQ (szF P k) 64
theorem holeAt_eq (P : Int → Bool) (p : Int) (k : Nat) : holeAt P p k = (fcN P k : Int) - rkN P p k - rkN P p (k + 1) := by
  rw [holeAt, cnt_row, rkN_eq, rkN_eq]; rfl
/-- A border after a border, at the sets themselves. -/
theorem DM_DM {P : Int → Bool} (hP : Dn P) (k : Nat) {s t : Nat} (hs : s < 64) (ht : t < 64) : mm 64 (DM P k) (DM P (k + 1)) s t = 0 := by
  by_cases h1 : P (s : Int) = true ∧ pc (s : Int) + 1 = k
  · by_cases h2 : P (t : Int) = true ∧ pc (t : Int) = k + 1
    · have e := dd_fin ⟨s, hs⟩ ⟨t, ht⟩ (by show pc (t : Int) = pc (s : Int) + 2; omega)
      refine Eq.trans ?_ e
      refine sm_congr fun u hu => ?_
      by_cases hk : pc (u : Int) = k
      · rw [if_pos (c := pc (u : Int) = pc (s : Int) + 1) (by omega)]
        by_cases hPu : P (u : Int) = true
        · rw [DM, if_pos ⟨h1, hPu, hk⟩, DM, if_pos ⟨⟨hPu, by omega⟩, h2.1, by omega⟩]
        · rw [DM, if_neg (fun h => hPu h.2.1), sgnS_sub (r := (u : Int)) (s := (t : Int)) (fun h => hPu (hP _ _ (by omega) (by omega) (by omega) (by omega) h2.1 h)), Int.mul_zero, Int.zero_mul]
      · rw [DM, if_neg (fun h => hk h.2.2), if_neg (by show ¬ pc (u : Int) = pc (s : Int) + 1; omega), Int.zero_mul]
    · refine Eq.trans (sm_congr (g := fun _ => 0) fun u _ => ?_) (sm_zero 64)
      rw [show DM P (k + 1) u t = 0 from if_neg fun h => h2 ⟨h.2.1, by have := h.2.2; omega⟩, Int.mul_zero]
  · refine Eq.trans (sm_congr (g := fun _ => 0) fun u _ => ?_) (sm_zero 64)
    rw [DM, if_neg (fun h => h1 h.1), Int.zero_mul]
/-- No less than no holes. -/
theorem rk_le {P : Int → Bool} {p : Int} (hp : PrimeP p) (hP : Dn P) (k : Nat) : rkN P p k + rkN P p (k + 1) ≤ fcN P k := by
  refine rank_null hp (S := szF P k) (rkN_rk hp k) (rkN_rk hp (k + 1)) (fun s t hs ht h => ?_) (fun s t hs ht h => ?_) (Cg.of_eq fun s t hs ht => (DM_DM hP k hs ht).symm)
  · exact if_neg fun h' => by rw [szF_iff.2 h'.2] at h; cases h
  · exact if_neg fun h' => by rw [szF_iff.2 ⟨h'.1.1, by have := h'.1.2; omega⟩] at h; cases h

/-! ### Cones -/

def sgn1 (s t : Nat) : Int := if pc (t : Int) = pc (s : Int) + 1 then sgnS (s : Int) (t : Int) else 0
/-- The set u with point a. -/
def hmM (a s u : Nat) : Int := if u / 2 ^ a % 2 = 0 ∧ s = u + 2 ^ a then sgnS (u : Int) (s : Int) else 0
theorem hom_fin : ∀ a : Fin 6, ∀ s t : Fin 64, (if t.val / 2 ^ a.val % 2 = 0 then sgn1 s.val (t.val + 2 ^ a.val) * sgnS (t.val : Int) ((t.val + 2 ^ a.val : Nat) : Int) else 0) + (if s.val / 2 ^ a.val % 2 = 1 then sgnS ((s.val - 2 ^ a.val : Nat) : Int) (s.val : Int) * sgn1 (s.val - 2 ^ a.val) t.val else 0) = dl s.val t.val := by decide +kernel
theorem up_fin : ∀ a : Fin 6, ∀ t : Fin 64, t.val / 2 ^ a.val % 2 = 0 → t.val + 2 ^ a.val < 64 ∧ pc ((t.val + 2 ^ a.val : Nat) : Int) = pc (t.val : Int) + 1 ∧ sub (t.val : Int) ((t.val + 2 ^ a.val : Nat) : Int) = true ∧ (t.val + 2 ^ a.val) / 2 ^ a.val % 2 = 1 := by decide +kernel
theorem down_fin : ∀ a : Fin 6, ∀ t : Fin 64, t.val / 2 ^ a.val % 2 = 1 → 2 ^ a.val ≤ t.val ∧ (t.val - 2 ^ a.val) / 2 ^ a.val % 2 = 0 ∧ pc (t.val : Int) = pc ((t.val - 2 ^ a.val : Nat) : Int) + 1 := by decide +kernel
/-- A cone over the point a. -/
def ConeAt (P : Int → Bool) (a : Nat) : Prop := a < 6 ∧ ∀ t : Nat, t < 64 → P (t : Int) = true → t / 2 ^ a % 2 = 0 → P ((t + 2 ^ a : Nat) : Int) = true
theorem hm_mm {a s : Nat} (ha : a < 6) (hs : s < 64) (Y : Nat → Nat → Int) (t : Nat) : mm 64 (hmM a) Y s t = if s / 2 ^ a % 2 = 1 then sgnS ((s - 2 ^ a : Nat) : Int) (s : Int) * Y (s - 2 ^ a) t else 0 := by
  by_cases h : s / 2 ^ a % 2 = 1
  · obtain ⟨h1, h2, _⟩ := down_fin ⟨a, ha⟩ ⟨s, hs⟩ h
    simp only at h1 h2
    rw [if_pos h]
    refine Eq.trans (sm_congr (g := fun u => if u = s - 2 ^ a then (fun u => sgnS ((u : Nat) : Int) (s : Int) * Y u t) u else 0) fun u _ => ?_) (sm_pick _ (Nat.lt_of_le_of_lt (Nat.sub_le _ _) hs))
    by_cases e : u = s - 2 ^ a
    · rw [if_pos e, hmM, if_pos ⟨by rw [e]; exact h2, by omega⟩]
    · rw [if_neg e, hmM, if_neg (fun h' => e (by omega)), Int.zero_mul]
  · rw [if_neg h]
    refine Eq.trans (sm_congr (g := fun _ => 0) fun u hu => ?_) (sm_zero 64)
    rw [hmM, if_neg, Int.zero_mul]
    rintro ⟨h1, rfl⟩
    exact h (up_fin ⟨a, ha⟩ ⟨u, hu⟩ h1).2.2.2
theorem mm_hm {a t : Nat} (ha : a < 6) (ht : t < 64) (Y : Nat → Nat → Int) (s : Nat) : mm 64 Y (hmM a) s t = if t / 2 ^ a % 2 = 0 then Y s (t + 2 ^ a) * sgnS (t : Int) ((t + 2 ^ a : Nat) : Int) else 0 := by
  by_cases h : t / 2 ^ a % 2 = 0
  · have h1 := (up_fin ⟨a, ha⟩ ⟨t, ht⟩ h).1
    simp only at h1
    rw [if_pos h]
    refine Eq.trans (sm_congr (g := fun u => if u = t + 2 ^ a then (fun u => Y s u * sgnS (t : Int) ((u : Nat) : Int)) u else 0) fun u _ => ?_) (sm_pick _ h1)
    by_cases e : u = t + 2 ^ a
    · rw [if_pos e, hmM, if_pos ⟨h, e⟩]
    · rw [if_neg e, hmM, if_neg (fun h' => e h'.2), Int.mul_zero]
  · rw [if_neg h]
    refine Eq.trans (sm_congr (g := fun _ => 0) fun u _ => ?_) (sm_zero 64)
    rw [hmM, if_neg (fun h' => h h'.1), Int.mul_zero]
theorem DM_col {P : Int → Bool} (hP : Dn P) {k s t : Nat} (hs : s < 64) (ht : t < 64) (h : P (t : Int) = true ∧ pc (t : Int) = k) : DM P k s t = sgn1 s t := by
  unfold DM sgn1
  by_cases h1 : pc (t : Int) = pc (s : Int) + 1
  · rw [if_pos h1]
    by_cases h2 : P (s : Int) = true
    · rw [if_pos ⟨⟨h2, by omega⟩, h⟩]
    · rw [if_neg (fun h' => h2 h'.1.1), sgnS_sub fun hs' => h2 (hP _ _ (by omega) (by omega) (by omega) (by omega) h.1 hs')]
  · rw [if_neg h1, if_neg (fun h' => h1 (by have := h'.1.2; have := h'.2.2; omega))]
/-- The identity on the faces of a cone. -/
theorem cone_id {P : Int → Bool} (hP : Dn P) {a : Nat} (hc : ConeAt P a) (k : Nat) {s t : Nat} (hs : s < 64) (ht : t < 64) :
    idS (szF P k) s t = mm 64 (mm 64 (DM P (k + 1)) (hmM a)) (idS (szF P k)) s t + mm 64 (hmM a) (DM P k) s t := by
  obtain ⟨ha, hc⟩ := hc
  rw [mm_idS ht, hm_mm ha hs]
  by_cases h : szF P k t = true
  · have h' := szF_iff.1 h
    rw [if_pos h, mm_hm ha ht]
    have e := hom_fin ⟨a, ha⟩ ⟨s, hs⟩ ⟨t, ht⟩
    simp only at e
    have e1 : idS (szF P k) s t = dl s t := by
      unfold idS dl
      by_cases e : s = t
      · rw [if_pos e, if_pos ⟨by rw [e]; exact h, e⟩]
      · rw [if_neg e, if_neg (fun h => e h.2)]
    rw [e1, ← e]
    congr 1
    · by_cases h0 : t / 2 ^ a % 2 = 0
      · obtain ⟨u1, u2, _, _⟩ := up_fin ⟨a, ha⟩ ⟨t, ht⟩ h0
        simp only at u1 u2
        rw [if_pos h0, if_pos h0, DM_col hP hs u1 ⟨hc t ht h'.1 h0, by omega⟩]
      · rw [if_neg h0, if_neg h0]
    · by_cases h1 : s / 2 ^ a % 2 = 1
      · rw [if_pos h1, if_pos h1, DM_col hP (Nat.lt_of_le_of_lt (Nat.sub_le _ _) hs) ht h']
      · rw [if_neg h1, if_neg h1]
  · have h0 : szF P k t = false := by simpa using h
    rw [if_neg h]
    have e1 : idS (szF P k) s t = 0 := if_neg fun h' => h (by rw [← h'.2]; exact h'.1)
    have e2 : DM P k (s - 2 ^ a) t = 0 := if_neg fun h' => h (szF_iff.2 h'.2)
    rw [e1, e2, Int.mul_zero]
    split <;> omega
theorem cone_rk {P : Int → Bool} {p : Int} (hp : PrimeP p) (hP : Dn P) {a : Nat} (hc : ConeAt P a) (k : Nat) : rkN P p k + rkN P p (k + 1) = fcN P k := by
  refine Nat.le_antisymm (rk_le hp hP k) ?_
  have h1 := (((rkN_rk (P := P) hp (k + 1)).1.mmR (n := 64) (hmM a)).mmR (n := 64) (idS (szF P k))).add ((rkN_rk (P := P) hp k).1.mmL (hmM a) (m := 64))
  have h2 : FR p 64 64 (rkN P p (k + 1) + rkN P p k) (idS (szF P k)) := h1.cg (Cg.of_eq fun s t hs ht => (cone_id hP hc k hs ht).symm)
  have := (idS_id (p := p) (szF P k) 64).le hp.inv h2
  unfold fcN; omega
theorem cone_hole {P : Int → Bool} {p : Int} (hp : PrimeP p) (hP : Dn P) {a : Nat} (hc : ConeAt P a) (k : Nat) : holeAt P p k = 0 := by
  rw [holeAt_eq, ← cone_rk hp hP hc k]; omega
theorem hole_nonneg {P : Int → Bool} {p : Int} (hp : PrimeP p) (hP : Dn P) (k : Nat) : 0 ≤ holeAt P p k := by
  rw [holeAt_eq]; have := rk_le hp hP k; omega

end Go.Proofs.Ytjaofbdfhcgmeaa
