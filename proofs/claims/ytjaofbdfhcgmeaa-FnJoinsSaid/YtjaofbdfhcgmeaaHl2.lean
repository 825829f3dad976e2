/-
  Holes: plain law (none below nothing, the first two, Euler's number, cones).
-/
import Derived.Test.YtjaofbdfhcgmeaaHl
import Derived.Test.YtjaofbdfhcgmeaaHoles2
import Derived.Test.YtjaofbdfhcgmeaaEulS
namespace Go.Proofs.Ytjaofbdfhcgmeaa
open Go.RowKit

theorem from_dn {n : Int} {xs : List Int} (h : isC n xs = true) : From (dn (mem xs)) xs := by
  have hr := (isC_iff.1 h).rng
  refine ⟨hr, fun t => ?_⟩
  rw [dn_mem hr]
  simp

/-- The law's signed sum. -/
def sgTo (L : List Int) : Nat → Int
  | 0 => 0
  | j + 1 => sgTo L j + (2 * ((j : Int) % 2) - 1) * gi L j
theorem sgTo_ext {L : List Int} : ∀ j, L.length ≤ j → sgTo L j = sgTo L L.length
  | 0, h => by rw [show L.length = 0 by omega]
  | j + 1, h => by
    by_cases e : L.length = j + 1
    · rw [e]
    · rw [sgTo, sgTo_ext j (by omega), gi_out (by omega), Int.mul_zero, Int.add_zero]
theorem sgTo_seven {L : List Int} (h : L.length ≤ 7) : sgTo L L.length = -gi L 0 + gi L 1 - gi L 2 + gi L 3 - gi L 4 + gi L 5 - gi L 6 := by
  rw [← sgTo_ext 7 h]
  simp [sgTo]
  omega
theorem holeAt_out {P : Int → Bool} (p : Int) {j : Nat} (h : sizesN P ≤ j) : holeAt P p j = 0 := by
  rw [holeAt, hRk_out p h, hRk_out p (by omega), rowTo_none (.inr (by omega))]; rfl
theorem holesB_t {n : Int} {xs : List Int} {p : Int} (h : isC n xs = true) (hp : primeB p = true) : holesB n xs p = holeTo (dn (mem xs)) p (sizesN (dn (mem xs))) := if_pos ⟨h, hp⟩
theorem holesB_gi {n : Int} {xs : List Int} {p : Int} (h : isC n xs = true) (hp : primeB p = true) (j : Nat) : gi (holesB n xs p) j = holeAt (dn (mem xs)) p j := by
  rw [holesB_t h hp]
  by_cases hj : j < sizesN (dn (mem xs))
  · rw [holeTo_gi hj]
  · rw [gi_out (by rw [holeTo_len]; omega), holeAt_out p (by omega)]
theorem holesB_pos {n : Int} {xs : List Int} {p : Int} (h : 0 < (holesB n xs p).length) : isC n xs = true ∧ primeB p = true := Classical.byContradiction fun hn => by
  rw [holesB_f hn] at h; simp at h
theorem holes_nonneg (n : Int) (xs : List Int) (p : Int) (j : Nat) : 0 ≤ gi (holesB n xs p) j := by
  by_cases h : isC n xs = true ∧ primeB p = true
  · rw [holesB_gi h.1 h.2]
    exact hole_nonneg (primeB_iff.1 h.2) (from_dn h.1).dn j
  · rw [holesB_f h]; simp [gi]
theorem holes_euler {n : Int} {xs : List Int} {p : Int} (h : 0 < (holesB n xs p).length) : sgTo (holesB n xs p) (holesB n xs p).length = eulB n xs := by
  obtain ⟨hc, hp⟩ := holesB_pos h
  rw [sgTo_seven (holesB_len n xs p), eul_fv]
  simp only [holesB_gi hc hp, fv_row hc, holeAt, Nat.reduceAdd]
  have h7 := hRk_out (P := dn (mem xs)) p (k := 7) (sizesN_le _)
  have h0 := hRk_zero (dn (mem xs)) p
  omega

/-! ### The first two -/

theorem sgn_pt_fin : ∀ a : Fin 6, sgnS 0 ((2 ^ a.val : Nat) : Int) = 1 := by decide +kernel
theorem pc_z_fin : ∀ s : Fin 64, pc (s.val : Int) = 0 → s.val = 0 := by decide +kernel
theorem rk_one {P : Int → Bool} {p : Int} (hp : PrimeP p) (hP : Dn P) {a : Nat} (ha : a < 6) (hv : vP P a = true) : rkN P p 1 = 1 := by
  have h := rkN_rk (P := P) hp 1
  have h3 := pt_fin ⟨a, ha⟩
  simp only at h3
  have hle : rkN P p 1 ≤ 1 := h.2 1 ⟨fun s _ => if s = 0 then 1 else 0, fun _ t => DM P 1 0 t, fun s t hs _ => dvd_zero_sub (by
    show DM P 1 s t = 0 + (if s = 0 then 1 else 0) * DM P 1 0 t
    by_cases e : s = 0
    · subst e; simp
    · rw [if_neg e]
      have : DM P 1 s t = 0 := if_neg fun hc => e (pc_z_fin ⟨s, hs⟩ (by have := hc.1.2; show pc (s : Int) = 0; omega))
      rw [this]; simp)⟩
  have hge : rkN P p 1 ≠ 0 := fun h0 => by
    rw [h0] at h
    obtain ⟨B, C, hF⟩ := h.1
    have h1 := hF 0 (2 ^ a) (by omega) h3.2
    have e0 : pc ((0 : Nat) : Int) = 0 := by decide
    have e1 : DM P 1 0 (2 ^ a) = 1 := by
      rw [DM_col hP (by omega) h3.2 ⟨hv, h3.1⟩, sgn1, if_pos (by rw [h3.1, e0]; rfl)]
      exact sgn_pt_fin ⟨a, ha⟩
    rw [e1] at h1
    have h2 : p ∣ 1 := by simpa [sm] using h1
    have := Int.le_of_dvd (by omega) h2
    have := hp.rng
    omega
  omega
theorem has_point {P : Int → Bool} (hP : Dn P) (h : 2 ≤ sizesN P) : ∃ a, a < 6 ∧ vP P a = true := by
  refine Classical.byContradiction fun hn => ?_
  have h1 : topN P 64 ≤ 0 := topN_le (by omega) fun t ht hp => by
    by_cases h0 : t = 0
    · subst h0; decide
    · exfalso
      have hl := lo_spec (m := (t : Int)) (by omega) (by omega)
      have hr := pt_rng hl.1
      exact hn ⟨lo t, hl.1, hP _ _ (by omega) hr.2 (by omega) (by omega) hp (sub_pt.2 hl.2.1)⟩
  have := sizesN_eq P
  omega
theorem holes_first {n : Int} {xs : List Int} {p : Int} (h : 0 < (holesB n xs p).length) :
    (1 < (holesB n xs p).length → gi (holesB n xs p) 0 = 0 ∧ gi (holesB n xs p) 1 = partsB n xs - 1) ∧ ((holesB n xs p).length = 1 → gi (holesB n xs p) 0 = 1) := by
  obtain ⟨hc, hp⟩ := holesB_pos h
  have hf := from_dn hc
  have hP := primeB_iff.1 hp
  have hl : (holesB n xs p).length = sizesN (dn (mem xs)) := by rw [holesB_t hc hp, holeTo_len]
  have hfv : (fvB n xs).length = sizesN (dn (mem xs)) := by rw [fvB, if_pos hc, cntS_len]
  have f0 : ((rowTo (dn (mem xs)) ((0 : Nat) : Int) 64).length : Int) = 1 := by
    rw [← fv_row hc 0]; exact fv_zero (by omega)
  rw [holesB_gi hc hp, holesB_gi hc hp, hl, partsB, if_pos hc]
  have h0 : hRk (dn (mem xs)) p 0 = 0 := hRk_zero _ _
  constructor
  · intro h2
    obtain ⟨a, ha, hv⟩ := has_point hf.dn h2
    have h1 := rk_one hP hf.dn ha hv
    have e1 := rkN_eq (dn (mem xs)) p 1
    have e2 := rkN_eq (dn (mem xs)) p 2
    have e3 := rk_parts hP hf
    rw [h1] at e1
    constructor
    · rw [holeAt, f0, h0, e1]; rfl
    · rw [holeAt_eq, h1, show 1 + 1 = 2 from rfl]; omega
  · intro h1
    rw [holeAt, f0, h0, hRk_out p (by omega)]; rfl
theorem cntH_none {n : Int} {xs : List Int} {p : Int} (h : (holesB n xs p).length = 0) : cntH n xs p = 0 := by rw [cntH, h]; rfl

/-! ### Cones -/

/-- What two sets share. -/
def andS (s t : Int) : Int := ((s.toNat &&& t.toNat : Nat) : Int)
theorem and_fin : ∀ s t : Fin 64, bits .and .i64 (s.val : Int) (t.val : Int) = ((s.val &&& t.val : Nat) : Int) ∧ s.val &&& t.val < 64 := by decide +kernel
theorem and_bits {s t : Int} (s0 : 0 ≤ s) (s1 : s < 64) (t0 : 0 ≤ t) (t1 : t < 64) : bits .and .i64 s t = andS s t ∧ 0 ≤ andS s t ∧ andS s t < 64 := by
  have h := and_fin ⟨s.toNat, by omega⟩ ⟨t.toNat, by omega⟩
  simp only [Int.toNat_of_nonneg s0, Int.toNat_of_nonneg t0] at h
  refine ⟨h.1, ?_, ?_⟩ <;> unfold andS <;> omega
theorem bt_and (s t : Int) (a : Nat) : bt (andS s t) a = (bt s a && bt t a) := by
  unfold bt andS
  rw [Int.toNat_natCast, Nat.testBit_and]
/-- What the first sets share. -/
def andTo (xs : List Int) : Nat → Int
  | 0 => gi xs 0
  | j + 1 => andS (andTo xs j) (gi xs (j + 1))
theorem andTo_rng {xs : List Int} (h : ∀ x ∈ xs, 0 ≤ x ∧ x < 64) : ∀ j, j < xs.length → 0 ≤ andTo xs j ∧ andTo xs j < 64
  | 0, hj => h _ (gi_mem hj)
  | j + 1, hj => by
    have h1 := andTo_rng h j (by omega)
    have h2 := h _ (gi_mem hj)
    exact (and_bits h1.1 h1.2 h2.1 h2.2).2
theorem bt_andTo (xs : List Int) (a : Nat) : ∀ j, bt (andTo xs j) a = true ↔ ∀ i, i ≤ j → bt (gi xs i) a = true
  | 0 => ⟨fun h i hi => by rw [show i = 0 by omega]; exact h, fun h => h 0 (Nat.le_refl _)⟩
  | j + 1 => by
    rw [andTo, bt_and, Bool.and_eq_true, bt_andTo xs a j]
    exact ⟨fun h i hi => by
      by_cases e : i = j + 1
      · rw [e]; exact h.2
      · exact h.1 i (by omega), fun h => ⟨fun i hi => h i (by omega), h _ (Nat.le_refl _)⟩⟩
/-- The points of all facets. -/
def conB (n : Int) (xs : List Int) : Int := if isC n xs = true ∧ 0 < xs.length then andTo xs (xs.length - 1) else 0
theorem conB_bt {n : Int} {xs : List Int} {a : Nat} (h : bt (conB n xs) a = true) : isC n xs = true ∧ 0 < xs.length ∧ ∀ x ∈ xs, bt x a = true := by
  by_cases hc : isC n xs = true ∧ 0 < xs.length
  · rw [conB, if_pos hc, bt_andTo] at h
    refine ⟨hc.1, hc.2, fun x hx => ?_⟩
    obtain ⟨i, hi, rfl⟩ := mem_gi hx
    exact h i (by omega)
  · rw [conB, if_neg hc] at h
    unfold bt at h
    rw [show (0 : Int).toNat = 0 from rfl, Nat.zero_testBit] at h; cases h
theorem conB_rng (n : Int) (xs : List Int) : 0 ≤ conB n xs ∧ conB n xs < 64 := by
  unfold conB
  split
  · next h => exact andTo_rng (isC_iff.1 h.1).rng _ (by omega)
  · omega
theorem plus_fin : ∀ a : Fin 6, ∀ t : Fin 64, t.val / 2 ^ a.val % 2 = 0 → t.val + 2 ^ a.val < 64 ∧ ∀ c : Fin 6, (t.val + 2 ^ a.val).testBit c.val = true → t.val.testBit c.val = true ∨ c = a := by decide +kernel
theorem From.cone {P : Int → Bool} {xs : List Int} (h : From P xs) {a : Nat} (ha : a < 6) (hx : ∀ x ∈ xs, bt x a = true) : ConeAt P a := ⟨ha, fun t ht hPt h0 => by
  obtain ⟨x, h1, h2⟩ := (h.2 _).1 hPt
  obtain ⟨e1, e2⟩ := plus_fin ⟨a, ha⟩ ⟨t, ht⟩ h0
  simp only at e1 e2
  refine (h.2 _).2 ⟨x, h1, sub_bt.2 fun c hc => ?_⟩
  have hc6 : c < 6 := bt_lt (by omega) hc
  unfold bt at hc
  rw [Int.toNat_natCast] at hc
  rcases e2 ⟨c, hc6⟩ hc with h3 | h3
  · exact sub_bt.1 h2 c (by unfold bt; rw [Int.toNat_natCast]; exact h3)
  · have : c = a := by simpa using congrArg Fin.val h3
    rw [this]; exact hx x h1⟩
theorem sumTo_zero {L : List Int} (h : ∀ j, gi L j = 0) : ∀ j, sumTo L j = 0
  | 0 => rfl
  | j + 1 => by rw [sumTo, sumTo_zero h j, h j]; rfl
theorem sizes_pos {xs : List Int} {P : Int → Bool} (h : From P xs) (hl : 0 < xs.length) : 0 < sizesN P := by
  have h0 : P ((0 : Nat) : Int) = true := (h.2 _).2 ⟨_, gi_mem hl, by simp [sub]⟩
  have h1 := topN_ge (P := P) (s := 64) (t := 0) (by omega) h0
  have h2 := sizesN_eq P
  have : pc ((0 : Nat) : Int) = 0 := by decide
  omega
theorem cone_noH {n : Int} {xs : List Int} {p : Int} (h : conB n xs ≠ 0) (hp : primeB p = true) : noHB n xs p = true := by
  have hr := conB_rng n xs
  have hl := lo_spec (m := conB n xs) (by omega) hr.2
  obtain ⟨hc, hl0, hx⟩ := conB_bt hl.2.1
  have hf := from_dn hc
  have hcone := hf.cone hl.1 hx
  have h1 : (holesB n xs p).length = sizesN (dn (mem xs)) := by rw [holesB_t hc hp, holeTo_len]
  have h2 := sizes_pos hf hl0
  have h3 : cntH n xs p = 0 := sumTo_zero (fun j => by rw [holesB_gi hc hp]; exact cone_hole (primeB_iff.1 hp) hf.dn hcone j) _
  rw [noHB, h3, h1]; simp [h2]

end Go.Proofs.Ytjaofbdfhcgmeaa
