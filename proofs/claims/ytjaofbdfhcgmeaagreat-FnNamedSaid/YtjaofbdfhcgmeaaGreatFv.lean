/-
  A complex under new names has the same numbers of faces: plain.
-/
import Derived.Test.YtjaofbdfhcgmeaaGreatSort
import Derived.Test.YtjaofbdfhcgmeaaGreatFaces
namespace Go.Proofs.YtjaofbdfhcgmeaaGreat
open Go.RowKit

theorem bit_low_fin : ∀ s : Fin 64, ∀ n : Fin 7, (∀ m : Fin 6, n.val ≤ m.val → bitP s.val m.val = false) → (s.val : Int) < (2 : Int) ^ n.val := by decide +kernel
theorem sub_bit_fin : ∀ s t : Fin 64, sub s.val t.val = true ↔ ∀ m : Fin 6, bitP s.val m.val = true → bitP t.val m.val = true := by decide +kernel
theorem pc_or_fin : ∀ s : Fin 64, ∀ k : Fin 6, bitP s.val k.val = false → pc (orP s.val k.val) = pc s.val + 1 := by decide +kernel
def cbN (s : Int) : Nat → Int
  | 0 => 0
  | j + 1 => cbN s j + if bitP s j = true then 1 else 0
theorem cbN_all_fin : ∀ s : Fin 64, ∀ n : Fin 7, (s.val : Int) < (2 : Int) ^ n.val → cbN s.val n.val = pc s.val := by decide +kernel
theorem sub_le6_fin : ∀ a b : Fin 64, sub a.val b.val = true → a.val ≤ b.val := by decide +kernel
theorem sub_le6 {a b : Int} (a0 : 0 ≤ a) (a1 : a < 64) (b0 : 0 ≤ b) (b1 : b < 64) (h : sub a b = true) : a ≤ b := by
  obtain ⟨x, rfl⟩ := fin64 a0 a1
  obtain ⟨y, rfl⟩ := fin64 b0 b1
  have := sub_le6_fin x y h
  omega
theorem fin7 {n : Int} (h0 : 0 ≤ n) (h6 : n ≤ 6) : ∃ k : Fin 7, n = (k.val : Int) := ⟨⟨n.toNat, by omega⟩, by simp; omega⟩

theorem sub_bit {s t : Int} (s0 : 0 ≤ s) (s1 : s < 64) (t0 : 0 ≤ t) (t1 : t < 64) : sub s t = true ↔ ∀ m : Nat, m < 6 → bitP s m = true → bitP t m = true := by
  obtain ⟨a, rfl⟩ := fin64 s0 s1
  obtain ⟨b, rfl⟩ := fin64 t0 t1
  rw [sub_bit_fin]
  exact ⟨fun h m hm => h ⟨m, hm⟩, fun h m => h m.val m.isLt⟩
theorem rnB_low {n : Int} {xs : List Int} (h : Names n xs) (s : Int) : rnB s xs < pw n := by
  obtain ⟨r0, r1⟩ := rnB_rng h s
  have hn := h
  obtain ⟨n1, n6, hl, hx, hd⟩ := hn
  obtain ⟨a, ha⟩ := fin64 r0 r1
  obtain ⟨k, hk⟩ := fin7 (by omega : 0 ≤ n) n6
  have := bit_low_fin a k (fun m hm => by
    rw [← Bool.not_eq_true, ha, rnB, rnTo_bit (names_gi h) _ (Nat.le_refl _) m.isLt]
    rintro ⟨i, h1, _, h3⟩
    have := (hx (gi xs i) (by rw [gi_eq xs i h1]; exact List.getElem_mem _)).2
    omega)
  rw [← ha, hk]
  simpa [pw] using this
theorem rn_sub {n : Int} {xs : List Int} (h : Names n xs) {s t : Int} (s0 : 0 ≤ s) (s1 : s < pw n) (t0 : 0 ≤ t) (t1 : t < pw n) : sub (rnB s xs) (rnB t xs) = sub s t := by
  have hp := pw_rng (by have := h.1; omega : 0 ≤ n) h.2.1
  have hl := h.2.2.1
  have rs := rnB_rng h s
  have rt := rnB_rng h t
  refine bool_ext ?_
  rw [sub_bit rs.1 rs.2 rt.1 rt.2, sub_bit s0 (by omega) t0 (by omega)]
  constructor
  · intro hh m hm hb
    by_cases hmn : n ≤ m
    · rw [bit_high s0 (by have := h.1; omega) h.2.1 s1 hm hmn] at hb; cases hb
    · have hi : m < xs.length := by omega
      have h5 := names_gi h m hi
      rw [← rnB_at h t hi]
      exact hh _ (by omega) (by rw [rnB_at h s hi]; exact hb)
  · intro hh m hm hb
    rw [rnB, rnTo_bit (names_gi h) _ (Nat.le_refl _) hm] at hb ⊢
    obtain ⟨i, h1, h2, h3⟩ := hb
    exact ⟨i, h1, hh i (by have := h.2.1; omega) h2, h3⟩
theorem pc_rnTo {n : Int} {xs : List Int} (h : Names n xs) (s : Int) (j : Nat) (hj : j ≤ xs.length) : pc (rnTo s xs j) = cbN s j := by
  induction j with
  | zero => rw [rnTo, cbN]; decide
  | succ j ih =>
    have ih := ih (by omega)
    have ok := rnTo_ok (s := s) (names_gi h) j (by omega)
    have h5 := names_gi h j (by omega)
    rw [rnTo, cbN]
    split
    · obtain ⟨a, ha⟩ := fin64 ok.1 ok.2.1
      have hb : bitP (rnTo s xs j) (gi xs j).toNat = false := by
        rw [← Bool.not_eq_true, rnTo_bit (names_gi h) _ (by omega) (by omega)]
        rintro ⟨i, h1, _, h3⟩
        exact nodup_gi h.2.2.2.2 h1 (by omega) (by omega)
      have := pc_or_fin a ⟨(gi xs j).toNat, by omega⟩ (by rw [ha]; exact hb)
      rw [ha] at this
      rw [this, ih]
    · rw [ih]; omega
theorem pc_rn {n : Int} {xs : List Int} (h : Names n xs) {s : Int} (s0 : 0 ≤ s) (s1 : s < pw n) : pc (rnB s xs) = pc s := by
  have hp := pw_rng (by have := h.1; omega : 0 ≤ n) h.2.1
  have hl := h.2.2.1
  rw [rnB, pc_rnTo h s _ (Nat.le_refl _)]
  obtain ⟨a, ha⟩ := fin64 s0 (by omega)
  obtain ⟨k, hk⟩ := fin7 (by have := h.1; omega : 0 ≤ n) h.2.1
  have e : xs.length = k.val := by omega
  rw [e, ← ha]
  refine cbN_all_fin a k ?_
  rw [ha]
  have : pw n = (2 : Int) ^ k.val := by rw [hk]; simp [pw]
  rw [← this]; exact s1

/-! ### Lists without repetition -/

theorem nodup_len {l1 l2 : List Int} (h : l1.Nodup) (hs : ∀ x ∈ l1, x ∈ l2) : l1.length ≤ l2.length := by
  induction l1 generalizing l2 with
  | nil => simp
  | cons a l1 ih =>
    have ha := hs a (List.mem_cons_self ..)
    rw [List.nodup_cons] at h
    have := ih (l2 := l2.erase a) h.2 (fun x hx => (List.mem_erase_of_ne (fun e => h.1 (by rw [← e]; exact hx))).2 (hs x (List.mem_cons_of_mem _ hx)))
    rw [List.length_erase_of_mem ha] at this
    have : 0 < l2.length := List.length_pos_of_mem ha
    simp only [List.length_cons]
    omega
theorem pigeon {l1 l2 : List Int} (h : l1.Nodup) (hs : ∀ x ∈ l1, x ∈ l2) (hl : l2.length ≤ l1.length) : ∀ y ∈ l2, y ∈ l1 := by
  intro y hy
  by_cases hm : y ∈ l1
  · exact hm
  · have := nodup_len (l1 := y :: l1) (l2 := l2) (List.nodup_cons.2 ⟨hm, h⟩) (fun x hx => by
      rcases List.mem_cons.1 hx with rfl | hx
      · exact hy
      · exact hs x hx)
    simp only [List.length_cons] at this
    omega
theorem rn_surj {n : Int} {xs : List Int} (h : Names n xs) {y : Int} (y0 : 0 ≤ y) (y1 : y < pw n) : ∃ s, 0 ≤ s ∧ s < pw n ∧ rnB s xs = y := by
  have hp := pw_rng (by have := h.1; omega : 0 ≤ n) h.2.1
  obtain ⟨D, hD⟩ : ∃ D : List Int, D = (List.range (pw n).toNat).map fun k : Nat => (k : Int) := ⟨_, rfl⟩
  have mD : ∀ x, x ∈ D ↔ 0 ≤ x ∧ x < pw n := by
    intro x
    rw [hD, List.mem_map]
    constructor
    · rintro ⟨k, hk, rfl⟩
      have := List.mem_range.1 hk
      omega
    · intro hx
      exact ⟨x.toNat, List.mem_range.2 (by omega), by omega⟩
  have nD : D.Nodup := by
    rw [hD]
    refine List.pairwise_map.2 (List.Pairwise.imp ?_ List.nodup_range)
    intro a b hab e
    exact hab (by omega)
  have nM := rnM_nodup (fs := D) h (fun x hx => (mD x).1 hx) nD
  have := pigeon nM (l2 := D) (fun x hx => by
    obtain ⟨s, _, rfl⟩ := List.mem_map.1 hx
    exact (mD _).2 ⟨(rnB_rng h s).1, rnB_low h s⟩) (by simp [rnM]) y ((mD y).2 ⟨y0, y1⟩)
  obtain ⟨s, hs, e⟩ := List.mem_map.1 this
  exact ⟨s, ((mD s).1 hs).1, ((mD s).1 hs).2, e⟩

theorem rowTo_nodup (P : Int → Bool) (z : Int) (k : Nat) : (rowTo P z k).Nodup := by
  induction k with
  | zero => simp [rowTo]
  | succ k ih =>
    rw [rowTo]
    split
    · refine nodup_snoc ih fun h => ?_
      have := (mem_rowTo.1 h).2.1
      omega
    · exact ih
theorem cntS_eq (P : Int → Bool) : cntS P = (List.range (sizesN P)).map fun k : Nat => ((rowTo P (k : Int) 64).length : Int) := by
  simp [cntS, lens, bySz, bySzTo, List.map_map, Function.comp_def]

/-- Two families that a renaming carries to one another have the same numbers by size. -/
theorem cntS_rn {n : Int} {xs : List Int} (h : Names n xs) {P Q : Int → Bool} (hP : ∀ s, 0 ≤ s → s < 64 → P s = true → s < pw n) (hQ : ∀ s, 0 ≤ s → s < 64 → Q s = true → s < pw n)
    (hPQ : ∀ s, 0 ≤ s → s < pw n → Q (rnB s xs) = P s) : cntS Q = cntS P := by
  have hp := pw_rng (by have := h.1; omega : 0 ≤ n) h.2.1
  have hlen : ∀ z : Int, (rowTo Q z 64).length = (rowTo P z 64).length := by
    intro z
    have mP : ∀ x ∈ rowTo P z 64, 0 ≤ x ∧ x < pw n := fun x hx => by
      have := mem_rowTo.1 hx
      exact ⟨this.1, hP x this.1 (by have := this.2.1; omega) this.2.2.1⟩
    have nM := rnM_nodup (fs := rowTo P z 64) h mP (rowTo_nodup P z 64)
    have hM : (rnM (rowTo P z 64) xs).length = (rowTo P z 64).length := by simp [rnM]
    refine Nat.le_antisymm ?_ ?_
    · rw [← hM]
      refine nodup_len (rowTo_nodup Q z 64) fun y hy => ?_
      obtain ⟨y0, y1, y2, y3⟩ := mem_rowTo.1 hy
      obtain ⟨s, s0, s1, rfl⟩ := rn_surj h y0 (hQ y y0 (by omega) y2)
      rw [hPQ s s0 s1] at y2
      rw [pc_rn h s0 s1] at y3
      exact List.mem_map.2 ⟨s, mem_rowTo.2 ⟨s0, by omega, y2, y3⟩, rfl⟩
    · rw [← hM]
      refine nodup_len nM fun y hy => ?_
      obtain ⟨s, hs, rfl⟩ := List.mem_map.1 hy
      obtain ⟨s0, s1⟩ := mP s hs
      have := mem_rowTo.1 hs
      have r := rnB_rng h s
      exact mem_rowTo.2 ⟨r.1, by have := r.2; omega, by rw [hPQ s s0 s1]; exact this.2.2.1, by rw [pc_rn h s0 s1]; exact this.2.2.2⟩
  have htop : topN Q 64 = topN P 64 := by
    refine Int.le_antisymm ?_ ?_
    · refine topN_le (topN_rng P 64).1 fun t ht hq => ?_
      obtain ⟨s, s0, s1, e⟩ := rn_surj h (y := (t : Int)) (by omega) (hQ t (by omega) (by omega) hq)
      rw [← e] at hq ⊢
      rw [hPQ s s0 s1] at hq
      rw [pc_rn h s0 s1]
      have := topN_ge (P := P) (s := 64) (t := s.toNat) (by omega) (by rwa [Int.toNat_of_nonneg s0])
      rwa [Int.toNat_of_nonneg s0] at this
    · refine topN_le (topN_rng Q 64).1 fun t ht hq => ?_
      have t1 := hP t (by omega) (by omega) hq
      have r := rnB_rng h (t : Int)
      have := topN_ge (P := Q) (s := 64) (t := (rnB t xs).toNat) (by omega) (by rw [Int.toNat_of_nonneg r.1, hPQ _ (by omega) t1]; exact hq)
      rw [Int.toNat_of_nonneg r.1, pc_rn h (by omega) t1] at this
      exact this
  rw [cntS_eq, cntS_eq, show sizesN Q = sizesN P by simp [sizesN, htop]]
  exact List.map_congr_left fun k _ => by rw [hlen]

theorem mem_rnL {n : Int} {fs xs : List Int} (h : Names n xs) {y : Int} : y ∈ rnL fs xs ↔ ∃ s ∈ fs, rnB s xs = y := by
  rw [rnL, mem_setsL, mem_iff, rnM, List.mem_map]
  constructor
  · rintro ⟨_, _, h⟩; exact h
  · rintro ⟨s, hs, rfl⟩; exact ⟨(rnB_rng h s).1, (rnB_rng h s).2, s, hs, rfl⟩
/-- The numbers of faces under new names. -/
theorem cnt_rnL {n : Int} {fs xs : List Int} (h : Names n xs) (hf : ∀ x ∈ fs, 0 ≤ x ∧ x < pw n) : cntS (dn (mem (rnL fs xs))) = cntS (dn (mem fs)) := by
  have hp := pw_rng (by have := h.1; omega : 0 ≤ n) h.2.1
  refine cntS_rn h (fun s s0 s1 hs => ?_) (fun s s0 s1 hs => ?_) (fun s s0 s1 => ?_)
  · obtain ⟨t, t0, t1, ht, hst⟩ := dn_iff.1 hs
    have := sub_le6 s0 s1 t0 t1 hst
    have := (hf t (mem_iff.1 ht)).2
    omega
  · obtain ⟨t, t0, t1, ht, hst⟩ := dn_iff.1 hs
    have := sub_le6 s0 s1 t0 t1 hst
    obtain ⟨u, _, rfl⟩ := (mem_rnL h).1 (mem_iff.1 ht)
    have := rnB_low h u
    omega
  · refine bool_ext ?_
    rw [dn_iff, dn_iff]
    constructor
    · rintro ⟨t, t0, t1, ht, hst⟩
      obtain ⟨u, hu, rfl⟩ := (mem_rnL h).1 (mem_iff.1 ht)
      have := hf u hu
      rw [rn_sub h s0 s1 this.1 this.2] at hst
      exact ⟨u, this.1, by omega, mem_iff.2 hu, hst⟩
    · rintro ⟨t, t0, t1, ht, hst⟩
      have := hf t (mem_iff.1 ht)
      have r := rnB_rng h t
      exact ⟨_, r.1, r.2, mem_iff.2 ((mem_rnL h).2 ⟨t, mem_iff.1 ht, rfl⟩), by rw [rn_sub h s0 s1 this.1 this.2]; exact hst⟩

end Go.Proofs.YtjaofbdfhcgmeaaGreat
