/-
  Greatest sets of a family as a complex: plain law.
-/
import Derived.Test.YtjaofbdfhcgmeaaFrom
namespace Go.Proofs.Ytjaofbdfhcgmeaa
open Go.RowKit

theorem sub_leM_fin : ∀ a b : Fin 64, sub a.val b.val = true → a.val ≤ b.val := by decide +kernel
theorem sub_leM {a b : Int} (a0 : 0 ≤ a) (a1 : a < 64) (b0 : 0 ≤ b) (b1 : b < 64) (h : sub a b = true) : a ≤ b := by
  have := sub_leM_fin ⟨a.toNat, by omega⟩ ⟨b.toNat, by omega⟩ (by simp only [Int.toNat_of_nonneg a0, Int.toNat_of_nonneg b0]; exact h)
  simp only at this; omega
theorem avoid_iff {xs : List Int} {s : Int} : avoidP xs s = true ↔ ∀ t ∈ xs, ¬ sub t s = true := by
  rw [avoidP, Bool.not_eq_true', ← Bool.not_eq_true, List.any_eq_true]
  exact ⟨fun h t ht h' => h ⟨t, ht, h'⟩, fun h ⟨t, ht, h'⟩ => h t ht h'⟩
def avoN (n : Int) (xs : List Int) : Int → Bool := upToP (pw n) (avoidP xs)
theorem avoN_iff {n : Int} {xs : List Int} {s : Int} : avoN n xs s = true ↔ s < pw n ∧ ∀ t ∈ xs, ¬ sub t s = true := by
  rw [avoN, upToP, Bool.and_eq_true, decide_eq_true_eq, avoid_iff]
theorem avoN_down {n : Int} {xs : List Int} (s t : Int) (s0 : 0 ≤ s) (s1 : s < 64) (t0 : 0 ≤ t) (t1 : t < 64) (h : avoN n xs t = true) (hs : sub s t = true) : avoN n xs s = true := by
  rw [avoN_iff] at h ⊢
  refine ⟨by have := sub_leM s0 s1 t0 t1 hs; omega, fun u hu hus => h.2 u hu (sub_trans hus hs)⟩
theorem mem_maxL {P : Int → Bool} {s : Int} (s0 : 0 ≤ s) (s1 : s < 64) : mem (maxL P) s = maxP P s := bool_ext (by
  rw [mem_iff, maxL, mem_setsL]
  exact ⟨fun h => h.2.2, fun h => ⟨s0, s1, h⟩⟩)
theorem dn_from {n : Int} {xs : List Int} {s : Int} (s0 : 0 ≤ s) (s1 : s < 64) : dn (mem (fromL n xs)) s = avoN n xs s := by
  rw [fromL, dn_congr (fun t t0 t1 => mem_maxL (P := upToP (pw n) (avoidP xs)) t0 t1) s, dn_maxP]
  exact dn_self avoN_down s0 s1
theorem bef_ne {a b : Int} (h : bef a b) : a ≠ b := fun e => bef_irrefl a (by rw [e] at h ⊢; exact h)
theorem isC_maxL {n : Int} (n1 : 1 ≤ n) (n6 : n ≤ 6) {P : Int → Bool} (hP : ∀ s, 0 ≤ s → s < 64 → P s = true → s < pw n) : IsC n (maxL P) := by
  refine ⟨n1, n6, fun x hx => ?_, setsL_sorted _, ?_⟩
  · obtain ⟨x0, x1, x2⟩ := mem_setsL.1 hx
    exact ⟨x0, hP x x0 x1 (maxP_iff.1 x2).1⟩
  · refine List.Pairwise.imp_of_mem ?_ (setsL_sorted (maxP P))
    intro a b ha hb hab
    obtain ⟨a0, a1, a2⟩ := mem_setsL.1 ha
    obtain ⟨b0, b1, b2⟩ := mem_setsL.1 hb
    rw [← Bool.not_eq_true]
    intro h
    exact bef_ne hab ((maxP_iff.1 a2).2 b b0 b1 (maxP_iff.1 b2).1 h).symm
theorem isC_from {n : Int} {xs : List Int} (n1 : 1 ≤ n) (n6 : n ≤ 6) : IsC n (fromL n xs) := isC_maxL n1 n6 fun s _ _ h => by
  rw [upToP, Bool.and_eq_true, decide_eq_true_eq] at h; exact h.1
theorem sorted_nodup {xs : List Int} (h : xs.Pairwise bef) : xs.Nodup := List.Pairwise.imp (fun hab => bef_ne hab) h
theorem nodupLen' {l1 l2 : List Int} (h : l1.Nodup) (hs : ∀ x ∈ l1, x ∈ l2) : l1.length ≤ l2.length := by
  induction l1 generalizing l2 with
  | nil => simp
  | cons a l1 ih =>
    have ha := hs a (List.mem_cons_self ..)
    rw [List.nodup_cons] at h
    have := ih (l2 := l2.erase a) h.2 (fun x hx => (List.mem_erase_of_ne (fun e => h.1 (by rw [← e]; exact hx))).2 (hs x (List.mem_cons_of_mem _ hx)))
    rw [List.length_erase_of_mem ha] at this
    have : 0 < l2.length := List.length_pos_of_mem ha
    simp only [List.length_cons]
    omega
theorem setsL_len64 (P : Int → Bool) : (setsL P).length ≤ 64 := by
  have := nodupLen' (l2 := (List.range 64).map fun k : Nat => (k : Int)) (sorted_nodup (setsL_sorted P)) fun x hx => by
    obtain ⟨x0, x1, _⟩ := mem_setsL.1 hx
    exact List.mem_map.2 ⟨x.toNat, List.mem_range.2 (by omega), by omega⟩
  simpa using this
theorem mem_miss {n : Int} {c : List Int} (hc : IsC n c) {x : Int} : x ∈ missB n c ↔ 0 ≤ x ∧ x < 64 ∧ minP (upToP (pw n) (notP (dn (mem c)))) x = true := by
  rw [missB, if_pos hc]; exact mem_setsL
theorem miss_areS {n : Int} {c : List Int} (hc : IsC n c) : AreS n (missB n c) := by
  refine ⟨hc.1, hc.2.1, ?_, fun x hx => ?_⟩
  · rw [missB, if_pos hc]; exact setsL_len64 _
  · obtain ⟨x0, _, x2⟩ := (mem_miss hc).1 hx
    have := (minP_iff.1 x2).1
    rw [upToP, Bool.and_eq_true, decide_eq_true_eq] at this
    exact ⟨x0, this.1⟩
/-- No facet lies in another. -/
theorem facet_eq {n : Int} {c : List Int} (hc : IsC n c) {a b : Int} (ha : a ∈ c) (hb : b ∈ c) (h : sub a b = true) : b = a := by
  by_cases e : b = a
  · exact e
  · exfalso
    have ra := hc.rng a ha
    have rb := hc.rng b hb
    have hab := sub_lt_before ra.1 ra.2 rb.1 rb.2 h e
    obtain ⟨i, hi, ei⟩ := List.getElem_of_mem ha
    obtain ⟨j, hj, ej⟩ := List.getElem_of_mem hb
    rcases Nat.lt_trichotomy i j with hij | hij | hij
    · have := (List.pairwise_iff_getElem.1 hc.2.2.2.2) i j hi hj hij
      rw [ei, ej, h] at this
      cases this
    · subst hij
      exact e (by rw [← ei, ← ej])
    · have := (List.pairwise_iff_getElem.1 hc.2.2.2.1) j i hj hi hij
      rw [ei, ej] at this
      exact bef_irrefl' hab this
theorem maxL_self {n : Int} {c : List Int} (hc : IsC n c) : maxL (mem c) = c := by
  have e : setsL (mem c) = c := setsL_mem hc.rng hc.2.2.2.1
  have : maxL (mem c) = setsL (mem c) := setsL_congr fun s _ _ => bool_ext (by
    rw [maxP_iff]
    exact ⟨fun h => h.1, fun h => ⟨h, fun t _ _ ht hst => facet_eq hc (mem_iff.1 h) (mem_iff.1 ht) hst⟩⟩)
  rw [this, e]
theorem dn_lt {n : Int} {c : List Int} (hc : IsC n c) {s : Int} (s0 : 0 ≤ s) (s1 : s < 64) (h : dn (mem c) s = true) : s < pw n := by
  obtain ⟨t, t0, t1, ht, hst⟩ := dn_iff.1 h
  have := sub_leM s0 s1 t0 t1 hst
  have := (hc.2.2.1 t (mem_iff.1 ht)).2
  omega
theorem dn_down {P : Int → Bool} {s t : Int} (h : dn P t = true) (hst : sub s t = true) : dn P s = true := by
  obtain ⟨u, u0, u1, hu, htu⟩ := dn_iff.1 h
  exact dn_iff.2 ⟨u, u0, u1, hu, sub_trans hst htu⟩

end Go.Proofs.Ytjaofbdfhcgmeaa
