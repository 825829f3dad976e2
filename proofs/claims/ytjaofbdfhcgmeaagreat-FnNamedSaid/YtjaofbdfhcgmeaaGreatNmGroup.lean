/-
  Names as a group: the canonical complex is alike, the classes of points divide the points; plain law.
-/
import Derived.Test.YtjaofbdfhcgmeaaGreatZPts
import Derived.Test.YtjaofbdfhcgmeaaGreatZAlike
import Derived.Test.YtjaofbdfhcgmeaaGreatNmHoles
namespace Go.Proofs.YtjaofbdfhcgmeaaGreat
open Go.RowKit

/-! ### Lists without repeats, of anything -/

theorem nodup_lenG {α : Type} [BEq α] [LawfulBEq α] {l1 l2 : List α} (h : l1.Nodup) (hs : ∀ x ∈ l1, x ∈ l2) : l1.length ≤ l2.length := by
  induction l1 generalizing l2 with
  | nil => simp
  | cons a l1 ih =>
    have ha := hs a (List.mem_cons_self ..)
    rw [List.nodup_cons] at h
    have := ih (l2 := l2.erase a) h.2 (fun x hx => (List.mem_erase_of_ne (fun e => h.1 (by rw [← e]; exact hx))).2 (hs x (List.mem_cons_of_mem _ hx)))
    rw [List.length_erase_of_mem ha] at this
    have : 0 < l2.length := List.length_pos_of_mem ha
    simp only [List.length_cons]
    omega
theorem pigeonG {α : Type} [BEq α] [LawfulBEq α] {l1 l2 : List α} (h : l1.Nodup) (hs : ∀ x ∈ l1, x ∈ l2) (hl : l2.length ≤ l1.length) : ∀ y ∈ l2, y ∈ l1 := by
  intro y hy
  refine Classical.byContradiction fun hm => ?_
  have := nodup_lenG (l1 := y :: l1) (l2 := l2) (List.nodup_cons.2 ⟨hm, h⟩) (fun x hx => by
    rcases List.mem_cons.1 hx with rfl | hx
    · exact hy
    · exact hs x hx)
  simp only [List.length_cons] at this
  omega
theorem nodup_mapG {α β : Type} {f : α → β} {l : List α} (h : l.Nodup) (hi : ∀ x ∈ l, ∀ y ∈ l, f x = f y → x = y) : (l.map f).Nodup :=
  List.pairwise_map.2 (List.Pairwise.imp_of_mem (fun ha hb hab e => hab (hi _ ha _ hb e)) h)

/-! ### Names after names -/

def compL (xs ys : List Int) : List Int := xs.map fun x => gi ys x.toNat
theorem compL_len (xs ys : List Int) : (compL xs ys).length = xs.length := by simp [compL]
theorem compL_gi {xs ys : List Int} {i : Nat} (h : i < xs.length) : gi (compL xs ys) i = gi ys (gi xs i).toNat := by
  rw [gi_eq _ i (by rw [compL_len]; exact h), gi_eq xs i h]
  simp [compL]
theorem names_at {n : Int} {xs : List Int} (h : Names n xs) {i : Nat} (hi : i < xs.length) : 0 ≤ gi xs i ∧ gi xs i < n := h.2.2.2.1 _ (gi_mem hi)
theorem names_len {n : Int} {xs : List Int} (h : Names n xs) : (xs.length : Int) = n := h.2.2.1
theorem names_comp {n : Int} {xs ys : List Int} (h : Names n xs) (h' : Names n ys) : Names n (compL xs ys) := by
  have lx := names_len h
  have ly := names_len h'
  refine ⟨h.1, h.2.1, by rw [compL_len]; exact lx, fun x hx => ?_, nodup_mapG h.2.2.2.2 fun x hx y hy e => ?_⟩
  · obtain ⟨a, ha, rfl⟩ := List.mem_map.1 hx
    have := h.2.2.2.1 a ha
    exact names_at h' (by omega)
  · have rx := h.2.2.2.1 x hx
    have ry := h.2.2.2.1 y hy
    have := nodup_inj h'.2.2.2.2 (i := x.toNat) (j := y.toNat) (by omega) (by omega) e
    omega
theorem rnB_bit {n : Int} {xs : List Int} (h : Names n xs) (s : Int) {m : Nat} (hm : m < 6) : bitP (rnB s xs) m = true ↔ ∃ i, i < xs.length ∧ bitP s i = true ∧ gi xs i = m := rnTo_bit (names_gi h) _ (Nat.le_refl _) hm
theorem rnB_comp {n : Int} {xs ys : List Int} (h : Names n xs) (h' : Names n ys) (s : Int) : rnB (rnB s xs) ys = rnB s (compL xs ys) := by
  have hc := names_comp h h'
  have r1 := rnB_rng h' (rnB s xs)
  have r2 := rnB_rng hc s
  have lx := names_len h
  have ly := names_len h'
  have n6 := h.2.1
  refine bit_ext r1.1 r1.2 r2.1 r2.2 fun m hm => bool_ext ?_
  rw [rnB_bit h' _ hm, rnB_bit hc _ hm, compL_len]
  constructor
  · rintro ⟨i, hi, hb, hg⟩
    obtain ⟨a, ha, hb2, hg2⟩ := (rnB_bit h s (m := i) (by omega)).1 hb
    exact ⟨a, ha, hb2, by rw [compL_gi ha, hg2]; exact hg⟩
  · rintro ⟨a, ha, hb, hg⟩
    have ra := names_at h ha
    rw [compL_gi ha] at hg
    exact ⟨(gi xs a).toNat, by omega, (rnB_bit h s (by omega)).2 ⟨a, ha, hb, by omega⟩, hg⟩
theorem rnL_comp {n : Int} {fs xs ys : List Int} (h : Names n xs) (h' : Names n ys) : rnL (rnL fs xs) ys = rnL fs (compL xs ys) :=
  sorted_ext (setsL_sorted _) (setsL_sorted _) fun y => by
    have e1 := mem_rnL (fs := rnL fs xs) h' (y := y)
    have e2 := mem_rnL (fs := fs) (names_comp h h') (y := y)
    show y ∈ rnL (rnL fs xs) ys ↔ y ∈ rnL fs (compL xs ys)
    rw [e1, e2]
    constructor
    · rintro ⟨t, ht, rfl⟩
      obtain ⟨s, hs, rfl⟩ := (mem_rnL h).1 ht
      exact ⟨s, hs, (rnB_comp h h' s).symm⟩
    · rintro ⟨s, hs, rfl⟩
      exact ⟨_, (mem_rnL h).2 ⟨s, hs, rfl⟩, rnB_comp h h' s⟩
def idL (n : Int) : List Int := (List.range n.toNat).map fun k : Nat => (k : Int)
theorem idL_len (n : Int) : (idL n).length = n.toNat := by simp [idL]
theorem idL_gi {n : Int} {i : Nat} (h : i < n.toNat) : gi (idL n) i = i := by
  rw [gi_eq _ i (by rw [idL_len]; exact h)]
  simp [idL]
theorem id_names {n : Int} (h1 : 1 ≤ n) (h6 : n ≤ 6) : Names n (idL n) := by
  refine ⟨h1, h6, by rw [idL_len]; omega, fun x hx => ?_, nodup_mapG List.nodup_range fun x _ y _ e => by omega⟩
  obtain ⟨k, hk, rfl⟩ := List.mem_map.1 hx
  have := List.mem_range.1 hk
  omega
theorem rnB_id {n s : Int} (h1 : 1 ≤ n) (h6 : n ≤ 6) (s0 : 0 ≤ s) (s1 : s < pw n) : rnB s (idL n) = s := by
  have hI := id_names h1 h6
  have r := rnB_rng hI s
  have h64 := (pw_rng (by omega : 0 ≤ n) h6).2
  refine bit_ext r.1 r.2 s0 (by omega) fun m hm => bool_ext ?_
  rw [rnB_bit hI s hm, idL_len]
  constructor
  · rintro ⟨i, hi, hb, hg⟩
    rw [idL_gi hi] at hg
    have : i = m := by omega
    subst this; exact hb
  · intro hb
    have hmn : m < n.toNat := by
      refine Nat.lt_of_not_le fun hn => ?_
      rw [bit_high s0 (by omega) h6 s1 hm (by omega)] at hb
      cases hb
    exact ⟨m, hmn, hb, idL_gi hmn⟩
theorem rnL_id {n : Int} {fs : List Int} (hc : IsC n fs) : rnL fs (idL n) = fs :=
  sorted_ext (setsL_sorted _) hc.2.2.2.1 fun y => by
    show y ∈ rnL fs (idL n) ↔ y ∈ fs
    rw [mem_rnL (id_names hc.1 hc.2.1)]
    constructor
    · rintro ⟨s, hs, rfl⟩
      have := hc.2.2.1 s hs
      rw [rnB_id hc.1 hc.2.1 this.1 this.2]; exact hs
    · intro hy
      have := hc.2.2.1 y hy
      exact ⟨y, hy, rnB_id hc.1 hc.2.1 this.1 this.2⟩

/-! ### All names -/

theorem take_lvl {N : Nat} {xs : List Int} (hl : xs.length = N) (hr : ∀ x ∈ xs, 0 ≤ x ∧ x < (N : Int)) (hd : xs.Nodup) : ∀ k, k ≤ N → xs.take k ∈ lvl N k
  | 0, _ => by simp [lvl]
  | k + 1, hk => by
    have hk2 : k < xs.length := by omega
    rw [lvl, List.mem_flatMap]
    refine ⟨xs.take k, take_lvl hl hr hd k (by omega), mem_extTo.2 ⟨(gi xs k).toNat, ?_, ?_, ?_⟩⟩
    · have := hr _ (gi_mem hk2); omega
    · have := hr _ (gi_mem hk2)
      rw [Int.toNat_of_nonneg this.1]
      intro hm
      obtain ⟨i, hi, e⟩ := mem_gi hm
      have hi2 : i < k := by rw [List.length_take] at hi; omega
      have e2 : gi (xs.take k) i = gi xs i := by simp [gi, List.getD, hi2]
      rw [e2] at e
      exact nodup_gi hd hi2 hk2 e
    · have := hr _ (gi_mem hk2)
      rw [Int.toNat_of_nonneg this.1, take_succ_gi hk2]
theorem lvl_full {n : Int} {xs : List Int} (h : Names n xs) : xs ∈ lvl n.toNat n.toNat := by
  have hl := names_len h
  have := take_lvl (N := n.toNat) (by omega) (fun x hx => by have := h.2.2.2.1 x hx; omega) h.2.2.2.2 n.toNat (Nat.le_refl _)
  rwa [List.take_of_length_le (by omega)] at this
theorem extTo_nodup (l : List Int) : ∀ k, (extTo l k).Nodup
  | 0 => List.Pairwise.nil
  | k + 1 => by
    rw [extTo]
    split
    · exact extTo_nodup l k
    · refine List.pairwise_append.2 ⟨extTo_nodup l k, by simp, fun a ha b hb => ?_⟩
      obtain ⟨x, hx, _, rfl⟩ := mem_extTo.1 ha
      rw [List.mem_singleton.1 hb]
      intro e
      have := List.append_inj_right e rfl
      simp at this
      omega
theorem lvl_nodup (n : Nat) : ∀ k, (lvl n k).Nodup
  | 0 => by simp [lvl]
  | k + 1 => by
    rw [lvl]
    refine List.pairwise_flatMap.2 ⟨fun a _ => extTo_nodup a n, List.Pairwise.imp_of_mem ?_ (lvl_nodup n k)⟩
    intro a b ha hb hab x hx y hy e
    obtain ⟨u, _, _, rfl⟩ := mem_extTo.1 hx
    obtain ⟨v, _, _, rfl⟩ := mem_extTo.1 hy
    refine hab (List.append_inj_left e ?_)
    rw [(lvl_rows ha).1, (lvl_rows hb).1]

/-! ### The canonical complex -/

theorem lexB_trans : ∀ {xs ys zs : List Int}, lexB xs ys = true → lexB ys zs = true → lexB xs zs = true
  | [], _, _, h, _ => by simp [lexB] at h
  | _ :: _, [], _, h, _ => by simp [lexB] at h
  | _ :: _, _ :: _, [], _, h => by simp [lexB] at h
  | x :: xs, y :: ys, z :: zs, h, h' => by
    rw [lexB] at h h' ⊢
    by_cases e1 : x = y
    · subst e1
      rw [if_pos rfl] at h
      by_cases e2 : x = z
      · subst e2
        rw [if_pos rfl] at h' ⊢
        exact lexB_trans h h'
      · rw [if_neg e2] at h' ⊢; exact h'
    · rw [if_neg e1, decide_eq_true_eq] at h
      by_cases e2 : y = z
      · subst e2
        rw [if_neg e1, decide_eq_true_eq]; exact h
      · rw [if_neg e2, decide_eq_true_eq] at h'
        rw [if_neg (by omega), decide_eq_true_eq]; omega
theorem best_min (L : List (List Int)) (fs : List Int) : ∀ j, j ≤ L.length → ∀ i, i < j → lexB (rnL fs (gr L i)) (bestTo L fs j) = false
  | 0, _, i, hi => by omega
  | j + 1, hj, i, hi => by
    rw [bestTo]
    split
    · rename_i hb
      by_cases e : i = j
      · subst e; exact lexB_refl _
      · rw [← Bool.not_eq_true]
        intro h
        have h2 := lexB_trans h hb
        rw [best_min L fs j (by omega) i (by omega)] at h2
        cases h2
    · rename_i hb
      by_cases e : i = j
      · subst e; simpa using hb
      · exact best_min L fs j (by omega) i (by omega)
theorem best_is {n : Int} {fs : List Int} (hc : IsC n fs) {L : List (List Int)} (hL : ∀ j, j < L.length → Names n (gr L j)) : ∀ j, j ≤ L.length → ∃ xs, Names n xs ∧ bestTo L fs j = rnL fs xs
  | 0, _ => ⟨idL n, id_names hc.1 hc.2.1, (rnL_id hc).symm⟩
  | j + 1, hj => by
    rw [bestTo]
    split
    · exact ⟨_, hL j (by omega), rfl⟩
    · exact best_is hc hL j (by omega)
theorem lvl_nm {n : Int} (n1 : 1 ≤ n) (n6 : n ≤ 6) {j : Nat} (hj : j < (lvl n.toNat n.toNat).length) : Names n (gr (lvl n.toNat n.toNat) j) := by
  have := lvl_names (n := n.toNat) (by omega) (by omega) (gr_mem hj)
  rwa [show ((n.toNat : Nat) : Int) = n by omega] at this
theorem can_is {n : Int} {fs : List Int} (hc : IsC n fs) : ∃ xs, Names n xs ∧ canL n fs = rnL fs xs := best_is hc (fun _ hj => lvl_nm hc.1 hc.2.1 hj) _ (Nat.le_refl _)
theorem can_isC {n : Int} {fs : List Int} (hc : IsC n fs) : IsC n (canL n fs) := by
  obtain ⟨xs, hx, e⟩ := can_is hc
  rw [e]; exact rnL_isC hx hc
theorem can_can {n : Int} {fs : List Int} (hc : IsC n fs) : canL n (canL n fs) = canL n fs := by
  obtain ⟨xs, hx, e⟩ := can_is hc
  have hno : ∀ ys, Names n ys → lexB (rnL (canL n fs) ys) (canL n fs) = false := fun ys hy => by
    obtain ⟨i, hi, ei⟩ := mem_gr (lvl_full (names_comp hx hy))
    have h := best_min (lvl n.toNat n.toNat) fs _ (Nat.le_refl _) i hi
    rw [ei, ← rnL_comp hx hy, ← e] at h
    exact h
  have : ∀ j, j ≤ (lvl n.toNat n.toNat).length → bestTo (lvl n.toNat n.toNat) (canL n fs) j = canL n fs := by
    intro j
    induction j with
    | zero => intro _; rfl
    | succ j ih =>
      intro hj
      rw [bestTo, ih (by omega), if_neg]
      rw [hno _ (lvl_nm hc.1 hc.2.1 (by omega))]; simp
  exact this _ (Nat.le_refl _)
theorem can_alike {n : Int} {fs : List Int} (hc : IsC n fs) : alikeB n (canL n fs) n fs = true := by
  rw [alikeB, isC_iff.2 (can_isC hc), isC_iff.2 hc, can_can hc]
  simp

/-! ### Symmetries -/

theorem mem_sym {n : Int} {fs xs : List Int} (hc : IsC n fs) : xs ∈ symL n fs ↔ Names n xs ∧ rnL fs xs = fs := by
  have n1 := hc.1
  have n6 := hc.2.1
  rw [symL, List.mem_filter, fixB, decide_eq_true_eq]
  constructor
  · rintro ⟨h1, h2⟩
    have := lvl_names (n := n.toNat) (by omega) (by omega) h1
    exact ⟨by rwa [show ((n.toNat : Nat) : Int) = n by omega] at this, h2⟩
  · rintro ⟨h1, h2⟩; exact ⟨lvl_full h1, h2⟩
theorem sym_nodup (n : Int) (fs : List Int) : (symL n fs).Nodup := List.Pairwise.filter _ (lvl_nodup _ _)
theorem sym_id {n : Int} {fs : List Int} (hc : IsC n fs) : idL n ∈ symL n fs := (mem_sym hc).2 ⟨id_names hc.1 hc.2.1, rnL_id hc⟩
theorem sym_comp {n : Int} {fs xs ys : List Int} (hc : IsC n fs) (hx : xs ∈ symL n fs) (hy : ys ∈ symL n fs) : compL xs ys ∈ symL n fs := by
  obtain ⟨x1, x2⟩ := (mem_sym hc).1 hx
  obtain ⟨y1, y2⟩ := (mem_sym hc).1 hy
  exact (mem_sym hc).2 ⟨names_comp x1 y1, by rw [← rnL_comp x1 y1, x2, y2]⟩
theorem list_gi_ext {xs ys : List Int} (hl : xs.length = ys.length) (h : ∀ i, i < xs.length → gi xs i = gi ys i) : xs = ys :=
  List.ext_getElem hl fun i h1 h2 => by
    have := h i h1
    rwa [gi_eq _ _ h1, gi_eq _ _ h2] at this
theorem comp_inj {n : Int} {xs ys g : List Int} (hx : Names n xs) (hy : Names n ys) (hg : Names n g) (e : compL xs g = compL ys g) : xs = ys := by
  have lx := names_len hx
  have ly := names_len hy
  have lg := names_len hg
  refine list_gi_ext (by omega) fun i hi => ?_
  have e1 := compL_gi (xs := xs) (ys := g) hi
  have e2 := compL_gi (xs := ys) (ys := g) (i := i) (by omega)
  have rx := names_at hx hi
  have ry := names_at hy (i := i) (by omega)
  have := nodup_inj hg.2.2.2.2 (i := (gi xs i).toNat) (j := (gi ys i).toNat) (by omega) (by omega) (by rw [← e1, ← e2, e])
  omega
theorem sym_back {n : Int} {fs g : List Int} (hc : IsC n fs) (hg : g ∈ symL n fs) : ∃ b, b ∈ symL n fs ∧ compL b g = idL n := by
  have h := pigeonG (l1 := (symL n fs).map fun xs => compL xs g) (l2 := symL n fs) (nodup_mapG (sym_nodup n fs) fun x hx y hy e => comp_inj ((mem_sym hc).1 hx).1 ((mem_sym hc).1 hy).1 ((mem_sym hc).1 hg).1 e)
    (fun x hx => by
      obtain ⟨y, hy, rfl⟩ := List.mem_map.1 hx
      exact sym_comp hc hy hg) (by simp) (idL n) (sym_id hc)
  obtain ⟨b, hb, e⟩ := List.mem_map.1 h
  exact ⟨b, hb, e⟩
/-- Some symmetry takes i to j. -/
def Rel (n : Int) (fs : List Int) (i j : Nat) : Prop := ∃ g, g ∈ symL n fs ∧ gi g i = j
theorem rel_refl {n : Int} {fs : List Int} (hc : IsC n fs) {i : Nat} (hi : i < n.toNat) : Rel n fs i i := ⟨idL n, sym_id hc, idL_gi hi⟩
theorem rel_lt {n : Int} {fs : List Int} (hc : IsC n fs) {i j : Nat} (hi : i < n.toNat) (h : Rel n fs i j) : j < n.toNat := by
  obtain ⟨g, hg, e⟩ := h
  have hN := ((mem_sym hc).1 hg).1
  have := names_at hN (i := i) (by have := names_len hN; omega)
  omega
theorem rel_trans {n : Int} {fs : List Int} (hc : IsC n fs) {i j k : Nat} (hi : i < n.toNat) (h : Rel n fs i j) (h' : Rel n fs j k) : Rel n fs i k := by
  obtain ⟨g, hg, e⟩ := h
  obtain ⟨g', hg', e'⟩ := h'
  have hN := ((mem_sym hc).1 hg).1
  exact ⟨compL g g', sym_comp hc hg hg', by rw [compL_gi (by have := names_len hN; omega), e]; exact e'⟩
theorem rel_symm {n : Int} {fs : List Int} (hc : IsC n fs) {i j : Nat} (hi : i < n.toNat) (h : Rel n fs i j) : Rel n fs j i := by
  have hj := rel_lt hc hi h
  obtain ⟨g, hg, e⟩ := h
  obtain ⟨b, hb, e2⟩ := sym_back hc hg
  have hN := ((mem_sym hc).1 hg).1
  have hB := ((mem_sym hc).1 hb).1
  have lN := names_len hN
  have lB := names_len hB
  refine ⟨b, hb, ?_⟩
  have h1 : gi (compL b g) j = j := by rw [e2]; exact idL_gi hj
  rw [compL_gi (by omega)] at h1
  have rb := names_at hB (i := j) (by omega)
  have := nodup_inj hN.2.2.2.2 (i := (gi b j).toNat) (j := i) (by omega) (by omega) (by rw [h1, e])
  omega

/-! ### Counting symmetries -/

def cntG (G : List (List Int)) (i : Nat) (j : Int) : Nat := (G.filter fun g => decide (gi g i = j)).length
theorem cnt_move {n : Int} {fs : List Int} (hc : IsC n fs) {i j k : Nat} (hi : i < n.toNat) (h : Rel n fs j k) : cntG (symL n fs) i j ≤ cntG (symL n fs) i k := by
  obtain ⟨g, hg, e⟩ := h
  have hG := ((mem_sym hc).1 hg).1
  have := nodup_lenG (l1 := ((symL n fs).filter fun x => decide (gi x i = (j : Int))).map fun x => compL x g) (l2 := (symL n fs).filter fun x => decide (gi x i = (k : Int)))
    (nodup_mapG (List.Pairwise.filter _ (sym_nodup n fs)) fun x hx y hy e => comp_inj ((mem_sym hc).1 (List.mem_filter.1 hx).1).1 ((mem_sym hc).1 (List.mem_filter.1 hy).1).1 hG e)
    (fun x hx => by
      obtain ⟨y, hy, rfl⟩ := List.mem_map.1 hx
      obtain ⟨y1, y2⟩ := List.mem_filter.1 hy
      have hN := ((mem_sym hc).1 y1).1
      refine List.mem_filter.2 ⟨sym_comp hc y1 hg, ?_⟩
      rw [compL_gi (by have := names_len hN; omega), of_decide_eq_true y2]
      simpa using e)
  rw [List.length_map] at this
  exact this
theorem cnt_none {n : Int} {fs : List Int} {i j : Nat} (h : ¬ Rel n fs i j) : cntG (symL n fs) i j = 0 := by
  refine List.length_eq_zero_iff.2 (List.filter_eq_nil_iff.2 fun g hg => ?_)
  rw [decide_eq_true_eq]
  exact fun e => h ⟨g, hg, e⟩
theorem cnt_step (G : List (List Int)) (i k : Nat) : (G.filter fun g => decide (gi g i < ((k + 1 : Nat) : Int))).length = (G.filter fun g => decide (gi g i < (k : Int))).length + cntG G i k := by
  unfold cntG
  induction G with
  | nil => rfl
  | cons g G ih =>
    simp only [List.filter_cons]
    by_cases h1 : gi g i < (k : Int)
    · rw [decide_eq_true h1, decide_eq_true (show gi g i < ((k + 1 : Nat) : Int) by omega), decide_eq_false (show ¬ gi g i = (k : Int) by omega)]
      simp only [if_true, Bool.false_eq_true, if_false, List.length_cons]
      omega
    · by_cases h2 : gi g i = (k : Int)
      · rw [decide_eq_false h1, decide_eq_true (show gi g i < ((k + 1 : Nat) : Int) by omega), decide_eq_true h2]
        simp only [if_true, Bool.false_eq_true, if_false, List.length_cons]
        omega
      · rw [decide_eq_false h1, decide_eq_false (show ¬ gi g i < ((k + 1 : Nat) : Int) by omega), decide_eq_false h2]
        simp only [Bool.false_eq_true, if_false]
        exact ih
/-- Each class' size divides the number of symmetries. -/
theorem class_count {n : Int} {fs : List Int} (hc : IsC n fs) {i : Nat} (hi : i < n.toNat) {s : Int} (s0 : 0 ≤ s) (s1 : s < pw n) (hs : ∀ m, m < 6 → (bitP s m = true ↔ Rel n fs i m)) :
    ((symL n fs).length : Int) = (cntG (symL n fs) i i : Int) * pc s := by
  have n1 := hc.1
  have n6 := hc.2.1
  have h64 := (pw_rng (by omega : 0 ≤ n) n6).2
  have key : ∀ k, k ≤ n.toNat → (((symL n fs).filter fun g => decide (gi g i < (k : Int))).length : Int) = (cntG (symL n fs) i i : Int) * cbN s k := by
    intro k
    induction k with
    | zero =>
      intro _
      have : ((symL n fs).filter fun g => decide (gi g i < ((0 : Nat) : Int))) = [] := List.filter_eq_nil_iff.2 fun g hg => by
        have hN := ((mem_sym hc).1 hg).1
        have := names_at hN (i := i) (by have := names_len hN; omega)
        simp; omega
      rw [this]
      simp [cbN]
    | succ k ih =>
      intro hk
      have h1 := ih (by omega)
      have h2 := cnt_step (symL n fs) i k
      have h3 : (cntG (symL n fs) i k : Int) = if bitP s k = true then (cntG (symL n fs) i i : Int) else 0 := by
        by_cases hb : bitP s k = true
        · rw [if_pos hb]
          have hr := (hs k (by omega)).1 hb
          have a1 := cnt_move hc (i := i) hi hr
          have a2 := cnt_move hc (i := i) hi (rel_symm hc hi hr)
          omega
        · rw [if_neg hb, cnt_none fun hr => hb ((hs k (by omega)).2 hr)]; rfl
      have h4 : cbN s (k + 1) = cbN s k + if bitP s k = true then 1 else 0 := by rw [cbN]
      rw [h4, h2, Int.natCast_add, h1, h3, Int.mul_add]
      split <;> simp
  have hall : ((symL n fs).filter fun g => decide (gi g i < ((n.toNat : Nat) : Int))) = symL n fs := List.filter_eq_self.2 fun g hg => by
    have hN := ((mem_sym hc).1 hg).1
    have := names_at hN (i := i) (by have := names_len hN; omega)
    simp; omega
  have := key n.toNat (Nat.le_refl _)
  rw [hall] at this
  rw [this]
  congr 1
  obtain ⟨a, ha⟩ := fin64 s0 (by omega)
  rw [← ha]
  have e := cbN_all_fin a ⟨n.toNat, by omega⟩ (by show (a.val : Int) < 2 ^ n.toNat; rw [ha]; exact s1)
  exact e

/-! ### The classes -/

theorem clsO_bit {L : List (List Int)} {N : Nat} (h : ∀ j, j < L.length → ∀ i, i < N → 0 ≤ gi (gr L j) i ∧ gi (gr L j) i ≤ 5) {i : Nat} (hi : i < N) {m : Nat} (hm : m < 6) : ∀ J, J ≤ L.length → (bitP (clsO L J i) m = true ↔ ∃ j, j < J ∧ gi (gr L j) i = m)
  | 0, _ => by simp [clsO, bit_zero hm]
  | J + 1, hJ => by
    have r := clsO_rng h (j := J) (by omega) hi
    have g := h J (by omega) i hi
    rw [clsO, bit_or r.1 r.2 (by omega) hm, Bool.or_eq_true, clsO_bit h hi hm J (by omega)]
    constructor
    · rintro (h1 | ⟨j, h1, h2⟩)
      · exact ⟨J, by omega, by simp at h1; omega⟩
      · exact ⟨j, by omega, h2⟩
    · rintro ⟨j, h1, h2⟩
      by_cases e : j = J
      · subst e; left; simp; omega
      · exact .inr ⟨j, by omega, h2⟩
theorem low_fin : ∀ s : Fin 64, ∀ i : Fin 6, lowB s.val i.val = true ↔ ∀ m : Fin 6, m.val < i.val → bitP s.val m.val = false := by decide +kernel
theorem join_fin : ∀ a b : Fin 64, (∀ m : Fin 6, ¬ (bitP a.val m.val = true ∧ bitP b.val m.val = true)) → bits .and .i64 (a.val : Int) (b.val : Int) = 0 ∧ a.val + b.val < 64 ∧ ∀ m : Fin 6, bitP ((a.val : Int) + (b.val : Int)) m.val = (bitP a.val m.val || bitP b.val m.val) := by decide +kernel
theorem full_fin : ∀ n : Fin 7, ∀ m : Fin 6, bitP ((2 : Int) ^ n.val - 1) m.val = decide (m.val < n.val) := by decide +kernel
theorem join_bits {a b : Int} (a0 : 0 ≤ a) (a1 : a < 64) (b0 : 0 ≤ b) (b1 : b < 64) (h : ∀ m, m < 6 → bitP a m = true → bitP b m = true → False) :
    bits .and .i64 a b = 0 ∧ a + b < 64 ∧ ∀ m, m < 6 → bitP (a + b) m = (bitP a m || bitP b m) := by
  obtain ⟨x, rfl⟩ := fin64 a0 a1
  obtain ⟨y, rfl⟩ := fin64 b0 b1
  obtain ⟨h1, h2, h3⟩ := join_fin x y fun m hm => h m.val m.isLt hm.1 hm.2
  exact ⟨h1, by omega, fun m hm => h3 ⟨m, hm⟩⟩
def accL (C : List Int) : Nat → Int
  | 0 => 0
  | k + 1 => accL C k + gi C k
theorem accL_app {C : List Int} (s : Int) : ∀ k, k ≤ C.length → accL (C ++ [s]) k = accL C k
  | 0, _ => rfl
  | k + 1, h => by
    rw [accL, accL, accL_app s k (by omega)]
    congr 1
    simp [gi, List.getD, List.getElem?_append_left (show k < C.length by omega)]
structure ClsAt (n : Int) (fs C : List Int) (k : Nat) : Prop where
  s0 : 0 < gi C k
  s1 : gi C k < 64
  a0 : 0 ≤ accL C k
  a1 : accL C k < 64
  an : bits .and .i64 (accL C k) (gi C k) = 0
  nx : accL C k + gi C k < 64
  pc1 : 1 ≤ pc (gi C k)
  dv : ∃ c : Nat, ((symL n fs).length : Int) = (c : Int) * pc (gi C k)
theorem cls_law {n : Int} {fs : List Int} (hc : IsC n fs) : ∀ i, i ≤ n.toNat →
    (∀ k, k < (pcsTo (symL n fs) (symL n fs).length i).length → ClsAt n fs (pcsTo (symL n fs) (symL n fs).length i) k) ∧
    (0 ≤ accL (pcsTo (symL n fs) (symL n fs).length i) (pcsTo (symL n fs) (symL n fs).length i).length ∧ accL (pcsTo (symL n fs) (symL n fs).length i) (pcsTo (symL n fs) (symL n fs).length i).length < 64) ∧
    ∀ m, m < 6 → (bitP (accL (pcsTo (symL n fs) (symL n fs).length i) (pcsTo (symL n fs) (symL n fs).length i).length) m = true ↔ ∃ j, j < i ∧ Rel n fs j m) := by
  have n1 := hc.1
  have n6 := hc.2.1
  have h64 := (pw_rng (by omega : 0 ≤ n) n6).2
  have hrow : ∀ j, j < (symL n fs).length → ∀ i, i < n.toNat → 0 ≤ gi (gr (symL n fs) j) i ∧ gi (gr (symL n fs) j) i ≤ 5 := fun j hj i hi => by
    have hN := symL_names hc.1 hc.2.1 hj
    have := names_at hN (i := i) (by have := names_len hN; omega)
    omega
  have hbit : ∀ i, i < n.toNat → ∀ m, m < 6 → (bitP (clsO (symL n fs) (symL n fs).length i) m = true ↔ Rel n fs i m) := fun i hi m hm => by
    rw [clsO_bit hrow hi hm _ (Nat.le_refl _)]
    constructor
    · rintro ⟨j, hj, e⟩; exact ⟨_, gr_mem hj, e⟩
    · rintro ⟨g, hg, e⟩
      obtain ⟨j, hj, rfl⟩ := mem_gr hg
      exact ⟨j, hj, e⟩
  intro i
  induction i with
  | zero =>
    intro _
    refine ⟨fun k hk => by simp [pcsTo] at hk, ⟨Int.le_refl _, by show (0 : Int) < 64; omega⟩, fun m hm => ?_⟩
    show bitP 0 m = true ↔ _
    rw [bit_zero hm]
    simp
  | succ i ih =>
    intro hi1
    have hi : i < n.toNat := by omega
    obtain ⟨ih1, ⟨ih2, ih3⟩, ih4⟩ := ih (by omega)
    have hs := hbit i hi
    have hsr := clsO_rng hrow (Nat.le_refl _) hi
    rw [pcsTo]
    generalize clsO (symL n fs) (symL n fs).length i = s at *
    generalize pcsTo (symL n fs) (symL n fs).length i = C at *
    have hlow : lowB s i = true ↔ ∀ m, m < i → bitP s m = false := by
      obtain ⟨a, ha⟩ := fin64 hsr.1 hsr.2
      rw [← ha]
      rw [low_fin a ⟨i, by omega⟩]
      exact ⟨fun h m hm => h ⟨m, by omega⟩ hm, fun h m hm => h m.val hm⟩
    by_cases hl : lowB s i = true
    · rw [if_pos hl]
      have hlow2 := hlow.1 hl
      have hdis : ∀ m, m < 6 → bitP (accL C C.length) m = true → bitP s m = true → False := fun m hm h1 h2 => by
        obtain ⟨j, hj, hr⟩ := (ih4 m hm).1 h1
        have hr2 := (hs m hm).1 h2
        have : Rel n fs i j := rel_trans hc hi hr2 (rel_symm hc (by omega) hr)
        have hb := (hs j (by omega)).2 this
        rw [hlow2 j hj] at hb; cases hb
      obtain ⟨j1, j2, j3⟩ := join_bits ih2 ih3 hsr.1 hsr.2 hdis
      have hbi : bitP s i = true := (hs i (by omega)).2 (rel_refl hc hi)
      have hpos : 0 < s := by
        rcases Int.lt_or_eq_of_le hsr.1 with e | e
        · exact e
        · rw [← e, bit_zero (by omega)] at hbi; cases hbi
      have hlen : (C ++ [s]).length = C.length + 1 := by simp
      have hg : gi (C ++ [s]) C.length = s := by simp [gi, List.getD]
      have hspw : s < pw n := by
        obtain ⟨a, ha⟩ := fin64 hsr.1 hsr.2
        have := bit_low_fin a ⟨n.toNat, by omega⟩ fun m hm => by
          rw [ha, ← Bool.not_eq_true, hs m.val m.isLt]
          intro hr
          have := rel_lt hc hi hr
          have hm' : n.toNat ≤ m.val := hm
          omega
        rw [← ha]; exact this
      have hcount := class_count hc hi hsr.1 hspw hs
      have hsymp : 0 < (symL n fs).length := List.length_pos_of_mem (sym_id hc)
      have hpc := pc_rng s
      have hpc1 : 1 ≤ pc s := by
        have : pc s ≠ 0 := fun e => by rw [e, Int.mul_zero] at hcount; omega
        omega
      refine ⟨fun k hk => ?_, ?_, fun m hm => ?_⟩
      · rw [hlen] at hk
        by_cases e : k = C.length
        · subst e
          have ha := accL_app (C := C) s C.length (Nat.le_refl _)
          exact ⟨by rw [hg]; exact hpos, by rw [hg]; exact hsr.2, by rw [ha]; exact ih2, by rw [ha]; exact ih3, by rw [ha, hg]; exact j1, by rw [ha, hg]; exact j2, by rw [hg]; exact hpc1, by rw [hg]; exact ⟨_, hcount⟩⟩
        · have h1 := ih1 k (by omega)
          have ha := accL_app (C := C) s k (by omega)
          have hg2 : gi (C ++ [s]) k = gi C k := by simp [gi, List.getD, List.getElem?_append_left (show k < C.length by omega)]
          exact ⟨by rw [hg2]; exact h1.s0, by rw [hg2]; exact h1.s1, by rw [ha]; exact h1.a0, by rw [ha]; exact h1.a1, by rw [ha, hg2]; exact h1.an, by rw [ha, hg2]; exact h1.nx, by rw [hg2]; exact h1.pc1, by rw [hg2]; exact h1.dv⟩
      · rw [hlen, accL, accL_app s _ (Nat.le_refl _), hg]
        exact ⟨by omega, j2⟩
      · rw [hlen, accL, accL_app s _ (Nat.le_refl _), hg, j3 m hm, Bool.or_eq_true, ih4 m hm, hs m hm]
        constructor
        · rintro (⟨j, h1, h2⟩ | h)
          · exact ⟨j, by omega, h2⟩
          · exact ⟨i, by omega, h⟩
        · rintro ⟨j, h1, h2⟩
          by_cases e : j = i
          · subst e; exact .inr h2
          · exact .inl ⟨j, by omega, h2⟩
    · rw [if_neg hl]
      refine ⟨ih1, ⟨ih2, ih3⟩, fun m hm => ?_⟩
      rw [ih4 m hm]
      obtain ⟨j0, hj0, hb0⟩ : ∃ j, j < i ∧ bitP s j = true := Classical.byContradiction fun hn => hl (hlow.2 fun m hm => by
        rw [← Bool.not_eq_true]
        exact fun h => hn ⟨m, hm, h⟩)
      have hr0 := (hs j0 (by omega)).1 hb0
      constructor
      · rintro ⟨j, h1, h2⟩; exact ⟨j, by omega, h2⟩
      · rintro ⟨j, h1, h2⟩
        by_cases e : j = i
        · subst e
          exact ⟨j0, hj0, rel_trans hc (by omega) (rel_symm hc hi hr0) h2⟩
        · exact ⟨j, by omega, h2⟩
theorem pcs_at {n : Int} {fs : List Int} (hc : IsC n fs) {k : Nat} (hk : k < (pcs n fs).length) : ClsAt n fs (pcs n fs) k := by
  have e : pcs n fs = pcsTo (symL n fs) (symL n fs).length n.toNat := if_pos (isC_iff.2 hc)
  rw [e] at hk ⊢
  exact (cls_law hc n.toNat (Nat.le_refl _)).1 k hk
theorem pcs_all {n : Int} {fs : List Int} (hc : IsC n fs) : accL (pcs n fs) (pcs n fs).length = pw n - 1 := by
  have e : pcs n fs = pcsTo (symL n fs) (symL n fs).length n.toNat := if_pos (isC_iff.2 hc)
  rw [e]
  have n1 := hc.1
  have n6 := hc.2.1
  have hp := pw_rng (by omega : 0 ≤ n) n6
  obtain ⟨_, h2, h3⟩ := cls_law hc n.toNat (Nat.le_refl _)
  refine bit_ext h2.1 h2.2 (by omega) (by omega) fun m hm => bool_ext ?_
  rw [h3 m hm]
  have hf := full_fin ⟨n.toNat, by omega⟩ ⟨m, hm⟩
  have hf' : bitP (pw n - 1) m = decide (m < n.toNat) := hf
  rw [hf', decide_eq_true_eq]
  exact ⟨fun ⟨j, h1, h2⟩ => rel_lt hc h1 h2, fun h => ⟨m, h, rel_refl hc h⟩⟩
theorem sym_pos {n : Int} {fs : List Int} (hc : IsC n fs) : 1 ≤ symN n fs := by
  have : 0 < (symL n fs).length := List.length_pos_of_mem (sym_id hc)
  rw [symN, if_pos (isC_iff.2 hc)]; omega

end Go.Proofs.YtjaofbdfhcgmeaaGreat
