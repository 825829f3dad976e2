/-
  Sorting sets by the program's own comparison; all sets of a list under new names.
-/
import Derived.Test.YtjaofbdfhcgmeaaGreatName
import Derived.Test.YtjaofbdfhcgmeaaGreatCy
import Derived.Test.YtjaofbdfhcgmeaaGreatShelf
import Derived.Lib.SortBridge
namespace Go.Proofs.YtjaofbdfhcgmeaaGreat
open Go.RowKit

/-! ### A set under new names, point by point -/

theorem bit_ext_fin : ∀ s t : Fin 64, (∀ m : Fin 6, bitP s.val m.val = bitP t.val m.val) → s = t := by decide +kernel
theorem bit_high_fin : ∀ s : Fin 64, ∀ n : Fin 7, (s.val : Int) < (2 : Int) ^ n.val → ∀ m : Fin 6, n.val ≤ m.val → bitP s.val m.val = false := by decide +kernel
theorem bit_ext {s t : Int} (s0 : 0 ≤ s) (s1 : s < 64) (t0 : 0 ≤ t) (t1 : t < 64) (h : ∀ m : Nat, m < 6 → bitP s m = bitP t m) : s = t := by
  obtain ⟨a, rfl⟩ := fin64 s0 s1
  obtain ⟨b, rfl⟩ := fin64 t0 t1
  rw [bit_ext_fin a b fun m => h m.val m.isLt]
theorem bit_high {s n : Int} (s0 : 0 ≤ s) (n0 : 0 ≤ n) (n6 : n ≤ 6) (h : s < pw n) {m : Nat} (hm : m < 6) (hn : n ≤ m) : bitP s m = false := by
  have hp := pw_rng n0 n6
  obtain ⟨a, rfl⟩ := fin64 s0 (by omega)
  obtain ⟨k, rfl⟩ : ∃ k : Fin 7, n = (k.val : Int) := ⟨⟨n.toNat, by omega⟩, by simp; omega⟩
  exact bit_high_fin a k (by simpa [pw] using h) ⟨m, hm⟩ (by simp; omega)
theorem rnTo_bit {s : Int} {xs : List Int} (hx : ∀ j, j < xs.length → 0 ≤ gi xs j ∧ gi xs j ≤ 5) (j : Nat) (hj : j ≤ xs.length) {m : Nat} (hm : m < 6) :
    bitP (rnTo s xs j) m = true ↔ ∃ i, i < j ∧ bitP s i = true ∧ gi xs i = m := by
  induction j with
  | zero => rw [rnTo, bit_zero hm]; simp
  | succ j ih =>
    have ok := rnTo_ok (s := s) hx j (by omega)
    have ih := ih (by omega)
    have h5 := hx j (by omega)
    rw [rnTo]
    split
    · rename_i hb
      rw [bit_or ok.1 ok.2.1 (by omega) hm, Bool.or_eq_true, ih]
      constructor
      · rintro (h | ⟨i, a, b, c⟩)
        · exact ⟨j, by omega, hb, by simp at h; omega⟩
        · exact ⟨i, by omega, b, c⟩
      · rintro ⟨i, a, b, c⟩
        by_cases e : i = j
        · subst e; exact .inl (by simp; omega)
        · exact .inr ⟨i, by omega, b, c⟩
    · rename_i hb
      rw [ih]
      constructor
      · rintro ⟨i, a, b, c⟩; exact ⟨i, by omega, b, c⟩
      · rintro ⟨i, a, b, c⟩
        by_cases e : i = j
        · subst e; exact absurd b hb
        · exact ⟨i, by omega, b, c⟩
theorem rnB_rng {n : Int} {xs : List Int} (h : Names n xs) (s : Int) : 0 ≤ rnB s xs ∧ rnB s xs < 64 := by
  have := rnTo_ok (s := s) (names_gi h) xs.length (Nat.le_refl _)
  exact ⟨this.1, this.2.1⟩
theorem nodup_inj {xs : List Int} (h : xs.Nodup) {i j : Nat} (hi : i < xs.length) (hj : j < xs.length) (e : gi xs i = gi xs j) : i = j := by
  rcases Nat.lt_trichotomy i j with h1 | h1 | h1
  · exact absurd e (nodup_gi h h1 hj)
  · exact h1
  · exact absurd e.symm (nodup_gi h h1 hi)
theorem rnB_at {n : Int} {xs : List Int} (h : Names n xs) (s : Int) {i : Nat} (hi : i < xs.length) : bitP (rnB s xs) (gi xs i).toNat = bitP s i := by
  have h5 := names_gi h i hi
  refine bool_ext ?_
  rw [rnB, rnTo_bit (names_gi h) _ (Nat.le_refl _) (by omega)]
  constructor
  · rintro ⟨k, a, b, c⟩
    have : k = i := nodup_inj h.2.2.2.2 a hi (by omega)
    rwa [← this]
  · intro hb
    exact ⟨i, hi, hb, by omega⟩
theorem rnB_inj {n : Int} {xs : List Int} (h : Names n xs) {s t : Int} (s0 : 0 ≤ s) (s1 : s < pw n) (t0 : 0 ≤ t) (t1 : t < pw n) (e : rnB s xs = rnB t xs) : s = t := by
  have n0 : 0 ≤ n := by have := h.1; omega
  have n6 := h.2.1
  have hp := pw_rng n0 n6
  have hl := h.2.2.1
  refine bit_ext s0 (by omega) t0 (by omega) fun m hm => ?_
  by_cases hmn : n ≤ m
  · rw [bit_high s0 n0 n6 s1 hm hmn, bit_high t0 n0 n6 t1 hm hmn]
  · rw [← rnB_at h s (i := m) (by omega), ← rnB_at h t (i := m) (by omega), e]
/-- The sets of a list under new names, in order. -/
def rnM (fs xs : List Int) : List Int := fs.map fun s => rnB s xs
def rnL (fs xs : List Int) : List Int := setsL (mem (rnM fs xs))
theorem rnM_rng {n : Int} {fs xs : List Int} (h : Names n xs) : ∀ x ∈ rnM fs xs, 0 ≤ x ∧ x < 64 := fun x hx => by
  obtain ⟨s, _, rfl⟩ := List.mem_map.1 hx
  exact rnB_rng h s
theorem rnM_nodup {n : Int} {fs xs : List Int} (h : Names n xs) (hf : ∀ x ∈ fs, 0 ≤ x ∧ x < pw n) (hd : fs.Nodup) : (rnM fs xs).Nodup := by
  refine List.pairwise_map.2 (List.Pairwise.imp_of_mem ?_ hd)
  intro a b ha hb hne e
  exact hne (rnB_inj h (hf a ha).1 (hf a ha).2 (hf b hb).1 (hf b hb).2 e)
theorem rnL_len (fs xs : List Int) : (rnL fs xs).length ≤ 448 := setsL_len _
theorem bef_nodup {xs : List Int} (h : xs.Pairwise bef) : xs.Nodup := by
  refine List.Pairwise.imp ?_ h
  intro a b hab e
  subst e
  exact bef_irrefl _ hab
theorem rnM_succ {fs xs : List Int} {j : Nat} (h : j < fs.length) : (rnM (fs.take (j + 1)) xs) = rnM (fs.take j) xs ++ [rnB (gi fs j) xs] := by
  rw [rnM, take_succ_gi h, List.map_append]; rfl

/-! ### The order of the program's comparison -/

def cfS (x y : Fin 64) : Int := if x = y then 0 else if befB x.val y.val = true then -1 else 1
def encS (x : Fin 64) : Value := .int .i64 (x.val : Int)
theorem ltS (x y : Fin 64) : ltOf cfS x y = befB x.val y.val := by
  unfold ltOf cfS
  by_cases h : x = y
  · subst h
    have : befB x.val x.val = false := by rw [← Bool.not_eq_true, befB_iff]; exact bef_irrefl _
    rw [this]; simp
  · rw [if_neg h]
    cases befB x.val y.val <;> simp
theorem befB_f {a b : Int} : befB a b = false ↔ ¬ bef a b := by rw [← Bool.not_eq_true, befB_iff]
theorem bef_total {a b : Int} (h : ¬ bef a b) (h' : ¬ bef b a) : a = b := by unfold bef at *; omega
theorem nbef_trans {a b c : Int} (h : ¬ bef a b) (h' : ¬ bef b c) : ¬ bef a c := by unfold bef at *; omega
theorem swoS : Go.Sort.SWO (ltOf cfS) where
  irrefl x := by rw [ltS, befB_f]; exact bef_irrefl _
  trans x y z h1 h2 := by rw [ltS, befB_iff] at *; exact bef_trans h1 h2
  ntrans x y z h1 h2 := by rw [ltS, befB_f] at *; exact nbef_trans h1 h2
theorem totS (x y : Fin 64) (h1 : ltOf cfS x y = false) (h2 : ltOf cfS y x = false) : x = y := by
  rw [ltS, befB_f] at *
  have := bef_total h1 h2
  exact Fin.ext (by omega)

def fz (x : Int) : Fin 64 := ⟨x.toNat % 64, Nat.mod_lt _ (by omega)⟩
theorem fz_val {x : Int} (h0 : 0 ≤ x) (h1 : x < 64) : ((fz x).val : Int) = x := by simp only [fz]; omega
theorem enc_fz {x : Int} (h0 : 0 ≤ x) (h1 : x < 64) : encS (fz x) = .int .i64 x := by rw [encS, fz_val h0 h1]
def srt (L : List Int) : List (Fin 64) := (L.map fz).mergeSort fun x y => !ltOf cfS y x
theorem srt_len (L : List Int) : (srt L).length = L.length := by rw [srt, List.length_mergeSort, List.length_map]
theorem srt_is {L : List Int} (hr : ∀ x ∈ L, 0 ≤ x ∧ x < 64) (hd : L.Nodup) : (srt L).map (fun x => (x.val : Int)) = setsL (mem L) := by
  have hp : (srt L).Perm (L.map fz) := List.mergeSort_perm _ _
  refine sorted_ext ?_ (setsL_sorted _) fun s => ?_
  · have h1 : (srt L).Pairwise fun x y => (!ltOf cfS y x) = true := by
      refine List.pairwise_mergeSort ?_ ?_ _
      · intro a b c h1 h2
        simp only [Bool.not_eq_true'] at *
        exact swoS.ntrans _ _ _ h2 h1
      · intro a b
        rw [Bool.or_eq_true, Bool.not_eq_true', Bool.not_eq_true', ltS, ltS, befB_f, befB_f]
        by_cases h : bef b.val a.val
        · exact .inr fun h' => bef_irrefl _ (bef_trans h h')
        · exact .inl h
    have h2 : (srt L).Nodup := by
      refine hp.nodup_iff.2 (List.pairwise_map.2 (List.Pairwise.imp_of_mem ?_ hd))
      intro a b ha hb hne e
      have h3 : ((fz a).val : Int) = ((fz b).val : Int) := by rw [e]
      rw [fz_val (hr a ha).1 (hr a ha).2, fz_val (hr b hb).1 (hr b hb).2] at h3
      exact hne h3
    refine List.pairwise_map.2 ((h1.and h2).imp ?_)
    rintro a b ⟨h3, h4⟩
    rw [Bool.not_eq_true', ltS, befB_f] at h3
    by_cases h5 : bef a.val b.val
    · exact h5
    · exact absurd (Fin.ext (by have := bef_total h3 h5; omega)) h4
  · rw [mem_setsL, mem_iff, List.mem_map]
    constructor
    · rintro ⟨x, hx, rfl⟩
      obtain ⟨y, hy, rfl⟩ := List.mem_map.1 (hp.mem_iff.1 hx)
      rw [fz_val (hr y hy).1 (hr y hy).2]
      exact ⟨(hr y hy).1, (hr y hy).2, hy⟩
    · rintro ⟨h0, h1, hm⟩
      exact ⟨fz s, hp.mem_iff.2 (List.mem_map.2 ⟨s, hm, rfl⟩), fz_val h0 h1⟩

/-! ### The worlds that a sort leaves -/

theorem St.setMany {w0 : World} {g n c : Nat} {e : TypeId} {env : List Ent} (vs : List Value) : ∀ (s : Nat) (w : World) (L : List Value), s + vs.length = L.length →
    St w0 w (⟨.slice (some ⟨g, 0, none⟩) n c, e, L⟩ :: env) → St w0 (w.setCells g s vs) (⟨.slice (some ⟨g, 0, none⟩) n c, e, L.take s ++ vs⟩ :: env) := by
  induction vs with
  | nil =>
    intro s w L hl h
    simp only [List.length_nil, Nat.add_zero] at hl
    rw [List.append_nil, List.take_of_length_le (by omega)]
    exact h
  | cons u vs ih =>
    intro s w L hl h
    simp only [List.length_cons] at hl
    have h1 := h.set s (by omega) u
    have ea : adr (.slice (some ⟨g, 0, none⟩) n c) s = ⟨g, s, none⟩ := by simp [adr]
    rw [ea] at h1
    have h2 := ih (s + 1) _ (L.set s u) (by simp; omega) h1
    have e2 : (L.set s u).take (s + 1) ++ vs = L.take s ++ u :: vs := by
      rw [List.take_succ_eq_append_getElem (by simp; omega), List.take_set_of_le (by omega)]
      simp
    rw [e2] at h2
    exact h2
theorem grow_list (w : World) (o : Obj) (os : List Obj) : Go.Sort.grow w (o :: os).toArray = Go.Sort.grow (w.alloc o) os.toArray := by
  rw [Go.Sort.alloc_eq_grow, Go.Sort.grow_grow]
  congr 1
  simp
theorem St.grow {w0 : World} {env : List Ent} (os : List Obj) : ∀ (w : World), St w0 w env → St w0 (Go.Sort.grow w os.toArray) env := by
  induction os with
  | nil => intro w h; rw [show ([] : List Obj).toArray = #[] from rfl, Go.Sort.grow_empty]; exact h
  | cons o os ih => intro w h; rw [grow_list]; exact ih _ (h.alloc o)

/-- 'make([]T, 0, n)' in the walk. -/
theorem wpList_mk0 {P : Program} {w : World} {ops : Array Oper} {rest : List Oper} {o : Oper} {a : Act} {Q : Exit → Act → World → Prop} (hgd : o.guard = none) (l c : Operand) {t : TypeId} (hop : o.op = Op.makeSlice t l c)
    {e : TypeId} {z : Value} (T : SlT P t e z) {B : Nat} {env : List Ent} (hO : Owns B w env) (n : Nat) (hn : n ≤ 1099511627776) (hl : a.eval l = .int .i64 0) (hc : a.eval c = .int .i64 (n : Int))
    (h : ∀ v' w', Owns B w' (⟨v', e, []⟩ :: env) → Below w.heap.size w w' → wpList P ops Q rest (a.put o.dst v') w') : wpList P ops Q (o :: rest) a w := by
  obtain ⟨i, hi, hz, hsize, hby⟩ := T.info
  refine wpList_make_own w hgd l c t hop w.heap.size e i z 1 T.und' hi hz hsize .i64 .i64 (n : Int) n hl hc rfl (Nat.le_trans (Nat.mul_le_mul_right _ hby) (by omega)) (by unfold maxLen; omega) (Nat.le_refl _) fun w' h1 h2 => ?_
  have hb : Below w.heap.size w w' := (Below.refl _ w).grown h2 (Nat.le_refl _) (by intro k hk; cases hk)
  refine h _ _ ?_ hb
  have h3 : Owns w.heap.size w' [⟨.slice (some ⟨w.heap.size, 0, none⟩) 0 n, e, []⟩] :=
    ⟨hb.size, by
      intro x hx
      rw [List.mem_singleton.1 hx]
      exact h1, List.pairwise_singleton _ _⟩
  exact hO.join hb h3

theorem cmpI_c (a b : Int) (w : World) (a0 : 0 ≤ a) (a1 : a < 64) (b0 : 0 ≤ b) (b1 : b < 64) : Calls Tryz.prog 69 #[.int .i64 a, .int .i64 b] w fun e w' => e = .returned (.int .i64 (if a = b then 0 else if befB a b = true then -1 else 1)) ∧ w' = w := by
  by_cases h : a = b
  · rw [if_pos h]
    subst h
    go_enter Tryz.func69, Tryz.ntmps69
    go_wp2_with fail
    go_ret
    exact ⟨rfl, rfl⟩
  · have q : (a == b) = false := by simp [h]
    rw [if_neg h]
    clear h
    cases hb : befB a b with
    | true =>
      rw [if_pos rfl]
      go_enter Tryz.func69, Tryz.ntmps69
      go_wp2_with (go_at_call 70; refine (BeforeSet_c _ _ _ a0 a1 b0 b1).mono ?_; rintro e w' ⟨rfl, rfl⟩)
      go_ret
      exact ⟨rfl, rfl⟩
    | false =>
      rw [if_neg (by simp)]
      go_enter Tryz.func69, Tryz.ntmps69
      go_wp2_with (go_at_call 70; refine (BeforeSet_c _ _ _ a0 a1 b0 b1).mono ?_; rintro e w' ⟨rfl, rfl⟩)
      go_ret
      exact ⟨rfl, rfl⟩
theorem cmpS_c (x y : Fin 64) (w : World) : Calls Tryz.prog 69 #[encS x, encS y] w fun e w' => e = .returned (.int .i64 (cfS x y)) ∧ ∃ q, w' = w.drewN q := by
  have hx := x.isLt
  have hy := y.isLt
  refine (cmpI_c (x.val : Int) (y.val : Int) w (by omega) (by omega) (by omega) (by omega)).mono ?_
  rintro e w' ⟨rfl, rfl⟩
  refine ⟨?_, 0, rfl⟩
  unfold cfS
  by_cases h : x = y
  · rw [if_pos h, if_pos (by rw [h])]
  · rw [if_neg h, if_neg (fun h' => h (Fin.ext (by omega)))]

set_option maxHeartbeats 1000000 in
theorem SortFunc_c (v : Value) (L : List Int) (hr : ∀ x ∈ L, 0 ≤ x ∧ x < 64) (hd : L.Nodup) (hl : L.length ≤ 1000000) (w0 w : World) (env : List Ent) (hS : St w0 w (⟨v, 3, ints L⟩ :: env)) :
    Calls Tryz.prog 68 #[v, .func (.func 69) #[] #[]] w fun e w' => e = .returned (.tuple #[]) ∧ St w0 w' (⟨v, 3, ints (setsL (mem L))⟩ :: env) := by
  by_cases h0 : L = []
  · subst h0
    have e0 : setsL (mem []) = [] := setsL_mem (by simp) List.Pairwise.nil
    obtain ⟨p, c, rfl⟩ : ∃ p c, v = .slice p 0 c := by
      rcases hS.hd with ⟨rfl, _⟩ | ⟨a, cap, rfl, _⟩
      · exact ⟨none, 0, rfl⟩
      · exact ⟨_, cap, rfl⟩
    have h := AnyF.slices_SortFunc_none (P := Tryz.prog) (ρ := Tryz.sortL_ren) { Tryz.sortL with } p c (.func (.func 69) #[] #[]) w
    change Calls Tryz.prog 68 _ _ _ at h
    refine h.mono ?_
    rintro e w' ⟨rfl, rfl⟩
    refine ⟨rfl, ?_⟩
    rw [e0]
    exact hS
  · have hpos : 0 < L.length := List.length_pos_iff.2 h0
    have hs := hS.own.own _ (List.mem_cons_self ..)
    rcases hs.2 with ⟨_, h1⟩ | ⟨g, cap, cur, hv, hbg, hg, _⟩
    · simp only [length_ints] at h1; omega
    · simp only [length_ints] at hv
      subst hv
      have hlt := (hS.own.lt (List.mem_cons_self ..) (g := g) rfl).2
      have eg : ∀ args w, (callFunc 69 args).run Tryz.prog w = .ok (.enter 69 args) w := enters_of Tryz.func69 (by kernel_rfl) rfl
      have hsz : (L.map fz).toArray.size = L.length := by simp
      have hH : Go.Sort.Holds encS w g 0 (L.map fz).toArray := fun j hj => by
        rw [hsz] at hj
        have hc := hS.hd.intCell j hj
        have hf := hS.own.free (List.mem_cons_self ..) j (by simpa using hj)
        have hm := hr _ (gi_mem hj)
        have ea : adr (.slice (some ⟨g, 0, none⟩) L.length cap) j = ⟨g, 0 + j, none⟩ := rfl
        rw [ea] at hc hf
        refine ⟨?_, hf⟩
        rw [hc, ← enc_fz hm.1 hm.2]
        congr 2
        simp [hj, gi_eq L j hj]
      have hc : CmpReads Tryz.prog 69 #[] encS cfS g 0 (L.map fz).toArray.size w := fun _ _ _ _ x y => cmpS_c x y _
      have h := Any.slices_SortFunc_total Tryz.sortL encS (fun _ => rfl) cfS swoS 69 #[] g 0 cap (L.map fz).toArray w eg hc.lays hH hlt (by rw [hsz]; omega) totS
      rw [hsz] at h
      change Calls Tryz.prog 68 _ _ _ at h
      refine h.mono ?_
      rintro e w' ⟨rfl, q, os, rfl⟩
      refine ⟨rfl, ?_⟩
      have e1 := Go.Lib.sorted_world encS w g 0 q (L.map fz).toArray (srt L) os hH (by rw [srt_len, hsz])
      have e2 : (srt L).map encS = ints (setsL (mem L)) := by rw [← srt_is hr hd, ints, List.map_map]; rfl
      rw [e2] at e1
      have h2 := St.setMany (ints (setsL (mem L))) 0 (w.drewN q) (ints L) (by
        rw [← e2]; simp [srt_len]) (hS.drewN q)
      rw [List.take_zero, List.nil_append] at h2
      have h3 := St.grow os.toList _ h2
      rw [Array.toArray_toList, ← e1] at h3
      exact h3

set_option maxHeartbeats 2000000 in
theorem renamedFacets_c (n : Int) (va vn : Value) (fs xs : List Int) (w : World) (ha : Rd w va (ints fs)) (hn : Rd w vn (ints xs)) (hN : Names n xs) (hf : ∀ x ∈ fs, 0 ≤ x ∧ x < pw n) (hd : fs.Nodup) (hl : fs.length ≤ 1000) :
    Calls Tryz.prog 37 #[va, vn] w fun e w' => ∃ v, e = .returned v ∧ St w w' [⟨v, 3, ints (rnL fs xs)⟩] := by
  have la := ha.iln tI
  have HD := hid (rnM_nodup hN hf hd)
  have HR := hid (rnM_rng (fs := fs) hN)
  have hl6 : xs.length ≤ 6 := by have := hN.2.1; have := hN.2.2.1; omega
  have HX := hid (names_gi hN)
  have H0 : Hid (∀ j, j < fs.length → 0 ≤ gi fs j) := fun j hj => (hf _ (gi_mem hj)).1
  clear hN hf hd
  go_enter Tryz.func37, Tryz.ntmps37
  go_wp2_with (at_make; refine wpList_mk0 rfl _ _ rfl tI (St.start w).own fs.length (by omega) rfl rfl ?_)
  intro v1 w1 hO1 hb1
  have hS1 : St w w1 [⟨v1, 3, []⟩] := (St.start w).mut hO1 hb1
  have HS1 := hid hS1
  clear hO1 hb1 hS1
  go_wp2_with fail
  go_loopw [5, 13] (fun o i wr => ∃ (j : Nat), j ≤ fs.length ∧ i = .int .i64 j ∧ St w wr [⟨o, 3, ints (rnM (fs.take j) xs)⟩]) (fun _ i _ => fs.length - (intOf i).toNat)
  case atStart => exact ⟨0, Nat.zero_le _, rfl, HS1.out⟩
  case round =>
    obtain ⟨j, hj, rfl, hS⟩ := hrel
    have HS := hid hS
    by_cases hlt : j < fs.length
    · have ha' := hS.old ha
      have hn' := hS.old hn
      have f1 := ha'.iix tI j hlt
      have f2 := ha'.intCell j hlt
      have f3 := H0.out j hlt
      have E2 := hid (rnM_succ (xs := xs) hlt)
      have hlm : (ints (rnM (fs.take j) xs)).length ≤ 1000 := by simp [rnM]; omega
      have HC : Hid (∀ w, Rd w vn (ints xs) → Calls Tryz.prog 43 #[.int .i64 (gi fs j), vn] w fun e w' => e = .returned (.int .i64 (rnB (gi fs j) xs)) ∧ w = w') := fun w h => renamed_c _ vn xs w h f3 hl6 HX.out
      clear hS
      go_wp2_with (first | (go_at_call 43; refine (HC.out _ hn').mono ?_; rintro e w' ⟨rfl, rfl⟩) | (at_builtin; refine wpList_push rfl _ _ rfl tI HS.out.own (.int .i64 (rnB (gi fs j) xs)) rfl (by omega) rfl rfl ?_))
      intro v2 w2 hO2 hb2
      rw [ints_snoc, ← E2.out] at hO2
      have hS2 := hid (HS.out.mut hO2 hb2)
      clear hO2 hb2
      go_wp2_with fail
      go_roundw
      case rel => exact ⟨j + 1, by omega, by go_num, hS2.out⟩
      case measure => simp [intOf]; omega
    · have e : j = fs.length := by omega
      subst e
      have hS3 := hS
      rw [List.take_length] at hS3
      have HS3 := hid hS3
      have hlm : (rnM fs xs).length ≤ 1000000 := by simp [rnM]; omega
      clear hS hS3
      go_wp2_with fail
      refine (SortFunc_c _ _ HR.out HD.out hlm _ _ _ HS3.out).mono ?_
      rintro e w2 ⟨rfl, hS4⟩
      have HS4 := hid hS4
      clear hS4
      go_wp2_with fail
      go_ret
      exact ⟨_, rfl, HS4.out⟩

end Go.Proofs.YtjaofbdfhcgmeaaGreat
