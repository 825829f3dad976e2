/-
  Components and the rank of the border of the edges: plain law.
-/
import Derived.Test.YtjaofbdfhcgmeaaDm
import Derived.Test.YtjaofbdfhcgmeaaPart2
namespace Go.Proofs.Ytjaofbdfhcgmeaa
open Go.RowKit

/-! ### Points of a set -/

def bt (s : Int) (a : Nat) : Bool := s.toNat.testBit a
theorem sub_bt {s t : Int} : sub s t = true ↔ ∀ a, bt s a = true → bt t a = true := by
  rw [sub_nat]
  constructor
  · intro h a ha
    unfold bt at ha ⊢
    rw [← h, Nat.testBit_and] at ha
    simp at ha; exact ha.2
  · intro h
    refine Nat.eq_of_testBit_eq fun a => ?_
    rw [Nat.testBit_and]
    cases e : s.toNat.testBit a with
    | false => rfl
    | true => rw [show t.toNat.testBit a = true from h a e]; rfl
theorem meets_bt {s t : Int} : meets s t = true ↔ ∃ a, bt s a = true ∧ bt t a = true := by
  unfold meets bt
  constructor
  · intro h
    refine Classical.byContradiction fun hn => ?_
    have : s.toNat &&& t.toNat = 0 := Nat.eq_of_testBit_eq fun a => by
      rw [Nat.testBit_and, Nat.zero_testBit]
      cases e : s.toNat.testBit a with
      | false => rfl
      | true =>
        cases e2 : t.toNat.testBit a with
        | false => rfl
        | true => exact absurd ⟨a, e, e2⟩ hn
    rw [this] at h; cases h
  · rintro ⟨a, h1, h2⟩
    cases e : (s.toNat &&& t.toNat != 0) with
    | true => rfl
    | false =>
      have h0 : s.toNat &&& t.toNat = 0 := by simpa using e
      have := Nat.testBit_and s.toNat t.toNat a
      rw [h0, Nat.zero_testBit, h1, h2] at this; cases this
theorem bt_lt {s : Int} {a : Nat} (h1 : s < 64) (h : bt s a = true) : a < 6 := by
  refine Classical.byContradiction fun hn => ?_
  have h2 : s.toNat < 2 ^ a := Nat.lt_of_lt_of_le (show s.toNat < 2 ^ 6 by omega) (Nat.pow_le_pow_right (by omega) (by omega))
  unfold bt at h
  rw [Nat.testBit_lt_two_pow h2] at h; cases h
/-- The set of the points that a test holds for. -/
def mk6 (B : Nat → Bool) : Int := ((B 0).toNat + 2 * (B 1).toNat + 4 * (B 2).toNat + 8 * (B 3).toNat + 16 * (B 4).toNat + 32 * (B 5).toNat : Nat)
theorem mk6_rng (B : Nat → Bool) : 0 ≤ mk6 B ∧ mk6 B < 64 := by
  have h : ∀ b : Bool, b.toNat ≤ 1 := fun b => by cases b <;> simp
  have := h (B 0); have := h (B 1); have := h (B 2); have := h (B 3); have := h (B 4); have := h (B 5)
  unfold mk6; omega
theorem mk6_fin : ∀ b0 b1 b2 b3 b4 b5 : Bool, (b0.toNat + 2 * b1.toNat + 4 * b2.toNat + 8 * b3.toNat + 16 * b4.toNat + 32 * b5.toNat).testBit 0 = b0 ∧ (b0.toNat + 2 * b1.toNat + 4 * b2.toNat + 8 * b3.toNat + 16 * b4.toNat + 32 * b5.toNat).testBit 1 = b1 ∧ (b0.toNat + 2 * b1.toNat + 4 * b2.toNat + 8 * b3.toNat + 16 * b4.toNat + 32 * b5.toNat).testBit 2 = b2 ∧ (b0.toNat + 2 * b1.toNat + 4 * b2.toNat + 8 * b3.toNat + 16 * b4.toNat + 32 * b5.toNat).testBit 3 = b3 ∧ (b0.toNat + 2 * b1.toNat + 4 * b2.toNat + 8 * b3.toNat + 16 * b4.toNat + 32 * b5.toNat).testBit 4 = b4 ∧ (b0.toNat + 2 * b1.toNat + 4 * b2.toNat + 8 * b3.toNat + 16 * b4.toNat + 32 * b5.toNat).testBit 5 = b5 := by decide +kernel
theorem bt_mk {B : Nat → Bool} {a : Nat} (h : a < 6) : bt (mk6 B) a = B a := by
  have hf := mk6_fin (B 0) (B 1) (B 2) (B 3) (B 4) (B 5)
  have e : (mk6 B).toNat = (B 0).toNat + 2 * (B 1).toNat + 4 * (B 2).toNat + 8 * (B 3).toNat + 16 * (B 4).toNat + 32 * (B 5).toNat := by unfold mk6; omega
  unfold bt
  rw [e]
  rcases (show a = 0 ∨ a = 1 ∨ a = 2 ∨ a = 3 ∨ a = 4 ∨ a = 5 by omega) with rfl | rfl | rfl | rfl | rfl | rfl
  · exact hf.1
  · exact hf.2.1
  · exact hf.2.2.1
  · exact hf.2.2.2.1
  · exact hf.2.2.2.2.1
  · exact hf.2.2.2.2.2
/-- The point a alone. -/
def pt (a : Nat) : Int := ((2 ^ a : Nat) : Int)
theorem bt_pt (a b : Nat) : bt (pt a) b = decide (a = b) := by
  unfold bt pt
  rw [Int.toNat_natCast, Nat.testBit_two_pow]
theorem pt_rng {a : Nat} (h : a < 6) : 0 < pt a ∧ pt a < 64 := by
  have h1 : 2 ^ a < 2 ^ 6 := Nat.pow_lt_pow_right (by omega) h
  have h2 : 0 < 2 ^ a := Nat.two_pow_pos a
  unfold pt; omega
theorem sub_pt {a : Nat} {s : Int} : sub (pt a) s = true ↔ bt s a = true := by
  rw [sub_bt]
  constructor
  · intro h; exact h a (by rw [bt_pt]; simp)
  · intro h b hb
    rw [bt_pt] at hb
    have : a = b := by simpa using hb
    rw [← this]; exact h
theorem eq_bt {s t : Int} (s0 : 0 ≤ s) (t0 : 0 ≤ t) (h : ∀ a, bt s a = bt t a) : s = t := by
  have : s.toNat = t.toNat := Nat.eq_of_testBit_eq h
  omega

/-! ### Components -/

theorem comp_ex {xs : List Int} (hx : ∀ x ∈ xs, 0 ≤ x ∧ x < 64) {p : Int} (p1 : p < 64) : ∃ P, IsComp xs p P := by
  classical
  obtain ⟨B, hB⟩ : ∃ B : Nat → Bool, B = fun a => decide (∀ Q : Int, 0 ≤ Q → Q < 64 → sub p Q = true → Closed xs Q → bt Q a = true) := ⟨_, rfl⟩
  have hb : ∀ a, B a = true ↔ ∀ Q : Int, 0 ≤ Q → Q < 64 → sub p Q = true → Closed xs Q → bt Q a = true := fun a => by rw [hB]; simp
  have hr := mk6_rng B
  refine ⟨mk6 B, ⟨hr, sub_bt.2 fun a ha => ?_, fun Q q0 q1 hp hc => sub_bt.2 fun a ha => ?_⟩, fun s hs hm => sub_bt.2 fun b hsb => ?_⟩
  · rw [bt_mk (bt_lt p1 ha), hb]
    exact fun Q _ _ hp _ => sub_bt.1 hp a ha
  · rw [bt_mk (bt_lt hr.2 ha), hb] at ha
    exact ha Q q0 q1 hp hc
  · obtain ⟨a, h1, h2⟩ := meets_bt.1 hm
    rw [bt_mk (bt_lt hr.2 h2), hb] at h2
    rw [bt_mk (bt_lt (hx s hs).2 hsb), hb]
    exact fun Q q0 q1 hp hc => sub_bt.1 (hc s hs (meets_bt.2 ⟨a, h1, h2 Q q0 q1 hp hc⟩)) b hsb
theorem closed_not {xs : List Int} (hx : ∀ x ∈ xs, 0 ≤ x ∧ x < 64) {Q : Int} (h : Closed xs Q) : Closed xs (mk6 fun a => !bt Q a) := fun s hs hm => sub_bt.2 fun b hb => by
  obtain ⟨a, h1, h2⟩ := meets_bt.1 hm
  rw [bt_mk (bt_lt (mk6_rng _).2 h2)] at h2
  rw [bt_mk (bt_lt (hx s hs).2 hb)]
  cases e : bt Q b with
  | false => rfl
  | true =>
    rw [sub_bt.1 (h s hs (meets_bt.2 ⟨b, hb, e⟩)) a h1] at h2
    cases h2
open Classical in
/-- The component of the point a. -/
noncomputable def cmp6 (xs : List Int) (a : Nat) : Int := if h : ∃ P, IsComp xs (pt a) P then h.choose else 0
theorem cmp6_is {xs : List Int} (hx : ∀ x ∈ xs, 0 ≤ x ∧ x < 64) {a : Nat} (ha : a < 6) : IsComp xs (pt a) (cmp6 xs a) := by
  have h : ∃ P, IsComp xs (pt a) P := comp_ex hx (pt_rng ha).2
  rw [cmp6, dif_pos h]; exact h.choose_spec
theorem cmp6_self {xs : List Int} (hx : ∀ x ∈ xs, 0 ≤ x ∧ x < 64) {a : Nat} (ha : a < 6) : bt (cmp6 xs a) a = true := sub_pt.1 (cmp6_is hx ha).1.2.1
theorem cmp6_eq {xs : List Int} (hx : ∀ x ∈ xs, 0 ≤ x ∧ x < 64) {a b : Nat} (ha : a < 6) (hb : b < 6) (h : bt (cmp6 xs a) b = true) : cmp6 xs b = cmp6 xs a := by
  have A := cmp6_is hx ha
  have B := cmp6_is hx hb
  have h1 : sub (cmp6 xs b) (cmp6 xs a) = true := B.1.2.2 _ A.1.1.1 A.1.1.2 (sub_pt.2 h) A.2
  have h2 : bt (cmp6 xs b) a = true := by
    cases e : bt (cmp6 xs b) a with
    | true => rfl
    | false =>
      have hr := mk6_rng fun c => !bt (cmp6 xs b) c
      have h3 := A.1.2.2 _ hr.1 hr.2 (sub_pt.2 (by rw [bt_mk ha, e]; rfl)) (closed_not hx B.2)
      have h4 := sub_bt.1 h3 b h
      rw [bt_mk hb, cmp6_self hx hb] at h4; cases h4
  exact sub_antisymm B.1.1.1 A.1.1.1 h1 (A.1.2.2 _ B.1.1.1 B.1.1.2 (sub_pt.2 h2) B.2)

/-- The least point. -/
def loN (m : Nat) : Nat := if m.testBit 0 then 0 else if m.testBit 1 then 1 else if m.testBit 2 then 2 else if m.testBit 3 then 3 else if m.testBit 4 then 4 else 5
theorem lo_fin : ∀ m : Fin 64, m.val ≠ 0 → loN m.val < 6 ∧ m.val.testBit (loN m.val) = true ∧ (∀ b : Fin 6, m.val.testBit b.val = true → loN m.val ≤ b.val) ∧ lowS (m.val : Int) = ((2 ^ loN m.val : Nat) : Int) := by decide +kernel
def lo (m : Int) : Nat := loN m.toNat
theorem lo_spec {m : Int} (h0 : 0 < m) (h1 : m < 64) : lo m < 6 ∧ bt m (lo m) = true ∧ (∀ b, bt m b = true → lo m ≤ b) ∧ lowS m = pt (lo m) := by
  have h := lo_fin ⟨m.toNat, by omega⟩ (by show m.toNat ≠ 0; omega)
  obtain ⟨a1, a2, a3, a4⟩ := h
  refine ⟨a1, a2, fun b hb => a3 ⟨b, bt_lt h1 hb⟩ hb, ?_⟩
  simp only [Int.toNat_of_nonneg (show 0 ≤ m by omega)] at a4
  exact a4
theorem pos_bt {m : Int} (h0 : 0 ≤ m) {a : Nat} (h : bt m a = true) : 0 < m := by
  refine Classical.byContradiction fun hn => ?_
  have : m = 0 := by omega
  subst this
  unfold bt at h
  rw [show (0 : Int).toNat = 0 from rfl, Nat.zero_testBit] at h; cases h
theorem lo_eq {m m' : Int} (h0 : 0 < m) (h1 : m < 64) (h0' : 0 < m') (h1' : m' < 64) (hs : sub m' m = true) (h : bt m' (lo m) = true) : lo m' = lo m :=
  Nat.le_antisymm ((lo_spec h0' h1').2.2.1 _ h) ((lo_spec h0 h1).2.2.1 _ (sub_bt.1 hs _ (lo_spec h0' h1').2.1))
/-- The least point of the component of a. -/
noncomputable def rep (xs : List Int) (a : Nat) : Nat := lo (cmp6 xs a)
theorem rep_spec {xs : List Int} (hx : ∀ x ∈ xs, 0 ≤ x ∧ x < 64) {a : Nat} (ha : a < 6) : rep xs a < 6 ∧ bt (cmp6 xs a) (rep xs a) = true ∧ cmp6 xs (rep xs a) = cmp6 xs a ∧ rep xs (rep xs a) = rep xs a := by
  have A := cmp6_is hx ha
  have h := lo_spec (pos_bt A.1.1.1 (cmp6_self hx ha)) A.1.1.2
  have e := cmp6_eq hx ha h.1 h.2.1
  exact ⟨h.1, h.2.1, e, show lo (cmp6 xs (lo (cmp6 xs a))) = lo (cmp6 xs a) by rw [e]⟩
theorem rep_face {xs : List Int} (hx : ∀ x ∈ xs, 0 ≤ x ∧ x < 64) {a b : Nat} (ha : a < 6) (hb : b < 6) {x : Int} (hm : x ∈ xs) (h1 : bt x a = true) (h2 : bt x b = true) : rep xs b = rep xs a := by
  have A := cmp6_is hx ha
  have := sub_bt.1 (A.2 x hm (meets_bt.2 ⟨a, h1, cmp6_self hx ha⟩)) b h2
  unfold rep; rw [cmp6_eq hx ha hb this]

/-! ### How many components -/

theorem rest_fin2 : ∀ l p : Fin 64, ∀ a : Fin 6, (restS l.val p.val).toNat.testBit a.val = (l.val.testBit a.val && !p.val.testBit a.val) := by decide +kernel
theorem bt_rest {l p : Int} (l0 : 0 ≤ l) (l1 : l < 64) (p0 : 0 ≤ p) (p1 : p < 64) {a : Nat} (ha : a < 6) : bt (restS l p) a = (bt l a && !bt p a) := by
  have h := rest_fin2 ⟨l.toNat, by omega⟩ ⟨p.toNat, by omega⟩ ⟨a, ha⟩
  simp only [Int.toNat_of_nonneg l0, Int.toNat_of_nonneg p0] at h
  exact h
theorem cntQ_add {f g : Nat → Bool} {c : Nat} (hfc : f c = true) (hgc : g c = false) (h : ∀ a, a ≠ c → f a = g a) : ∀ n, cntQ f n = cntQ g n + if c < n then 1 else 0
  | 0 => by simp [cntQ]
  | n + 1 => by
    rw [cntQ, cntQ, cntQ_add hfc hgc h n]
    by_cases e : n = c
    · subst e; rw [hfc, hgc]; simp
    · rw [h n e]
      by_cases h2 : c < n
      · rw [if_pos h2, if_pos (by omega)]; omega
      · rw [if_neg h2, if_neg (by omega)]; omega
theorem cntQ_congr {f g : Nat → Bool} : ∀ n, (∀ a, a < n → f a = g a) → cntQ f n = cntQ g n
  | 0, _ => rfl
  | n + 1, h => by rw [cntQ, cntQ, cntQ_congr n (fun a ha => h a (by omega)), h n (by omega)]
/-- The points of l that are the least of their components. -/
noncomputable def repIn (xs : List Int) (l : Int) (a : Nat) : Bool := bt l a && (decide (a < 6) && rep xs a == a)
theorem parts_cnt {xs : List Int} (hx : ∀ x ∈ xs, 0 ≤ x ∧ x < 64) {l : Int} {k : Nat} (h : Parts xs l k) : 0 ≤ l → l < 64 → Closed xs l → cntQ (repIn xs l) 6 = k := by
  induction h with
  | zero =>
    intro _ _ _
    have : ∀ a, repIn xs 0 a = false := fun a => by
      unfold repIn bt
      rw [show (0 : Int).toNat = 0 from rfl, Nat.zero_testBit]; rfl
    simp [cntQ, this]
  | succ l P k h0 hc _ ih =>
    intro l0 l1 hcl
    obtain ⟨a1, a2, a3, a4⟩ := lo_spec h0 l1
    have hp := hc.1.1
    have hP : P = cmp6 xs (lo l) := by rw [a4] at hc; exact comp_unique hc (cmp6_is hx a1)
    have hPl : sub P l = true := hc.1.2.2 l l0 l1 (by rw [a4]; exact sub_pt.2 a2) hcl
    have hlP : bt P (lo l) = true := by rw [hP]; exact cmp6_self hx a1
    have hloP : lo P = lo l := lo_eq h0 l1 (pos_bt hp.1 hlP) hp.2 hPl hlP
    have hr := rest_rng l0 l1 hp.1 hp.2
    have hcl2 : Closed xs (restS l P) := fun s hs hm => sub_bt.2 fun b hb => by
      obtain ⟨a, h1, h2⟩ := meets_bt.1 hm
      have ha6 := bt_lt (hx s hs).2 h1
      have hb6 := bt_lt (hx s hs).2 hb
      rw [bt_rest l0 l1 hp.1 hp.2 ha6] at h2
      simp at h2
      rw [bt_rest l0 l1 hp.1 hp.2 hb6, sub_bt.1 (hcl s hs (meets_bt.2 ⟨a, h1, h2.1⟩)) b hb]
      cases e : bt P b with
      | false => rfl
      | true =>
        have := sub_bt.1 (hc.2 s hs (meets_bt.2 ⟨b, hb, e⟩)) a h1
        rw [h2.2] at this; cases this
    have ih2 := ih hr.1 hr.2.1 hcl2
    rw [← ih2]
    have := cntQ_add (f := repIn xs l) (g := repIn xs (restS l P)) (c := lo l) (by
      unfold repIn
      rw [a2, show rep xs (lo l) = lo l from by unfold rep; rw [← hP, hloP]]
      simp [a1]) (by
      unfold repIn
      rw [bt_rest l0 l1 hp.1 hp.2 a1, hlP]; simp) (fun a ha => by
      unfold repIn
      by_cases h6 : a < 6
      · rw [bt_rest l0 l1 hp.1 hp.2 h6]
        cases e : bt P a with
        | false => simp
        | true =>
          have e2 : rep xs a = lo l := by
            unfold rep
            rw [cmp6_eq hx a1 h6 (by rw [← hP]; exact e), ← hP, hloP]
          rw [e2]
          simp [h6, show ¬ lo l = a from fun h => ha h.symm]
      · simp [h6]) 6
    rw [this, if_pos a1]
theorem parts_ex {xs : List Int} (hx : ∀ x ∈ xs, 0 ≤ x ∧ x < 64) : ∀ (n : Nat) (l : Int), 0 ≤ l → l < 64 → l.toNat ≤ n → ∃ k, Parts xs l k := by
  intro n
  induction n with
  | zero =>
    intro l l0 _ hn
    have : l = 0 := by omega
    subst this; exact ⟨0, .zero⟩
  | succ n ih =>
    intro l l0 l1 hn
    by_cases h0 : 0 < l
    · obtain ⟨P, hP⟩ := comp_ex hx (p := lowS l) (low_rng h0 l1).2
      have hr := rest_rng l0 l1 hP.1.1.1 hP.1.1.2
      have hlt := hr.2.2.2 h0 hP.1.2.1
      obtain ⟨k, hk⟩ := ih (restS l P) hr.1 hr.2.1 (by omega)
      exact ⟨k + 1, .succ l P k h0 hP hk⟩
    · have : l = 0 := by omega
      subst this; exact ⟨0, .zero⟩
theorem bt_or (s t : Int) (a : Nat) : bt (orS s t) a = (bt s a || bt t a) := by
  unfold bt orS
  rw [Int.toNat_natCast, Nat.testBit_or]
theorem bt_used (xs : List Int) (a : Nat) : ∀ j, j ≤ xs.length → (bt (usedTo xs j) a = true ↔ ∃ i, i < j ∧ bt (gi xs i) a = true)
  | 0, _ => by
    unfold usedTo bt
    rw [show (0 : Int).toNat = 0 from rfl, Nat.zero_testBit]
    constructor
    · intro h; cases h
    · rintro ⟨i, hi, _⟩; omega
  | j + 1, hj => by
    rw [usedTo, bt_or]
    have ih := bt_used xs a j (by omega)
    constructor
    · intro h
      cases e : bt (usedTo xs j) a with
      | true => obtain ⟨i, h1, h2⟩ := ih.1 e; exact ⟨i, by omega, h2⟩
      | false => rw [e] at h; exact ⟨j, by omega, by simpa using h⟩
    · rintro ⟨i, h1, h2⟩
      by_cases e : i = j
      · subst e; rw [h2]; simp
      · rw [ih.2 ⟨i, by omega, h2⟩]; rfl
theorem used_iff {xs : List Int} {a : Nat} : bt (usedS xs) a = true ↔ ∃ x ∈ xs, bt x a = true := by
  unfold usedS
  rw [bt_used xs a _ (Nat.le_refl _)]
  constructor
  · rintro ⟨i, h1, h2⟩; exact ⟨_, gi_mem h1, h2⟩
  · rintro ⟨x, h1, h2⟩
    obtain ⟨i, h3, rfl⟩ := mem_gi h1
    exact ⟨i, h3, h2⟩

/-! ### The border of the edges -/

theorem edge_fin : ∀ a b : Fin 6, a ≠ b → 2 ^ a.val + 2 ^ b.val < 64 ∧ pc ((2 ^ a.val + 2 ^ b.val : Nat) : Int) = 2 ∧ (∀ c : Fin 6, (2 ^ a.val + 2 ^ b.val).testBit c.val = true → c = a ∨ c = b) ∧ (∃ x : Fin 2, ∀ c : Fin 6, sgnS ((2 ^ c.val : Nat) : Int) ((2 ^ a.val + 2 ^ b.val : Nat) : Int) = (2 * (x.val : Int) - 1) * (dl c.val a.val - dl c.val b.val)) := by decide +kernel
theorem two_fin : ∀ t : Fin 64, pc (t.val : Int) = 2 → ∃ a b : Fin 6, a ≠ b ∧ t.val = 2 ^ a.val + 2 ^ b.val ∧ t.val.testBit a.val = true ∧ t.val.testBit b.val = true := by decide +kernel
theorem one_fin : ∀ t : Fin 64, pc (t.val : Int) = 1 → ∃ a : Fin 6, 2 ^ a.val = t.val := by decide +kernel
theorem pt_fin : ∀ a : Fin 6, pc ((2 ^ a.val : Nat) : Int) = 1 ∧ 2 ^ a.val < 64 := by decide +kernel
theorem RK.inner {p : Int} {m n M N r : Nat} {A a : Nat → Nat → Int} (f g : Nat → Nat) (hf : ∀ i, i < m → f i < M) (hg : ∀ j, j < n → g j < N)
    (ha : ∀ i j, i < m → j < n → a i j = A (f i) (g j)) (hz : ∀ s t, s < M → t < N → A s t ≠ 0 → (∃ i, i < m ∧ f i = s) ∧ ∃ j, j < n ∧ g j = t) (h : RK p M N r A) : RK p m n r a :=
  ⟨h.1.inner f g hf hg ha, fun s hs => h.2 s (hs.embed f g ha hz)⟩
/-- The points. -/
def vP (P : Int → Bool) (a : Nat) : Bool := P (pt a)
def D2 (P : Int → Bool) (a t : Nat) : Int := DM P 2 (2 ^ a) t
theorem D2_rk {P : Int → Bool} {p : Int} (hp : PrimeP p) : RK p 6 64 (rkN P p 2) (D2 P) := by
  refine (rkN_rk (P := P) hp 2).inner (fun a => 2 ^ a) (fun t => t) (fun i hi => (pt_fin ⟨i, hi⟩).2) (fun j hj => hj) (fun i j _ _ => rfl) (fun s t hs ht hne => ?_)
  have hc : (P (s : Int) = true ∧ pc (s : Int) + 1 = (2 : Nat)) ∧ P (t : Int) = true ∧ pc (t : Int) = (2 : Nat) := Classical.byContradiction fun hn => hne (if_neg hn)
  obtain ⟨a, ha⟩ := one_fin ⟨s, hs⟩ (by show pc (s : Int) = 1; omega)
  exact ⟨⟨a.val, a.isLt, ha⟩, t, ht, rfl⟩
theorem vP_cnt {P : Int → Bool} {p : Int} (hp : PrimeP p) : cntQ (vP P) 6 = fcN P 1 := by
  have h1 := idS_rk hp (vP P) 6
  have h2 := idS_rk hp (szF P 1) 64
  refine RK.unique h1 (h2.inner (fun a => 2 ^ a) (fun a => 2 ^ a) (fun i hi => (pt_fin ⟨i, hi⟩).2) (fun i hi => (pt_fin ⟨i, hi⟩).2) (fun i j hi hj => ?_) (fun s t hs ht hne => ?_))
  · have h3 := (pt_fin ⟨i, hi⟩).1
    unfold idS
    by_cases e : i = j
    · subst e
      by_cases hv : vP P i = true
      · rw [if_pos ⟨hv, rfl⟩, if_pos ⟨szF_iff.2 ⟨hv, h3⟩, rfl⟩]
      · rw [if_neg (fun h => hv h.1), if_neg (fun h => hv (szF_iff.1 h.1).1)]
    · rw [if_neg (fun h => e h.2), if_neg (fun h => e ((Nat.pow_right_inj (show 1 < 2 by omega)).1 h.2))]
  · have hc : szF P 1 s = true ∧ s = t := Classical.byContradiction fun hn => hne (if_neg hn)
    obtain ⟨hc1, rfl⟩ := hc
    obtain ⟨a, ha⟩ := one_fin ⟨s, hs⟩ (szF_iff.1 hc1).2
    exact ⟨⟨a.val, a.isLt, ha⟩, ⟨a.val, a.isLt, ha⟩⟩
/-- An edge's border. -/
theorem D2_edge {P : Int → Bool} (hP : Dn P) {a b : Nat} (ha : a < 6) (hb : b < 6) (hne : a ≠ b) (h : P ((2 ^ a + 2 ^ b : Nat) : Int) = true) : ∃ x : Int, x * x = 1 ∧ ∀ c, c < 6 → D2 P c (2 ^ a + 2 ^ b) = x * (dl c a - dl c b) := by
  obtain ⟨e1, e2, _, ⟨x, e4⟩⟩ := edge_fin ⟨a, ha⟩ ⟨b, hb⟩ (fun h => hne (by simpa using h))
  simp only at e1 e2 e4
  refine ⟨2 * (x.val : Int) - 1, ?_, fun c hc => ?_⟩
  · rcases (show x.val = 0 ∨ x.val = 1 by omega) with h | h <;> rw [h] <;> rfl
  · have h3 := pt_fin ⟨c, hc⟩
    have h4 := e4 ⟨c, hc⟩
    simp only at h3 h4
    unfold D2
    rw [DM_col hP h3.2 e1 ⟨h, e2⟩, sgn1, if_pos (by rw [e2, h3.1]; rfl), h4]
theorem sm_two (f : Nat → Int) {a b n : Nat} (x : Int) (ha : a < n) (hb : b < n) : sm (fun c => f c * (x * (dl c a - dl c b))) n = x * (f a - f b) := by
  have e : sm (fun c => f c * (x * (dl c a - dl c b))) n = sm (fun c => x * ((fun c => f c * dl c a) c - (fun c => f c * dl c b) c)) n := sm_congr fun c _ => by
    show f c * (x * (dl c a - dl c b)) = x * (f c * dl c a - f c * dl c b)
    rw [← Int.mul_assoc, Int.mul_comm (f c) x, Int.mul_assoc, Int.mul_sub]
  rw [e, sm_mul, sm_sub, sm_dl f ha, sm_dl f hb]
noncomputable def repQ (P : Int → Bool) (xs : List Int) (a : Nat) : Bool := vP P a && rep xs a == a
open Classical in
noncomputable def AM (P : Int → Bool) (xs : List Int) (r a : Nat) : Int := if vP P a = true ∧ rep xs a = r then 1 else 0
/-- The faces come from the facets xs. -/
def From (P : Int → Bool) (xs : List Int) : Prop := (∀ x ∈ xs, 0 ≤ x ∧ x < 64) ∧ ∀ t : Int, P t = true ↔ ∃ x ∈ xs, sub t x = true
theorem From.v {P : Int → Bool} {xs : List Int} (h : From P xs) {a : Nat} : vP P a = true ↔ ∃ x ∈ xs, bt x a = true := by
  unfold vP
  rw [h.2]
  constructor
  · rintro ⟨x, hx, hs⟩; exact ⟨x, hx, sub_pt.1 hs⟩
  · rintro ⟨x, hx, hs⟩; exact ⟨x, hx, sub_pt.2 hs⟩
theorem From.dn {P : Int → Bool} {xs : List Int} (h : From P xs) : Dn P := fun s t _ _ _ _ ht hs => by
  obtain ⟨x, hx, h2⟩ := (h.2 t).1 ht
  exact (h.2 s).2 ⟨x, hx, sub_trans hs h2⟩
theorem From.used {P : Int → Bool} {xs : List Int} (h : From P xs) (a : Nat) : bt (usedS xs) a = vP P a := by
  have h1 := used_iff (xs := xs) (a := a)
  have h2 := h.v (a := a)
  cases e : bt (usedS xs) a with
  | true => exact (h2.2 (h1.1 e)).symm
  | false =>
    cases e2 : vP P a with
    | false => rfl
    | true => rw [h1.2 (h2.1 e2)] at e; cases e
theorem From.vrep {P : Int → Bool} {xs : List Int} (h : From P xs) {a : Nat} (ha : a < 6) (hv : vP P a = true) : vP P (rep xs a) = true := by
  obtain ⟨x, hx, hxa⟩ := h.v.1 hv
  have A := cmp6_is h.1 ha
  have hcl : Closed xs (usedS xs) := fun s hs _ => sub_bt.2 fun b hb => used_iff.2 ⟨s, hs, hb⟩
  have hr := usedTo_rng h.1 (Nat.le_refl xs.length)
  have := A.1.2.2 (usedS xs) hr.1 hr.2 (sub_pt.2 (used_iff.2 ⟨x, hx, hxa⟩)) hcl
  rw [← h.used]
  exact sub_bt.1 this _ (rep_spec h.1 ha).2.1
theorem AM_rk {P : Int → Bool} {xs : List Int} {p : Int} (hp : PrimeP p) (h : From P xs) : RK p 6 6 (cntQ (repQ P xs) 6) (AM P xs) := by
  have hz : ∀ r a, a < 6 → repQ P xs r = false → AM P xs r a = 0 := fun r a ha hr => if_neg fun hc => by
    have h1 := (rep_spec h.1 ha).2.2.2
    have h2 := h.vrep ha hc.1
    rw [hc.2] at h1 h2
    rw [repQ, h1, h2] at hr; simp at hr
  refine ⟨?_, fun s hs => ?_⟩
  · refine (FR.supp (p := p) (m := 6) (k := 6) (n := 6) (S := repQ P xs) (idS (repQ P xs)) (AM P xs) fun i t _ _ ht => ?_).cg (Cg.of_eq fun i j hi hj => ?_)
    · exact if_neg fun hc => by rw [← hc.2, hc.1] at ht; cases ht
    · rw [idS_mm hi]
      by_cases e : repQ P xs i = true
      · rw [if_pos e]
      · rw [if_neg e, hz i j hj (by simpa using e)]
  · have h1 : FR p 6 6 s (idS (repQ P xs)) := (hs.mmR (n := 6) (idS (repQ P xs))).cg (Cg.of_eq fun i j hi hj => by
      rw [mm_idS hj]
      by_cases e : repQ P xs j = true
      · have e' := e
        unfold repQ at e'
        simp at e'
        rw [if_pos e]
        unfold AM idS
        by_cases e2 : i = j
        · subst e2; rw [if_pos ⟨e'.1, e'.2⟩, if_pos ⟨e, rfl⟩]
        · rw [if_neg (fun hc => e2 (by rw [← hc.2, e'.2])), if_neg (fun hc => e2 hc.2)]
      · rw [if_neg e]
        exact (if_neg fun hc => e (by rw [← hc.2]; exact hc.1)).symm)
    exact (idS_id (p := p) (repQ P xs) 6).le hp.inv h1
theorem edge_le {P : Int → Bool} {xs : List Int} {p : Int} (hp : PrimeP p) (h : From P xs) : cntQ (repQ P xs) 6 + rkN P p 2 ≤ cntQ (vP P) 6 := by
  refine rank_null hp (S := vP P) (AM_rk hp h) (D2_rk hp) (fun i t _ _ ht => if_neg fun hc => by rw [hc.1] at ht; cases ht) (fun t j ht hj hv => ?_) (Cg.of_eq fun r t hr ht => ?_)
  · exact if_neg fun hc => by
      have := hc.1.1
      unfold vP pt at hv
      rw [this] at hv; cases hv
  · by_cases hc : P (t : Int) = true ∧ pc (t : Int) = 2
    · obtain ⟨a, b, hne, rfl, h1, h2⟩ := two_fin ⟨t, ht⟩ hc.2
      obtain ⟨x, _, hx⟩ := D2_edge h.dn a.isLt b.isLt (fun e => hne (Fin.ext e)) hc.1
      have e : mm 6 (AM P xs) (D2 P) r (2 ^ a.val + 2 ^ b.val) = x * (AM P xs r a.val - AM P xs r b.val) := by
        rw [← sm_two (fun c => AM P xs r c) x a.isLt b.isLt]
        exact sm_congr fun c hc => by rw [hx c hc]
      rw [e]
      obtain ⟨y, hy, hys⟩ := (h.2 _).1 hc.1
      have y1 : bt y a.val = true := sub_bt.1 hys a.val (by unfold bt; rw [Int.toNat_natCast]; exact h1)
      have y2 : bt y b.val = true := sub_bt.1 hys b.val (by unfold bt; rw [Int.toNat_natCast]; exact h2)
      have e3 : AM P xs r a.val = AM P xs r b.val := by
        unfold AM
        rw [h.v.2 ⟨y, hy, y1⟩, h.v.2 ⟨y, hy, y2⟩, rep_face h.1 b.isLt a.isLt hy y2 y1]
      rw [e3, Int.sub_self, Int.mul_zero]
    · refine (Eq.trans (sm_congr (g := fun _ => 0) fun a _ => ?_) (sm_zero 6)).symm
      unfold D2
      rw [show DM P 2 (2 ^ a) t = 0 from if_neg fun h' => hc h'.2, Int.mul_zero]
/-- From the point t to the point a along edges. -/
def Reach (P : Int → Bool) (t a : Nat) : Prop := ∃ y : Nat → Int, ∀ c, c < 6 → sm (fun s => D2 P c s * y s) 64 = dl c t - dl c a
theorem reach_rep {P : Int → Bool} {xs : List Int} (h : From P xs) {t : Nat} (ht : t < 6) : Reach P t (rep xs t) := by
  classical
  obtain ⟨B, hB⟩ : ∃ B : Nat → Bool, B = fun a => decide (Reach P t a) := ⟨_, rfl⟩
  have hb : ∀ a, B a = true ↔ Reach P t a := fun a => by rw [hB]; simp
  have hr := mk6_rng B
  have A := cmp6_is h.1 ht
  have h0 : Reach P t t := ⟨fun _ => 0, fun c _ => by rw [sm_congr (g := fun _ => 0) fun s _ => Int.mul_zero _, sm_zero]; omega⟩
  have hcl : Closed xs (mk6 B) := fun s hs hm => sub_bt.2 fun b hsb => by
    obtain ⟨a, h1, h2⟩ := meets_bt.1 hm
    have ha := bt_lt (h.1 s hs).2 h1
    have hb6 := bt_lt (h.1 s hs).2 hsb
    rw [bt_mk ha, hb] at h2
    rw [bt_mk hb6, hb]
    by_cases e : a = b
    · subst e; exact h2
    · obtain ⟨e1, _, e3, _⟩ := edge_fin ⟨a, ha⟩ ⟨b, hb6⟩ (fun h => e (by simpa using h))
      simp only at e1 e3
      have hPe : P ((2 ^ a + 2 ^ b : Nat) : Int) = true := (h.2 _).2 ⟨s, hs, sub_bt.2 fun c hc => by
        have hc6 : c < 6 := bt_lt (by omega) hc
        unfold bt at hc
        rw [Int.toNat_natCast] at hc
        rcases e3 ⟨c, hc6⟩ hc with h | h
        · have : c = a := by simpa using congrArg Fin.val h
          rw [this]; exact h1
        · have : c = b := by simpa using congrArg Fin.val h
          rw [this]; exact hsb⟩
      obtain ⟨x, hxx, hx⟩ := D2_edge h.dn ha hb6 e hPe
      obtain ⟨y, hy⟩ := h2
      refine ⟨fun s => y s + x * dl s (2 ^ a + 2 ^ b), fun c hc => ?_⟩
      have e5 : sm (fun s => D2 P c s * (y s + x * dl s (2 ^ a + 2 ^ b))) 64 = sm (fun s => (fun s => D2 P c s * y s) s + (fun s => x * (fun s => D2 P c s * dl s (2 ^ a + 2 ^ b)) s) s) 64 := sm_congr fun s _ => by
        show D2 P c s * (y s + x * dl s (2 ^ a + 2 ^ b)) = D2 P c s * y s + x * (D2 P c s * dl s (2 ^ a + 2 ^ b))
        rw [Int.mul_add, Int.mul_left_comm]
      rw [e5, sm_add, hy c hc, sm_mul, sm_dl (fun s => D2 P c s) e1, hx c hc, ← Int.mul_assoc, hxx]
      omega
  have := A.1.2.2 (mk6 B) hr.1 hr.2 (sub_pt.2 (by rw [bt_mk ht, hb]; exact h0)) hcl
  have h2 := sub_bt.1 this _ (rep_spec h.1 ht).2.1
  rw [bt_mk (rep_spec h.1 ht).1, hb] at h2
  exact h2
theorem edge_ge {P : Int → Bool} {xs : List Int} {p : Int} (hp : PrimeP p) (h : From P xs) : cntQ (vP P) 6 ≤ rkN P p 2 + cntQ (repQ P xs) 6 := by
  classical
  have hr : ∀ t, ∃ y : Nat → Int, t < 6 → ∀ c, c < 6 → sm (fun s => D2 P c s * y s) 64 = dl c t - dl c (rep xs t) := fun t => by
    by_cases ht : t < 6
    · obtain ⟨y, hy⟩ := reach_rep h ht; exact ⟨y, fun _ => hy⟩
    · exact ⟨fun _ => 0, fun h' => absurd h' ht⟩
  obtain ⟨Y, hY⟩ : ∃ Y : Nat → Nat → Int, ∀ t, t < 6 → ∀ c, c < 6 → sm (fun s => D2 P c s * Y t s) 64 = dl c t - dl c (rep xs t) := ⟨fun t => (hr t).choose, fun t => (hr t).choose_spec⟩
  have h1 : FR p 6 6 (rkN P p 2) (mm 64 (D2 P) fun s t => if vP P t = true then Y t s else 0) := (D2_rk (P := P) hp).1.mmR (n := 6) _
  have h2 : FR p 6 6 (cntQ (repQ P xs) 6) (AM P xs) := (AM_rk hp h).1
  have h4 := h1.add (B := fun i j => if vP P j = true ∧ i = rep xs j then 1 else 0) (h2.cg (Cg.of_eq fun i j _ _ => by
    unfold AM
    by_cases e : vP P j = true ∧ rep xs j = i
    · rw [if_pos e, if_pos ⟨e.1, e.2.symm⟩]
    · rw [if_neg e, if_neg (fun h => e ⟨h.1, h.2.symm⟩)]))
  refine (idS_id (p := p) (vP P) 6).le hp.inv (h4.cg (Cg.of_eq fun c t hc ht => ?_))
  by_cases hv : vP P t = true
  · have e1 : mm 64 (D2 P) (fun s t => if vP P t = true then Y t s else 0) c t = dl c t - dl c (rep xs t) := by
      rw [← hY t ht c hc]
      exact sm_congr fun s _ => by simp [hv]
    rw [e1]
    unfold idS dl
    by_cases e : c = t
    · subst e
      by_cases e2 : c = rep xs c
      · rw [if_pos rfl, if_pos e2, if_pos ⟨hv, e2⟩, if_pos ⟨hv, rfl⟩]; rfl
      · rw [if_pos rfl, if_neg e2, if_neg (fun h => e2 h.2), if_pos ⟨hv, rfl⟩]; rfl
    · by_cases e2 : c = rep xs t
      · rw [if_neg e, if_pos e2, if_pos ⟨hv, e2⟩, if_neg (fun h => e h.2)]; rfl
      · rw [if_neg e, if_neg e2, if_neg (fun h => e2 h.2), if_neg (fun h => e h.2)]; rfl
  · have e1 : mm 64 (D2 P) (fun s t => if vP P t = true then Y t s else 0) c t = 0 := by
      refine Eq.trans (sm_congr (g := fun _ => 0) fun s _ => ?_) (sm_zero 64)
      simp [hv]
    rw [e1]
    unfold idS
    rw [if_neg (fun h => hv h.1), if_neg (fun h => hv (by rw [← h.2]; exact h.1))]; rfl
theorem rk_parts {P : Int → Bool} {xs : List Int} {p : Int} (hp : PrimeP p) (h : From P xs) : (rkN P p 2 : Int) + partsN xs = fcN P 1 := by
  have hr := usedTo_rng h.1 (Nat.le_refl xs.length)
  obtain ⟨k, hk⟩ := parts_ex h.1 _ (usedS xs) hr.1 hr.2 (Nat.le_refl _)
  have hcl : Closed xs (usedS xs) := fun s hs _ => sub_bt.2 fun b hb => used_iff.2 ⟨s, hs, hb⟩
  have h1 := parts_cnt h.1 hk hr.1 hr.2 hcl
  have h2 : cntQ (repIn xs (usedS xs)) 6 = cntQ (repQ P xs) 6 := cntQ_congr 6 fun a ha => by
    unfold repIn repQ
    rw [h.used]; simp [ha]
  have h3 := edge_le hp h
  have h4 := edge_ge hp h
  rw [vP_cnt hp] at h3 h4
  rw [partsN_eq hk]; omega

end Go.Proofs.Ytjaofbdfhcgmeaa
