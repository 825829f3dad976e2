/-
  Faces by size, and their counts.
-/
import Derived.Test.YtjaofbdfhcgmeaaMat
import Derived.Test.YtjaofbdfhcgmeaaMiss
namespace Go.Proofs.Ytjaofbdfhcgmeaa
open Go.RowKit

/-! ### Plain law -/

def topN (P : Int → Bool) : Nat → Int
  | 0 => -1
  | s + 1 => if P (s : Int) = true ∧ topN P s < pc s then pc s else topN P s
theorem topN_rng (P : Int → Bool) (s : Nat) : -1 ≤ topN P s ∧ topN P s ≤ 6 := by
  induction s with
  | zero => simp [topN]
  | succ s ih =>
    have := pc_rng s
    rw [topN]
    split <;> omega
theorem topN_ge {P : Int → Bool} {s t : Nat} (h : t < s) (hp : P (t : Int) = true) : pc t ≤ topN P s := by
  induction s with
  | zero => omega
  | succ s ih =>
    rw [topN]
    by_cases e : t = s
    · subst e
      split
      · omega
      · rename_i h'
        exact Int.not_lt.1 fun h2 => h' ⟨hp, h2⟩
    · have := ih (by omega)
      split <;> omega
theorem topN_le {P : Int → Bool} {B : Int} (hB : -1 ≤ B) {s : Nat} (h : ∀ t : Nat, t < s → P (t : Int) = true → pc t ≤ B) : topN P s ≤ B := by
  induction s with
  | zero => simpa [topN] using hB
  | succ s ih =>
    have h1 := ih fun t ht => h t (by omega)
    rw [topN]
    split
    · rename_i h2; exact h s (by omega) h2.1
    · exact h1
def sizesN (P : Int → Bool) : Nat := (topN P 64 + 1).toNat
theorem sizesN_eq (P : Int → Bool) : topN P 64 + 1 = (sizesN P : Int) := by have := topN_rng P 64; unfold sizesN; omega
theorem sizesN_le (P : Int → Bool) : sizesN P ≤ 7 := by have := topN_rng P 64; unfold sizesN; omega
def bySzTo (P : Int → Bool) (s : Nat) : List (List Int) := (List.range (sizesN P)).map fun k : Nat => rowTo P (k : Int) s
def bySz (P : Int → Bool) : List (List Int) := bySzTo P 64
theorem bySzTo_len (P : Int → Bool) (s : Nat) : (bySzTo P s).length = sizesN P := by simp [bySzTo]
attribute [simp] bySzTo_len
theorem bySzTo_get {P : Int → Bool} {s k : Nat} (hk : k < sizesN P) : gr (bySzTo P s) k = rowTo P (k : Int) s := by simp [gr, List.getD, bySzTo, hk]
theorem bySzTo_zero (P : Int → Bool) : bySzTo P 0 = List.replicate (sizesN P) [] := by
  refine List.ext_getElem (by simp) fun k h1 h2 => ?_
  simp [bySzTo, rowTo]
theorem list_ext_gr {M N : List (List Int)} (hl : M.length = N.length) (h : ∀ k, k < M.length → gr M k = gr N k) : M = N := by
  refine List.ext_getElem hl fun k h1 h2 => ?_
  have := h k h1
  rwa [gr_eq h1, gr_eq h2] at this
theorem bySzTo_t {P : Int → Bool} {s K : Nat} (hp : P (s : Int) = true) (hK : pc s = (K : Int)) (hk : K < sizesN P) : (bySzTo P s).set K (gr (bySzTo P s) K ++ [(s : Int)]) = bySzTo P (s + 1) := by
  refine list_ext_gr (by simp) fun k hk' => ?_
  have hk2 : k < sizesN P := by simpa using hk'
  rw [gr_set (by simpa using hk), bySzTo_get hk2, bySzTo_get hk2, bySzTo_get hk, rowTo]
  by_cases e : k = K
  · subst e
    rw [if_pos rfl, if_pos ⟨hp, hK⟩]
  · rw [if_neg e, if_neg (fun h => e (by have := h.2; omega))]
theorem bySzTo_f {P : Int → Bool} {s : Nat} (hp : P (s : Int) = false) : bySzTo P s = bySzTo P (s + 1) := by
  refine list_ext_gr (by simp) fun k hk' => ?_
  have hk2 : k < sizesN P := by simpa using hk'
  rw [bySzTo_get hk2, bySzTo_get hk2, rowTo, if_neg (by rw [hp]; simp)]
theorem bySz_fit {P : Int → Bool} {s K : Nat} (hs : s < 64) (hp : P (s : Int) = true) (hK : pc s = (K : Int)) : K < sizesN P := by
  have h1 := topN_ge hs hp
  have h2 := sizesN_eq P
  omega

def lens (M : List (List Int)) : List Int := M.map fun r => (r.length : Int)
theorem lens_len (M : List (List Int)) : (lens M).length = M.length := by simp [lens]
theorem lens_succ {M : List (List Int)} {j : Nat} (h : j < M.length) : lens (M.take (j + 1)) = lens (M.take j) ++ [((gr M j).length : Int)] := by rw [take_succ_gr h, lens, List.map_append]; rfl
theorem lens_gi {M : List (List Int)} {j : Nat} (h : j < M.length) : gi (lens M) j = ((gr M j).length : Int) := by simp [gi, lens, List.getD, h, gr]
def cntS (P : Int → Bool) : List Int := lens (bySz P)
theorem cntS_len (P : Int → Bool) : (cntS P).length = sizesN P := by simp [cntS, lens, bySz]
def fvB (n : Int) (xs : List Int) : List Int := if isC n xs = true then cntS (dn (mem xs)) else []
theorem fvB_len (n : Int) (xs : List Int) : (fvB n xs).length ≤ 7 := by
  unfold fvB
  split
  · rw [cntS_len]; exact sizesN_le _
  · simp
theorem fvB_rng (n : Int) (xs : List Int) (j : Nat) : 0 ≤ gi (fvB n xs) j ∧ gi (fvB n xs) j ≤ 64 := by
  unfold fvB
  split
  · by_cases h : j < sizesN (dn (mem xs))
    · rw [cntS, lens_gi (by simpa [bySz] using h), bySz, bySzTo_get h]
      have := rowTo_len (dn (mem xs)) (j : Int) 64
      omega
    · have : gi (cntS (dn (mem xs))) j = 0 := by
        simp only [gi, List.getD]
        rw [List.getElem?_eq_none (by rw [cntS_len]; omega)]; rfl
      omega
  · simp [gi]
def facesB (n : Int) (xs : List Int) : List Int := if isC n xs = true then setsL (dn (mem xs)) else []

/-! the reference counts as it goes -/

def padTo (o : List Int) (k : Nat) : List Int := o ++ List.replicate (k - o.length) 0
def bump (o : List Int) (k : Nat) : List Int := (padTo o (k + 1)).set k (gi (padTo o (k + 1)) k + 1)
def szN (x : Int) : Nat := (pc x).toNat
theorem szN_eq (x : Int) : pc x = (szN x : Int) := by have := pc_rng x; unfold szN; omega
theorem szN_le (x : Int) : szN x ≤ 6 := by have := pc_rng x; unfold szN; omega
def tallyTo (L : List Int) : Nat → List Int
  | 0 => []
  | j + 1 => bump (tallyTo L j) (szN (gi L j))
theorem padTo_len (o : List Int) (k : Nat) : (padTo o k).length = max o.length k := by simp [padTo]; omega
theorem padTo_gi (o : List Int) (k i : Nat) : gi (padTo o k) i = gi o i := by
  simp only [gi, List.getD, padTo, List.getElem?_append, List.getElem?_replicate]
  by_cases h : i < o.length
  · rw [if_pos h]
  · rw [if_neg h, List.getElem?_eq_none (by omega)]
    split <;> rfl
theorem padTo_next {o : List Int} {k : Nat} (h : o.length < k) : padTo (o ++ [0]) k = padTo o k := by
  simp only [padTo, List.append_assoc, List.length_append, List.length_singleton]
  congr 1
  rw [show k - o.length = (k - (o.length + 1)) + 1 by omega, List.replicate_succ]
  rfl
theorem padTo_done {o : List Int} {k : Nat} (h : k ≤ o.length) : padTo o k = o := by simp [padTo, show k - o.length = 0 by omega]
theorem gi_set {o : List Int} {k i : Nat} {x : Int} (h : k < o.length) : gi (o.set k x) i = if i = k then x else gi o i := by
  simp only [gi, List.getD, List.getElem?_set]
  by_cases e : i = k
  · subst e; simp [h]
  · simp [e, Ne.symm e]
theorem bump_gi (o : List Int) (k i : Nat) : gi (bump o k) i = if i = k then gi o k + 1 else gi o i := by
  rw [bump, gi_set (by rw [padTo_len]; omega), padTo_gi, padTo_gi]
theorem bump_len (o : List Int) (k : Nat) : (bump o k).length = max o.length (k + 1) := by rw [bump, List.length_set, padTo_len]
theorem tally_len_le {L : List Int} {B j : Nat} (h : ∀ i, i < j → szN (gi L i) + 1 ≤ B) : (tallyTo L j).length ≤ B := by
  induction j with
  | zero => simp [tallyTo]
  | succ j ih =>
    rw [tallyTo, bump_len]
    have h1 := ih fun i hi => h i (by omega)
    have h2 := h j (by omega)
    omega
theorem tally_len_ge {L : List Int} {i j : Nat} (h : i < j) : szN (gi L i) + 1 ≤ (tallyTo L j).length := by
  induction j with
  | zero => omega
  | succ j ih =>
    rw [tallyTo, bump_len]
    by_cases e : i = j
    · subst e; omega
    · have := ih (by omega)
      omega
theorem tally_gi {L : List Int} {j : Nat} (hj : j ≤ L.length) (i : Nat) : gi (tallyTo L j) i = (((L.take j).filter fun x => szN x == i).length : Int) := by
  induction j with
  | zero => simp [tallyTo, gi]
  | succ j ih =>
    have ih' := ih (by omega)
    rw [tallyTo, bump_gi, take_succ_gi (by omega), List.filter_append, List.length_append]
    by_cases e : i = szN (gi L j)
    · rw [if_pos e, ← e, ih']; simp [← e]
    · rw [if_neg e, ih']
      have : (szN (gi L j) == i) = false := by simp; omega
      simp [this]
theorem gi_ext {L N : List Int} (hl : L.length = N.length) (h : ∀ k, k < L.length → gi L k = gi N k) : L = N := by
  refine List.ext_getElem hl fun k h1 h2 => ?_
  have := h k h1
  rwa [gi_eq L k h1, gi_eq N k h2] at this
theorem rowTo_filter_sz (P : Int → Bool) (i : Nat) : (setsL P).filter (fun x => szN x == i) = rowTo P (i : Int) 64 := by
  refine sorted_ext ((setsL_sorted P).sublist List.filter_sublist) (rowTo_sorted P _ _) fun s => ?_
  rw [List.mem_filter, mem_setsL, mem_rowTo]
  have := szN_eq s
  simp only [beq_iff_eq]
  constructor
  · rintro ⟨⟨a, b, c⟩, d⟩; exact ⟨a, by omega, c, by omega⟩
  · rintro ⟨a, b, c, d⟩; exact ⟨⟨a, by omega, c⟩, by omega⟩
theorem tally_law (P : Int → Bool) : tallyTo (setsL P) (setsL P).length = cntS P := by
  have hl : (tallyTo (setsL P) (setsL P).length).length = sizesN P := by
    refine Nat.le_antisymm (tally_len_le fun i hi => ?_) ?_
    · obtain ⟨a, b, c⟩ := setsL_rng hi
      have h1 := szN_eq (gi (setsL P) i)
      have h2 := topN_ge (P := P) (s := 64) (t := (gi (setsL P) i).toNat) (by omega) (by rw [Int.toNat_of_nonneg a]; exact c)
      rw [Int.toNat_of_nonneg a] at h2
      have := sizesN_eq P
      omega
    · have h := topN_le (P := P) (B := ((tallyTo (setsL P) (setsL P).length).length : Int) - 1) (by omega) (s := 64) fun t ht hp => by
        have hm : (t : Int) ∈ setsL P := mem_setsL.2 ⟨by omega, by omega, hp⟩
        obtain ⟨i, hi, he⟩ := mem_gi hm
        have := tally_len_ge (L := setsL P) hi
        rw [he] at this
        have := szN_eq (t : Int)
        omega
      have := sizesN_eq P
      omega
  refine gi_ext (by rw [hl, cntS_len]) fun k hk => ?_
  rw [hl] at hk
  rw [tally_gi (Nat.le_refl _), List.take_length, rowTo_filter_sz, cntS, lens_gi (by simpa [bySz] using hk), bySz, bySzTo_get hk]

/-! ### The walks -/

set_option maxHeartbeats 1000000 in
theorem topSize_c (P : Int → Bool) (w : World) : Calls Try.prog 187 #[.int .u64 (fam P)] w fun e w' => e = .returned (.int .i64 (topN P 64)) ∧ w = w' := by
  go_enter Try.func187, Try.ntmps187
  go_wp2_with fail
  go_loop [3, 4] (fun t i => ∃ (s : Nat), s ≤ 64 ∧ i = .int .i64 s ∧ t = .int .i64 (topN P s)) (fun _ i => 64 - (intOf i).toNat)
  case atStart => exact ⟨0, by omega, rfl, rfl⟩
  case round =>
    obtain ⟨s, hs, rfl, rfl⟩ := hrel
    by_cases hlt : s < 64
    · by_cases hp : P (s : Int) = true
      · by_cases hm : topN P s < pc s
        · have E : Hid (topN P (s + 1) = pc s) := by show _ = _; rw [topN, if_pos ⟨hp, hm⟩]
          go_wp2_with (first | (go_at_call 163; refine (hasSet_c P _ _ (by omega) (by omega)).mono ?_; rw [hp]; rintro e w' ⟨rfl, rfl⟩) | (go_at_call 111; refine (SizeOf_s _ _ (by omega) (by omega)).mono ?_; rintro e w' ⟨rfl, rfl⟩))
          go_round
          case rel => exact ⟨s + 1, by omega, by go_num, by rw [E.out]⟩
          case measure => simp [intOf]; omega
        · have E : Hid (topN P (s + 1) = topN P s) := by show _ = _; rw [topN, if_neg (fun h => hm h.2)]
          go_wp2_with (first | (go_at_call 163; refine (hasSet_c P _ _ (by omega) (by omega)).mono ?_; rw [hp]; rintro e w' ⟨rfl, rfl⟩) | (go_at_call 111; refine (SizeOf_s _ _ (by omega) (by omega)).mono ?_; rintro e w' ⟨rfl, rfl⟩))
          go_round
          case rel => exact ⟨s + 1, by omega, by go_num, by rw [E.out]⟩
          case measure => simp [intOf]; omega
      · have hp' : P (s : Int) = false := by simpa using hp
        have E : Hid (topN P (s + 1) = topN P s) := by show _ = _; rw [topN, if_neg (fun h => hp h.1)]
        go_wp2_with (first | (go_at_call 163; refine (hasSet_c P _ _ (by omega) (by omega)).mono ?_; rw [hp']; rintro e w' ⟨rfl, rfl⟩) | (go_at_call 111; refine (SizeOf_s _ _ (by omega) (by omega)).mono ?_; rintro e w' ⟨rfl, rfl⟩))
        go_round
        case rel => exact ⟨s + 1, by omega, by go_num, by rw [E.out]⟩
        case measure => simp [intOf]; omega
    · have es : s = 64 := by omega
      subst es
      go_wp2_with fail
      go_ret
      exact ⟨rfl, rfl⟩

set_option maxHeartbeats 2000000 in
theorem bySize_c (P : Int → Bool) (w : World) : Calls Try.prog 176 #[.int .u64 (fam P)] w fun e w' => ∃ v vs, e = .returned v ∧ vs.length = (bySz P).length ∧ St w w' (⟨v, 26, vs⟩ :: rowsOn vs (bySz P) []) := by
  have hn7 := sizesN_le P
  have HC : Hid (∀ w : World, Calls Try.prog 187 #[.int .u64 (fam P)] w fun e w' => e = .returned (.int .i64 ((sizesN P : Int) - 1)) ∧ w = w') := fun w => by
    have := topSize_c P w
    rwa [show topN P 64 = (sizesN P : Int) - 1 by have := sizesN_eq P; omega] at this
  go_enter Try.func176, Try.ntmps176
  go_wp2_with (first | (go_at_call 187; refine (HC.out _).mono ?_; rintro e w' ⟨rfl, rfl⟩) | (at_make; refine wpList_mk rfl _ _ rfl tSS (St.start w).own (sizesN P) (by omega) rfl rfl ?_))
  intro u w1 hO hB
  have hS0 := (St.mk hO hB : St w w1 _).nilRows (sizesN P)
  rw [← bySzTo_zero] at hS0
  have HS0 := hid hS0
  clear hO hB hS0
  go_wp2_with fail
  go_loopw [4] (fun i wr => ∃ (s : Nat) (vs : List Value), s ≤ 64 ∧ i = .int .i64 s ∧ vs.length = (bySzTo P s).length ∧ St w wr (⟨u, 26, vs⟩ :: rowsOn vs (bySzTo P s) [])) (fun i _ => 64 - (intOf i).toNat)
  case atStart => exact ⟨0, _, by omega, rfl, by simp, HS0.out⟩
  case round =>
    obtain ⟨s, vs, hs, rfl, hvl, hS⟩ := hrel
    have HL := hid hvl
    have HS := hid hS
    by_cases hlt : s < 64
    · by_cases hp : P (s : Int) = true
      · obtain ⟨K, hK⟩ : ∃ K : Nat, pc s = (K : Int) := ⟨szN s, szN_eq s⟩
        have hkf := bySz_fit hlt hp hK
        have hkl : K < (bySzTo P s).length := by simpa using hkf
        have hkl' : K < vs.length := by omega
        have f1 := hS.hd.ix tSS K hkl'
        have f2 : wr.cell? (adr u K) = some (gv vs K) := by rw [hS.hd.cell K hkl', gv_get hkl']
        have HP1 := hid (hS.pick hvl hkl)
        have hrl : (gr (bySzTo P s) K).length ≤ 64 := by rw [bySzTo_get hkf]; have := rowTo_len P (K : Int) s; omega
        have E := hid (bySzTo_t hp hK hkf)
        have HC : Hid (∀ w : World, Calls Try.prog 111 #[.int .i64 (s : Int)] w fun e w' => e = .returned (.int .i64 (K : Int)) ∧ w = w') := fun w => by
          have := SizeOf_s (s : Int) w (by omega) (by omega)
          rwa [hK] at this
        clear hS hvl hK
        go_wp2_with (first | (go_at_call 163; refine (hasSet_c P _ _ (by omega) (by omega)).mono ?_; rw [hp]; rintro e w' ⟨rfl, rfl⟩) | (go_at_call 111; refine (HC.out _).mono ?_; rintro e w' ⟨rfl, rfl⟩) | (at_builtin; refine wpList_push rfl _ _ rfl tI HP1.out.own (.int .i64 (s : Int)) rfl (by simp; omega) rfl rfl ?_))
        intro v2 w2 hO2 hb2
        have hS2 := HP1.out.mut hO2 hb2
        rw [ints_snoc] at hS2
        clear hO2 hb2
        obtain ⟨p2, l2, c2, rfl⟩ := hS2.hd.form
        have g2 : w2.cell? (adr u K) = some (gv vs K) := by rw [hS2.hd2.cell K hkl', gv_get hkl']
        have g3 : w2.frozen? (adr u K) = false := hS2.own.free (.tail _ (.head _)) K hkl'
        have HS2 := hid hS2
        clear hS2 f2
        go_wp2_with fail
        go_roundw
        case rel =>
          have hS3 := (HS2.out.swap.set K hkl' (.slice p2 l2 c2)).swap.unpick HL.out hkl
          rw [E.out] at hS3
          exact ⟨s + 1, vs.set K (.slice p2 l2 c2), by omega, by go_num, by simp; have := HL.out; simpa using this, hS3⟩
        case measure => simp [intOf]; omega
      · have hp' : P (s : Int) = false := by simpa using hp
        have E := hid (bySzTo_f hp')
        clear hS hvl
        go_wp2_with (go_at_call 163; refine (hasSet_c P _ _ (by omega) (by omega)).mono ?_; rw [hp']; rintro e w' ⟨rfl, rfl⟩)
        go_roundw
        case rel => exact ⟨s + 1, vs, by omega, by go_num, by rw [← E.out]; exact HL.out, by rw [← E.out]; exact HS.out⟩
        case measure => simp [intOf]; omega
    · have es : s = 64 := by omega
      subst es
      clear hS hvl
      go_wp2_with fail
      go_ret
      exact ⟨_, vs, rfl, HL.out, HS.out⟩



set_option maxHeartbeats 2000000 in
theorem sFacesOf_c (n : Int) (va : Value) (xs : List Int) (w : World) (ha : Rd w va (ints xs)) : Calls Try.prog 61 #[cx n va] w fun e w' => ∃ v, e = .returned v ∧ St w w' [⟨v, 3, ints (facesB n xs)⟩] := by
  obtain ⟨p1, l1, k1, rfl⟩ := ha.form
  have hS := (St.start w).box n (.slice p1 l1 k1) 30
  have HS := hid hS
  clear hS
  cases h1 : isC n xs with
  | false =>
    have E : Hid (facesB n xs = setsL (mem [])) := by
      show _ = _
      rw [facesB, h1]
      exact (setsL_mem (xs := []) (by simp) (by simp)).symm
    unfold cx
    go_enter Try.func61, Try.ntmps61
    go_wp2_with fail
    go_loopw [3, 4] (fun o i wr => ∃ u : Value, i = .int .i64 0 ∧ o = u ∧ St w wr [⟨u, 3, ints []⟩, ⟨bx w.heap.size, 30, [.int .i64 n, .slice p1 l1 k1]⟩]) (fun _ i _ => 64 - (intOf i).toNat)
    case atStart => exact ⟨_, rfl, rfl, HS.out.newAt #[] _ (by simp) (by simp)⟩
    case round =>
      obtain ⟨u, rfl, rfl, hS⟩ := hrel
      have d0 := hS.hd2.c0
      have d1 := hS.hd2.c1
      have ha2 := hS.old ha
      have HS1 := hid hS
      clear hS
      go_wp2_with fail
      refine (sIsComplex_c n _ xs _ ha2).mono ?_
      rw [h1]
      rintro e w2 ⟨rfl, hB⟩
      have HS2 := hid (HS1.out.quiet hB)
      clear hB
      go_wp2_with fail
      refine (l2Order_c _ [] _ HS2.out.hd (by simp)).mono ?_
      rintro e w3 ⟨v, rfl, hS3⟩
      have HS3 := hid (HS2.out.call1 hS3)
      clear hS3
      go_wp2_with fail
      go_ret
      exact ⟨_, rfl, by rw [E.out]; exact HS3.out.sub (.cons_cons _ (List.nil_sublist _))⟩
  | true =>
    have E : Hid (facesB n xs = setsL (mem (numTo (dn (mem xs)) 64))) := by
      show _ = _
      rw [facesB, if_pos h1]
      exact setsL_congr fun s h0 h1 => (mem_numTo64 _ h0 h1).symm
    have HR := hid (isC_iff.1 h1).rng
    unfold cx
    go_enter Try.func61, Try.ntmps61
    go_wp2_with fail
    go_loopw [3, 4] (fun o i wr => ∃ (s : Nat) (u : Value), s ≤ 64 ∧ i = .int .i64 s ∧ o = u ∧ St w wr [⟨u, 3, ints (numTo (dn (mem xs)) s)⟩, ⟨bx w.heap.size, 30, [.int .i64 n, .slice p1 l1 k1]⟩]) (fun _ i _ => 64 - (intOf i).toNat)
    case atStart => exact ⟨0, _, by omega, rfl, rfl, HS.out.newAt #[] _ (by simp) (by simp)⟩
    case round =>
      obtain ⟨s, u, hs, rfl, rfl, hS⟩ := hrel
      have d0 := hS.hd2.c0
      have d1 := hS.hd2.c1
      have ha2 := hS.old ha
      have HS1 := hid hS
      have hl := numTo_len (dn (mem xs)) s
      clear hS
      by_cases hlt : s < 64
      · have q0 : decide ((s : Int) < 64) = true := decide_eq_true (by omega)
        go_wp2_with fail
        refine (sIsComplex_c n _ xs _ ha2).mono ?_
        rw [h1]
        rintro e w2 ⟨rfl, hB⟩
        have HS2 := hid (HS1.out.quiet hB)
        have i0 := HS2.out.hd2.c0
        have i1 := HS2.out.hd2.c1
        have ha3 := HS2.out.old ha
        clear hB
        cases hb : dn (mem xs) (s : Int) with
        | true =>
          have E2 : Hid (numTo (dn (mem xs)) (s + 1) = numTo (dn (mem xs)) s ++ [(s : Int)]) := by show _ = _; rw [numTo, if_pos hb]
          go_wp2_with fail
          refine (l3Has_c n _ xs _ _ ha3 HR.out (by omega) (by omega)).mono ?_
          rw [hb]
          rintro e w3 ⟨rfl, hB⟩
          have HS3 := hid (HS2.out.quiet hB)
          clear hB hb
          go_wp2_with (at_builtin; refine wpList_push rfl _ _ rfl tI HS3.out.own (.int .i64 (s : Int)) rfl (by simp; omega) rfl rfl ?_)
          intro v2 w4 hO2 hb2
          go_wp2_with fail
          go_roundw
          case rel => exact ⟨s + 1, v2, by omega, by go_num, rfl, by rw [E2.out, ints_append]; exact HS3.out.mut hO2 hb2⟩
          case measure => simp [intOf]; omega
        | false =>
          have E2 : Hid (numTo (dn (mem xs)) (s + 1) = numTo (dn (mem xs)) s) := by show _ = _; rw [numTo, if_neg (by rw [hb]; simp)]
          go_wp2_with fail
          refine (l3Has_c n _ xs _ _ ha3 HR.out (by omega) (by omega)).mono ?_
          rw [hb]
          rintro e w3 ⟨rfl, hB⟩
          have HS3 := hid (HS2.out.quiet hB)
          clear hB hb
          go_wp2_with fail
          go_roundw
          case rel => exact ⟨s + 1, _, by omega, by go_num, rfl, by rw [E2.out]; exact HS3.out⟩
          case measure => simp [intOf]; omega
      · have es : s = 64 := by omega
        subst es
        go_wp2_with fail
        refine (l2Order_c _ _ _ HS1.out.hd numTo_rng).mono ?_
        rintro e w3 ⟨v, rfl, hS3⟩
        have HS3 := hid (HS1.out.call1 hS3)
        clear hS3
        go_wp2_with fail
        go_ret
        exact ⟨_, rfl, by rw [E.out]; exact HS3.out.sub (.cons_cons _ (List.nil_sublist _))⟩

theorem facesB_rng (n : Int) (xs : List Int) : ∀ x ∈ facesB n xs, 0 ≤ x ∧ x < 64 := by
  unfold facesB
  split
  · intro x h; have := mem_setsL.1 h; omega
  · simp
theorem fvB_tally (n : Int) (xs : List Int) : fvB n xs = tallyTo (facesB n xs) (facesB n xs).length := by
  unfold fvB facesB
  split
  · exact (tally_law _).symm
  · rfl

def lenV : Value → Nat
  | .slice _ n _ => n
  | _ => 0
theorem Rd.lenV {w : World} {v : Value} {L : List Value} (h : Rd w v L) : lenV v = L.length := by
  rcases h with ⟨rfl, rfl⟩ | ⟨a, cap, rfl, _⟩ <;> rfl
theorem facesB_len (n : Int) (xs : List Int) : (facesB n xs).length ≤ 448 := by
  unfold facesB
  split
  · exact setsL_len _
  · simp
theorem tally_small {F L T : List Int} {K j : Nat} (hL : padTo L (K + 1) = padTo T (K + 1)) (hT : tallyTo F j = T) (hF : j ≤ F.length ∧ F.length ≤ 448) : -1000000 ≤ gi L K ∧ gi L K ≤ 1000000 := by
  have h1 : gi L K = gi T K := by rw [← padTo_gi L (K + 1), hL, padTo_gi]
  rw [h1, ← hT, tally_gi hF.1]
  have h2 : ((F.take j).filter fun x => szN x == K).length ≤ (F.take j).length := List.length_filter_le _ _
  simp only [List.length_take] at h2
  omega

set_option maxHeartbeats 4000000 in
set_option maxRecDepth 100000 in
theorem sFaceCounts_c (n : Int) (va : Value) (xs : List Int) (w : World) (ha : Rd w va (ints xs)) : Calls Try.prog 15 #[cx n va] w fun e w' => ∃ v, e = .returned v ∧ St w w' [⟨v, 3, ints (fvB n xs)⟩] := by
  obtain ⟨p1, l1, k1, rfl⟩ := ha.form
  have hS := ((St.start w).box n (.slice p1 l1 k1) 30).newAt #[] 3 (by simp) (H := w.heap.size + 1) (by simp)
  have ha' := hS.old ha
  have HS := hid hS
  clear hS
  have E := hid (fvB_tally n xs)
  have HR := hid (facesB_rng n xs)
  have hFl := facesB_len n xs
  unfold cx
  go_enter Try.func15, Try.ntmps15
  go_wp2_with fail
  refine (sFacesOf_c n _ xs _ ha').mono ?_
  generalize hF : facesB n xs = F at *
  have HF := hid hF
  clear hF
  rintro e w1 ⟨uf, rfl, hS1⟩
  have HS1 := hid (HS.out.call1 hS1)
  clear hS1
  have lf := HS1.out.hd.iln tI
  go_wp2_with fail
  go_loopw [3, 5] (fun o i wr => ∃ (j : Nat) (u : Value), j ≤ F.length ∧ i = .int .i64 j ∧ o = u ∧ St w wr [⟨u, 3, ints (tallyTo F j)⟩, ⟨uf, 3, ints F⟩]) (fun _ i _ => F.length - (intOf i).toNat)
  case atStart => exact ⟨0, _, by omega, rfl, rfl, HS1.out.swap.sub (.cons_cons _ (.cons_cons _ (List.nil_sublist _)))⟩
  case round =>
    obtain ⟨j, u, hj, rfl, rfl, hS⟩ := hrel
    have HS2 := hid hS
    clear hS
    by_cases hlt : j < F.length
    · have q0 : decide ((j : Int) < (F.length : Int)) = true := decide_eq_true (by omega)
      obtain ⟨K, hK⟩ : ∃ K : Nat, pc (gi F j) = (K : Int) := ⟨szN (gi F j), szN_eq _⟩
      have hK6 : K ≤ 6 := by have := pc_rng (gi F j); omega
      have EK : Hid (tallyTo F (j + 1) = bump (tallyTo F j) K) := by
        show _ = _
        have := szN_eq (gi F j)
        rw [tallyTo, show szN (gi F j) = K by omega]
      obtain ⟨r0, r1⟩ := gi_rng HR.out hlt
      have HC : Hid (∀ w : World, Calls Try.prog 106 #[.int .i64 (gi F j)] w fun e w' => e = .returned (.int .i64 (K : Int)) ∧ w = w') := fun w => by
        have := l2Size_c (gi F j) w r0 r1
        rwa [hK] at this
      clear hK
      have HTL : Hid ((tallyTo F j).length ≤ 7) := tally_len_le fun i hi => by have := szN_le (gi F i); omega
      generalize hT : tallyTo F j = T at *
      have HT := hid hT
      clear hT
      have f1 := HS2.out.hd2.iix tI j hlt
      have f2 := HS2.out.hd2.intCell j hlt
      go_wp2_with fail
      clear f2
      go_loopw [3] (fun o wr => ∃ (L : List Int) (u : Value), L.length ≤ 7 ∧ Hid (padTo L (K + 1) = padTo T (K + 1)) ∧ o = u ∧ St w wr [⟨u, 3, ints L⟩, ⟨uf, 3, ints F⟩]) (fun o _ => 8 - lenV o)
      case atStart => exact ⟨T, _, HTL.out, rfl, rfl, HS2.out⟩
      case round =>
        obtain ⟨L, u2, hL7, hL, ho, hS⟩ := hrel
        have ho' := ho.symm
        subst ho'
        obtain ⟨wi, rfl⟩ : ∃ wi : World, wi = wr := ⟨_, rfl⟩
        have lu := hS.hd.iln tI
        have f1 := hS.hd2.iix tI j hlt
        have f2 := hS.hd2.intCell j hlt
        have HS3 := hid hS
        have HV : Hid (lenV u2 = L.length) := by show _ = _; have := hS.hd.lenV; simpa using this
        by_cases hk : L.length ≤ K
        · have q1 : decide ((L.length : Int) ≤ (K : Int)) = true := decide_eq_true (by omega)
          have N2 : Hid (padTo (L ++ [0]) (K + 1) = padTo T (K + 1)) := (padTo_next (by omega)).trans hL.out
          clear hS
          go_wp2_with (first | (go_at_call 106; refine (HC.out _).mono ?_; rintro e w' ⟨rfl, rfl⟩) | (at_builtin; refine wpList_push rfl _ _ rfl tI HS3.out.own (.int .i64 0) rfl (by simp; omega) rfl rfl ?_))
          intro v2 w2 hO2 hb2
          have hS4 := HS3.out.mut hO2 hb2
          rw [ints_snoc] at hS4
          have HV2 : Hid (lenV v2 = L.length + 1) := by show _ = _; have := hS4.hd.lenV; simpa using this
          have HS4 := hid hS4
          clear hS4 hO2 hb2
          go_wp2_with fail
          go_roundw
          case rel => exact ⟨L ++ [0], v2, by simp; omega, N2, rfl, HS4.out⟩
          case measure => have h1 := HV.out; have h2 := HV2.out; show 8 - lenV v2 < 8 - lenV _; omega
        · have q1 : decide ((L.length : Int) ≤ (K : Int)) = false := decide_eq_false (by omega)
          have hKL : K < L.length := by omega
          have EB : Hid (bump T K = L.set K (gi L K + 1)) := by
            show _ = _
            rw [bump, ← hL.out, padTo_done (by omega)]
          have g1 := hS.hd.iix tI K hKL
          have g2 := hS.hd.intCell K hKL
          have g3 : wi.frozen? (adr u2 K) = false := hS.own.free (.head _) K (by simpa using hKL)
          have hcK : -1000000 ≤ gi L K ∧ gi L K ≤ 1000000 := tally_small hL.out HT.out ⟨hj, hFl⟩
          obtain ⟨c1, c2⟩ := hcK
          clear hS
          go_wp2_with (go_at_call 106; refine (HC.out _).mono ?_; rintro e w' ⟨rfl, rfl⟩)
          go_region_with (go_at_call 106; refine (HC.out _).mono ?_; rintro e w' ⟨rfl, rfl⟩)
          all_goals
            go_wp2_with fail
            go_roundw
            case rel =>
              have hS5 := (HS3.out.drewN 1).set K (by simpa using hKL) (.int .i64 (gi L K + 1))
              rw [ints_set] at hS5
              exact ⟨j + 1, u2, by omega, by go_num, rfl, by rw [EK.out, EB.out]; exact hS5⟩
            case measure => simp [intOf]; omega
    · have ej : Hid (j = F.length) := by show _ = _; omega
      go_wp2_with fail
      go_ret
      exact ⟨_, rfl, by rw [E.out, ← ej.out]; exact HS2.out.sub (.cons_cons _ (List.nil_sublist _))⟩

end Go.Proofs.Ytjaofbdfhcgmeaa
