/-
  Joins, cones, suspensions: faces and holes; plain law.
  Faces of a join, the top of a cone, cross complexes; plain law.
  Cross complexes are spheres: plain law.
  The number of faces of a join; plain law.
-/
import Derived.Test.YtjaofbdfhcgmeaaSus2
import Derived.Test.YtjaofbdfhcgmeaaMax
import Derived.Test.YtjaofbdfhcgmeaaCone
namespace Go.Proofs.Ytjaofbdfhcgmeaa
open Go.RowKit

theorem split_fin : ∀ n : Fin 7, ∀ s z : Fin 64, sub (s.val : Int) (z.val : Int) = (sub ((s.val % 2 ^ n.val : Nat) : Int) ((z.val % 2 ^ n.val : Nat) : Int) && sub ((s.val / 2 ^ n.val : Nat) : Int) ((z.val / 2 ^ n.val : Nat) : Int)) := by decide +kernel
theorem join_parts {n m x y : Int} (x0 : 0 ≤ x) (x1 : x < pw n) (y0 : 0 ≤ y) : ((joinS n x y).toNat % 2 ^ n.toNat : Nat) = x.toNat ∧ ((joinS n x y).toNat / 2 ^ n.toNat : Nat) = y.toNat ∧ m = m := by
  have hp : pw n = ((2 ^ n.toNat : Nat) : Int) := by simp [pw]
  obtain ⟨X, rfl⟩ := Int.eq_ofNat_of_zero_le x0
  obtain ⟨Y, rfl⟩ := Int.eq_ofNat_of_zero_le y0
  have e : (joinS n (X : Int) (Y : Int)).toNat = X + 2 ^ n.toNat * Y := by
    unfold joinS
    rw [hp, Int.mul_comm, ← Int.natCast_mul, ← Int.natCast_add, Int.toNat_natCast]
  have hX : X < 2 ^ n.toNat := by rw [hp] at x1; exact Int.ofNat_lt.1 x1
  rw [e, Int.toNat_natCast, Int.toNat_natCast, Nat.add_mul_mod_self_left, Nat.mod_eq_of_lt hX, Nat.add_mul_div_left _ _ (Nat.two_pow_pos _), Nat.div_eq_of_lt hX]
  exact ⟨rfl, by omega, rfl⟩
theorem join_dn {n m : Int} {xs ys : List Int} (hx : IsC n xs) (hy : IsC m ys) (h6 : n + m ≤ 6) {s : Nat} (hs : s < 64) :
    dn (mem (joinL n xs ys)) (s : Int) = (dn (mem xs) ((s % 2 ^ n.toNat : Nat) : Int) && dn (mem ys) ((s / 2 ^ n.toNat : Nat) : Int)) := by
  have n0 : 0 ≤ n := by have := hx.1; omega
  have m0 : 0 ≤ m := by have := hy.1; omega
  have hr := pairs_rng n0 m0 h6 hx.2.2.1 hy.2.2.1
  rw [joinL, dn_congr (fun t t0 t1 => mem_maxL (P := mem (pairs n xs ys)) t0 t1) s, dn_maxP, dn_mem hr, dn_mem hx.rng, dn_mem hy.rng]
  have key : ∀ x ∈ xs, ∀ y ∈ ys, sub (s : Int) (joinS n x y) = (sub ((s % 2 ^ n.toNat : Nat) : Int) x && sub ((s / 2 ^ n.toNat : Nat) : Int) y) := fun x hxx y hyy => by
    have h3 := hx.2.2.1 x hxx
    have h4 := hy.2.2.1 y hyy
    have h5 := (join_or n0 m0 h6 h3.1 h3.2 h4.1 h4.2).2
    obtain ⟨p1, p2, _⟩ := join_parts (n := n) (m := m) (x := x) (y := y) h3.1 h3.2 h4.1
    have f := split_fin ⟨n.toNat, by have := hx.2.1; omega⟩ ⟨s, hs⟩ ⟨(joinS n x y).toNat, by omega⟩
    simp only [Int.toNat_of_nonneg h5.1, p1, p2, Int.toNat_of_nonneg h3.1, Int.toNat_of_nonneg h4.1] at f
    exact f
  rw [Bool.eq_iff_iff, Bool.and_eq_true, List.any_eq_true, List.any_eq_true, List.any_eq_true]
  constructor
  · rintro ⟨z, hz, hsz⟩
    obtain ⟨x, hxx, h2⟩ := List.mem_flatMap.1 hz
    obtain ⟨y, hyy, rfl⟩ := List.mem_map.1 h2
    rw [key x hxx y hyy, Bool.and_eq_true] at hsz
    exact ⟨⟨x, hxx, hsz.1⟩, y, hyy, hsz.2⟩
  · rintro ⟨⟨x, hxx, h1⟩, y, hyy, h2⟩
    refine ⟨joinS n x y, List.mem_flatMap.2 ⟨x, hxx, List.mem_map.2 ⟨y, hyy, rfl⟩⟩, ?_⟩
    rw [key x hxx y hyy, h1, h2]; rfl
theorem join_isC {n m : Int} {xs ys : List Int} (hx : IsC n xs) (hy : IsC m ys) (h6 : n + m ≤ 6) : IsC (n + m) (joinL n xs ys) := by
  have n1 := hx.1
  have m1 := hy.1
  refine isC_maxL (by omega) h6 fun z z0 z1 h => ?_
  obtain ⟨x, hxx, h2⟩ := List.mem_flatMap.1 (mem_iff.1 h)
  obtain ⟨y, hyy, rfl⟩ := List.mem_map.1 h2
  have h3 := hx.2.2.1 x hxx
  have h4 := hy.2.2.1 y hyy
  have e : pw (n + m) = pw n * pw m := by
    unfold pw
    rw [← Int.pow_add]; congr 1; omega
  unfold joinS
  rw [e]
  have hp : 0 < pw n := by have := pw_rng (show 0 ≤ n by omega) hx.2.1; omega
  have h5 : (y + 1) * pw n ≤ pw m * pw n := Int.mul_le_mul_of_nonneg_right (by omega) (by omega)
  rw [Int.add_mul, Int.one_mul, Int.mul_comm (pw m)] at h5
  omega
theorem two_fin3 : ∀ s : Fin 64, (dn (mem s2C) (s.val : Int) = true) ↔ s.val = 0 ∨ s.val = 1 ∨ s.val = 2 := by decide +kernel
theorem s2_IsC : IsC 2 s2C := isC_iff.1 s2_isC
theorem sus_P {n : Int} {xs : List Int} (hc : IsC n xs) (h6 : n + 2 ≤ 6) : SusP n.toNat (dn (mem xs)) (dn (mem (susL n xs))) := by
  have n1 := hc.1
  have hp : pw n = ((2 ^ n.toNat : Nat) : Int) := by simp [pw]
  have h16 : 2 ^ n.toNat ≤ 16 := pow16 (by omega)
  have h2p := Nat.two_pow_pos n.toNat
  have hpp : 2 ^ (n.toNat + 1) = 2 * 2 ^ n.toNat := by rw [Nat.pow_succ]; omega
  refine ⟨by omega, dn_Dn _, dn_Dn _, fun s hs h => ?_, fun s hs => ?_⟩
  · have := dn_lt hc (by omega) (by omega) h
    rw [hp] at this; exact Int.ofNat_lt.1 this
  · rw [susL, join_dn hc s2_IsC h6 hs, Bool.and_eq_true]
    have hd : s / 2 ^ n.toNat < 64 := Nat.lt_of_le_of_lt (Nat.div_le_self _ _) hs
    have h3 := two_fin3 ⟨s / 2 ^ n.toNat, hd⟩
    simp only at h3
    rw [h3]
    have hmod := Nat.mod_lt s h2p
    have hdiv := Nat.div_add_mod s (2 ^ n.toNat)
    constructor
    · rintro ⟨h1, h2⟩
      refine ⟨s % 2 ^ n.toNat, hmod, h1, ?_⟩
      rcases h2 with e | e | e <;> rw [e] at hdiv
      · left; omega
      · right; left; omega
      · right; right; omega
    · rintro ⟨t, t1, t2, t3⟩
      rcases t3 with rfl | rfl | rfl
      · rw [Nat.mod_eq_of_lt t1, Nat.div_eq_of_lt t1]; exact ⟨t2, .inl rfl⟩
      · rw [Nat.add_mod_right, Nat.mod_eq_of_lt t1, Nat.add_div_right _ h2p, Nat.div_eq_of_lt t1]; exact ⟨t2, .inr (.inl rfl)⟩
      · rw [hpp, Nat.mul_comm 2, Nat.add_mul_mod_self_left, Nat.mod_eq_of_lt t1, Nat.add_mul_div_left _ _ h2p, Nat.div_eq_of_lt t1]; exact ⟨t2, .inr (.inr rfl)⟩
theorem face0 {n : Int} {xs : List Int} (hc : IsC n xs) (hl : 0 < xs.length) : dn (mem xs) 0 = true := by
  rw [dn_mem hc.rng, List.any_eq_true]
  exact ⟨_, gi_mem hl, by simp [sub]⟩
/-- Holes of a suspension: the complex' own, one place higher. -/
theorem sus_holes {n : Int} {xs : List Int} {p : Int} (hc : IsC n xs) (h6 : n + 2 ≤ 6) (hl : 0 < xs.length) (hp : primeB p = true) : holesB (n + 2) (susL n xs) p = 0 :: holesB n xs p := by
  have hS := sus_P hc h6
  have hP := primeB_iff.1 hp
  have h0 := face0 hc hl
  have hc2 : isC (n + 2) (susL n xs) = true := isC_iff.2 (join_isC hc s2_IsC h6)
  have hsz := sus_size hS h0
  rw [holesB, if_pos ⟨hc2, hp⟩, holesB, if_pos ⟨isC_iff.2 hc, hp⟩, hsz]
  refine giExt (by simp [holeTo_len]) fun j hj => ?_
  rw [holeTo_len] at hj
  rw [holeTo_gi hj]
  cases j with
  | zero => exact sus_hole0 hP hS h0
  | succ j =>
    rw [sus_hole hP hS j]
    have : gi (0 :: holeTo (dn (mem xs)) p (sizesN (dn (mem xs)))) (j + 1) = gi (holeTo (dn (mem xs)) p (sizesN (dn (mem xs)))) j := by simp [gi]
    rw [this, holeTo_gi (by omega)]

end Go.Proofs.Ytjaofbdfhcgmeaa

namespace Go.Proofs.Ytjaofbdfhcgmeaa
open Go.RowKit

/-! ### Cones -/

theorem cone_bt {n : Int} {xs : List Int} (hc : IsC n xs) (h6 : n + 1 ≤ 6) (hl : 0 < xs.length) : bt (conB (n + 1) (coneL n xs)) n.toNat = true := by
  have s1 : IsC 1 s1C := isC_iff.1 s1_isC
  have hj := join_isC hc s1 h6
  have hp : pw n = ((2 ^ n.toNat : Nat) : Int) := by simp [pw]
  have ha : ∀ z ∈ coneL n xs, bt z n.toNat = true := fun z hz => by
    have h1 := mem_setsL.1 hz
    have h2 := (maxP_iff.1 h1.2.2).1
    obtain ⟨x, hxx, h3⟩ := List.mem_flatMap.1 (mem_iff.1 h2)
    obtain ⟨y, hyy, rfl⟩ := List.mem_map.1 h3
    have hy : y = 1 := by simpa [s1C] using hyy
    subst hy
    have h4 := hc.2.2.1 x hxx
    obtain ⟨_, p2, _⟩ := join_parts (n := n) (m := 1) (x := x) (y := 1) h4.1 h4.2 (by omega)
    unfold bt
    rw [Nat.testBit_eq_decide_div_mod_eq, p2]; rfl
  have hne : 0 < (coneL n xs).length := by
    refine Nat.pos_of_ne_zero fun h0 => ?_
    have e : coneL n xs = [] := List.eq_nil_of_length_eq_zero h0
    have h1 := join_dn hc s1 h6 (s := 0) (by omega)
    have e2 : joinL n xs s1C = [] := e
    rw [e2, dn_none, Nat.zero_mod, Nat.zero_div] at h1
    have h2 := face0 hc hl
    have h3 : dn (mem s1C) ((0 : Nat) : Int) = true := by decide +kernel
    rw [show ((0 : Nat) : Int) = 0 from rfl] at h1 h3
    rw [h2, h3] at h1; cases h1
  have e : conB (n + 1) (coneL n xs) = andTo (coneL n xs) ((coneL n xs).length - 1) := if_pos ⟨isC_iff.2 hj, hne⟩
  rw [e, bt_andTo]
  exact fun i hi => ha _ (gi_mem (by omega))
theorem cone_law {n : Int} {xs : List Int} (hc : IsC n xs) (h6 : n + 1 ≤ 6) (hl : 0 < xs.length) : conB (n + 1) (coneL n xs) ≠ 0 ∧ noHB (n + 1) (coneL n xs) 2 = true := by
  have h := cone_bt hc h6 hl
  have h0 : conB (n + 1) (coneL n xs) ≠ 0 := by
    have := pos_bt (conB_rng _ _).1 h
    omega
  exact ⟨h0, cone_noH h0 (by decide)⟩

/-! ### Faces of a join -/

theorem cntQ_mul (P R : Nat → Bool) (X : Nat) (hX : 0 < X) : ∀ Y, cntQ (fun s => P (s % X) && R (s / X)) (X * Y) = cntQ P X * cntQ R Y
  | 0 => rfl
  | Y + 1 => by
    rw [Nat.mul_add, Nat.mul_one, cntQ_split, cntQ_mul P R X hX Y, cntQ, Nat.mul_add]
    congr 1
    cases e : R Y with
    | true =>
      rw [show (true : Bool).toNat = 1 from rfl, Nat.mul_one]
      exact cntQ_same X fun s hs => by
        rw [Nat.mul_add_mod, Nat.mod_eq_of_lt hs, Nat.mul_add_div hX, Nat.div_eq_of_lt hs, Nat.add_zero, e, Bool.and_true]
    | false =>
      rw [show (false : Bool).toNat = 0 from rfl, Nat.mul_zero]
      exact cntQ_none X fun s hs => by
        rw [Nat.mul_add_div hX, Nat.div_eq_of_lt hs, Nat.add_zero, e, Bool.and_false]
theorem cntQ_add2 {f g h : Nat → Bool} : ∀ n, (∀ a, a < n → (f a).toNat + (g a).toNat = (h a).toNat) → cntQ f n + cntQ g n = cntQ h n
  | 0, _ => rfl
  | n + 1, e => by
    have h1 := cntQ_add2 n fun a ha => e a (by omega)
    have h2 := e n (by omega)
    rw [cntQ, cntQ, cntQ]; omega
theorem sets_len (P : Int → Bool) : (setsL P).length = cntQ (fun s => P (s : Int)) 64 := by
  have h : ∀ j, (allTo P j).length = cntQ (fun s => P (s : Int) && decide (pc (s : Int) < j)) 64 := by
    intro j
    induction j with
    | zero => exact (cntQ_none 64 fun s _ => by have := pc_rng (s : Int); simp; omega).symm
    | succ j ih =>
      rw [allTo, List.length_append, ih, cnt_row]
      exact cntQ_add2 64 fun s _ => by
        have h1 : szF P j s = (P (s : Int) && decide (pc (s : Int) = j)) := rfl
        rw [h1]
        cases P (s : Int) with
        | false => rfl
        | true =>
          by_cases e1 : pc (s : Int) < j
          · simp [e1, show ¬ pc (s : Int) = j by omega, show pc (s : Int) < (j : Int) + 1 by omega]
          · by_cases e2 : pc (s : Int) = j
            · simp [e2, show (j : Int) < (j : Int) + 1 by omega]
            · simp [e1, e2, show ¬ pc (s : Int) < (j : Int) + 1 by omega]
  rw [setsL, h 7]
  exact cntQ_same 64 fun s _ => by have := pc_rng (s : Int); simp; omega

end Go.Proofs.Ytjaofbdfhcgmeaa

namespace Go.Proofs.Ytjaofbdfhcgmeaa
open Go.RowKit

/-- No pair of opposite points. -/
def crossP (k : Nat) (s : Int) : Bool := (List.range k).all fun i => s.toNat / 4 ^ i % 4 != 3
def crossL (k : Nat) : List Int := maxL (upToP (pw (2 * (k : Int))) (crossP k))
theorem cross1 : crossL 1 = s2C := by decide +kernel
theorem cross2 : crossL 2 = susL 2 (crossL 1) ∧ isC 4 (crossL 2) = true ∧ (crossL 2).length = 4 := by decide +kernel
theorem cross3 : crossL 3 = susL 4 (crossL 2) ∧ (crossL 3).length = 8 := by decide +kernel
theorem s2_facts : sizesN (dn (mem s2C)) = 2 ∧ fcN (dn (mem s2C)) 0 = 1 ∧ fcN (dn (mem s2C)) 1 = 2 ∧ vP (dn (mem s2C)) 0 = true := by decide +kernel
theorem holes1 {p : Int} (hp : primeB p = true) : holesB 2 (crossL 1) p = [0, 1] := by
  obtain ⟨h1, h2, h3, h4⟩ := s2_facts
  have hP := primeB_iff.1 hp
  have r1 := rk_one hP (dn_Dn (mem s2C)) (a := 0) (by omega) h4
  have r0 : rkN (dn (mem s2C)) p 0 = 0 := by unfold rkN; rw [hRk_zero]; rfl
  have r2 : rkN (dn (mem s2C)) p 2 = 0 := by unfold rkN; rw [hRk_out p (by rw [h1]; omega)]; rfl
  rw [cross1, holesB, if_pos ⟨s2_isC, hp⟩, h1]
  have e : holeTo (dn (mem s2C)) p 2 = [holeAt (dn (mem s2C)) p 0, holeAt (dn (mem s2C)) p 1] := by simp [holeTo, List.range_succ]
  rw [e, holeAt_eq, holeAt_eq, r0, r1, r2, h2, h3]; rfl
theorem holes2 {p : Int} (hp : primeB p = true) : holesB 4 (crossL 2) p = [0, 0, 1] := by
  have h := sus_holes (n := 2) (xs := crossL 1) (p := p) (by rw [cross1]; exact s2_IsC) (by omega) (by rw [cross1]; decide) hp
  rw [cross2.1]
  rw [show (2 : Int) + 2 = 4 from rfl] at h
  rw [h, holes1 hp]
theorem holes3 {p : Int} (hp : primeB p = true) : holesB 6 (crossL 3) p = [0, 0, 0, 1] := by
  have h := sus_holes (n := 4) (xs := crossL 2) (p := p) (isC_iff.1 cross2.2.1) (by omega) (by rw [cross2.2.2]; omega) hp
  rw [cross3.1]
  rw [show (4 : Int) + 2 = 6 from rfl] at h
  rw [h, holes2 hp]
theorem cross_law {k : Nat} (h1 : 1 ≤ k) (h3 : k ≤ 3) : sphB (2 * (k : Int)) (crossL k) 2 = true ∧ (crossL k).length = 2 ^ k := by
  have hp : primeB 2 = true := by decide
  rcases (show k = 1 ∨ k = 2 ∨ k = 3 by omega) with rfl | rfl | rfl
  · refine ⟨?_, by rw [cross1]; rfl⟩
    rw [sphB, cntH, show (2 * ((1 : Nat) : Int)) = 2 from rfl, holes1 hp]; decide
  · refine ⟨?_, cross2.2.2⟩
    rw [sphB, cntH, show (2 * ((2 : Nat) : Int)) = 4 from rfl, holes2 hp]; decide
  · refine ⟨?_, cross3.2⟩
    rw [sphB, cntH, show (2 * ((3 : Nat) : Int)) = 6 from rfl, holes3 hp]; decide

end Go.Proofs.Ytjaofbdfhcgmeaa

namespace Go.Proofs.Ytjaofbdfhcgmeaa
open Go.RowKit

theorem faces_cnt {n : Int} {xs : List Int} (hc : IsC n xs) : (facesB n xs).length = cntQ (fun s => dn (mem xs) (s : Int)) (2 ^ n.toNat) := by
  have n1 := hc.1
  have hp : pw n = ((2 ^ n.toNat : Nat) : Int) := by simp [pw]
  have h64 := (pw_rng (show 0 ≤ n by omega) hc.2.1).2
  rw [hp] at h64
  have h64' : 2 ^ n.toNat ≤ 64 := Int.ofNat_le.1 h64
  rw [facesB, if_pos (isC_iff.2 hc), sets_len]
  exact cntQ_low h64' fun s hs h => by
    cases e : dn (mem xs) (s : Int) with
    | false => rfl
    | true =>
      have := dn_lt hc (by omega) (by omega) e
      rw [hp] at this
      exact absurd (Int.ofNat_lt.1 this) (by omega)
theorem join_faces {n m : Int} {xs ys : List Int} (hx : IsC n xs) (hy : IsC m ys) (h6 : n + m ≤ 6) : (facesB (n + m) (joinL n xs ys)).length = (facesB n xs).length * (facesB m ys).length := by
  have n1 := hx.1
  have m1 := hy.1
  have e : (n + m).toNat = n.toNat + m.toNat := by omega
  rw [faces_cnt (join_isC hx hy h6), faces_cnt hx, faces_cnt hy, e, Nat.pow_add, ← cntQ_mul _ _ _ (Nat.two_pow_pos _)]
  have h64 : 2 ^ n.toNat * 2 ^ m.toNat ≤ 64 := by
    rw [← Nat.pow_add]
    exact Nat.pow_le_pow_right (n := 2) (by omega) (show n.toNat + m.toNat ≤ 6 by omega)
  exact cntQ_same _ fun s hs => join_dn hx hy h6 (by omega)

end Go.Proofs.Ytjaofbdfhcgmeaa
