/-
  Holes of a suspension, faces of a join: plain law.
-/
import Derived.Test.YtjaofbdfhcgmeaaSus
import Derived.Test.YtjaofbdfhcgmeaaJoin3
import Derived.Test.YtjaofbdfhcgmeaaHoles2
namespace Go.Proofs.Ytjaofbdfhcgmeaa
open Go.RowKit

/-! ### Numbers of faces -/

theorem cntQ_split (f : Nat → Bool) (a : Nat) : ∀ b, cntQ f (a + b) = cntQ f a + cntQ (fun k => f (a + k)) b
  | 0 => rfl
  | b + 1 => by rw [← Nat.add_assoc, cntQ, cntQ_split f a b, cntQ]; omega
theorem cntQ_none {f : Nat → Bool} : ∀ n, (∀ a, a < n → f a = false) → cntQ f n = 0
  | 0, _ => rfl
  | n + 1, h => by rw [cntQ, cntQ_none n (fun a ha => h a (by omega)), h n (by omega)]; rfl
theorem cntQ_same {f g : Nat → Bool} : ∀ n, (∀ a, a < n → f a = g a) → cntQ f n = cntQ g n
  | 0, _ => rfl
  | n + 1, h => by rw [cntQ, cntQ, cntQ_same n (fun a ha => h a (by omega)), h n (by omega)]
theorem cntQ_low {f : Nat → Bool} {a n : Nat} (ha : a ≤ n) (h : ∀ s, a ≤ s → s < n → f s = false) : cntQ f n = cntQ f a := by
  obtain ⟨b, rfl⟩ : ∃ b, n = a + b := ⟨n - a, by omega⟩
  rw [cntQ_split, cntQ_none b fun k hk => h _ (by omega) (by omega), Nat.add_zero]
theorem bool_iff {a b : Bool} (h : a = true ↔ b = true) : a = b := by cases a <;> cases b <;> simp_all
theorem sus_fc {n : Nat} {P Q : Int → Bool} (h : SusP n P Q) (k : Nat) : fcN Q (k + 1) = fcN P (k + 1) + 2 * fcN P k := by
  have hp : 2 ^ (n + 1) = 2 ^ n + 2 ^ n := by rw [Nat.pow_succ]; omega
  have h16 := pow16 h.n4
  have h2p := Nat.two_pow_pos n
  have low : ∀ j, fcN P j = cntQ (szF P j) (2 ^ n) := fun j => cntQ_low (by omega) fun s hs h64 => by
    cases e : szF P j s with
    | false => rfl
    | true => exact absurd (h.lt s h64 (szF_iff.1 e).1) (by omega)
  have e0 : fcN Q (k + 1) = cntQ (szF Q (k + 1)) (2 ^ n + (2 ^ n + 2 ^ n)) := cntQ_low (by omega) fun s hs h64 => by
    cases e : szF Q (k + 1) s with
    | false => rfl
    | true =>
      obtain ⟨t, t1, _, t3⟩ := (h.iff s h64).1 (szF_iff.1 e).1
      omega
  rw [e0, cntQ_split, cntQ_split, low, low]
  have a1 : cntQ (szF Q (k + 1)) (2 ^ n) = cntQ (szF P (k + 1)) (2 ^ n) := cntQ_same _ fun s hs => bool_iff (by
    rw [szF_iff, szF_iff, h.iff s (by omega)]
    exact ⟨fun ⟨⟨t, t1, t2, t3⟩, h2⟩ => by
      have : s = t := by omega
      rw [this]; exact ⟨t2, by rw [← this]; exact h2⟩, fun ⟨h1, h2⟩ => ⟨⟨s, hs, h1, .inl rfl⟩, h2⟩⟩)
  have a2 : cntQ (fun j => szF Q (k + 1) (2 ^ n + j)) (2 ^ n) = cntQ (szF P k) (2 ^ n) := cntQ_same _ fun s hs => bool_iff (by
    rw [szF_iff, szF_iff, h.iff _ (by omega), show 2 ^ n + s = s + 2 ^ n by omega, (h.f1 hs).2.2.1]
    exact ⟨fun ⟨⟨t, t1, t2, t3⟩, h2⟩ => by
      have : s = t := by omega
      rw [this]; exact ⟨t2, by rw [← this]; push_cast at h2; omega⟩, fun ⟨h1, h2⟩ => ⟨⟨s, hs, h1, .inr (.inl rfl)⟩, by rw [h2]; rfl⟩⟩)
  have a3 : cntQ (fun j => szF Q (k + 1) (2 ^ n + (2 ^ n + j))) (2 ^ n) = cntQ (szF P k) (2 ^ n) := cntQ_same _ fun s hs => bool_iff (by
    rw [szF_iff, szF_iff, h.iff _ (by omega), show 2 ^ n + (2 ^ n + s) = s + 2 ^ (n + 1) by omega, (h.f1 hs).2.2.2.1]
    exact ⟨fun ⟨⟨t, t1, t2, t3⟩, h2⟩ => by
      have : s = t := by omega
      rw [this]; exact ⟨t2, by rw [← this]; push_cast at h2; omega⟩, fun ⟨h1, h2⟩ => ⟨⟨s, hs, h1, .inr (.inr rfl)⟩, by rw [h2]; rfl⟩⟩)
  rw [a1, a2, a3]; omega
theorem sus_hole {n : Nat} {P Q : Int → Bool} {p : Int} (hp : PrimeP p) (h : SusP n P Q) (k : Nat) : holeAt Q p (k + 1) = holeAt P p k := by
  rw [holeAt_eq, holeAt_eq, sus_fc h, sus_rk hp h, sus_rk hp h]
  push_cast; omega
theorem pc_zero_sus : ∀ s : Fin 64, pc (s.val : Int) = 0 → s.val = 0 := by decide +kernel
theorem sus_hole0 {n : Nat} {P Q : Int → Bool} {p : Int} (hp : PrimeP p) (h : SusP n P Q) (h0 : P 0 = true) : holeAt Q p 0 = 0 := by
  have r0 : rkN Q p 0 = 0 := by unfold rkN; rw [hRk_zero]; rfl
  have r1 := sus_rk hp h 0
  have r2 : rkN P p 0 = 0 := by unfold rkN; rw [hRk_zero]; rfl
  have hq : Q ((0 : Nat) : Int) = true := (h.iff 0 (by omega)).2 ⟨0, Nat.two_pow_pos n, h0, .inl rfl⟩
  have f : ∀ R : Int → Bool, R ((0 : Nat) : Int) = true → fcN R 0 = 1 := fun R hR => by
    have e : cntQ (szF R 0) 64 = cntQ (fun s => s == 0) 64 := cntQ_same 64 fun s hs => bool_iff (by
      rw [szF_iff]
      constructor
      · rintro ⟨_, h2⟩
        have : s = 0 := pc_zero_sus ⟨s, hs⟩ h2
        rw [this]; rfl
      · intro h2
        have : s = 0 := by simpa using h2
        subst this
        exact ⟨hR, by decide⟩)
    unfold fcN
    rw [e]; decide
  rw [holeAt_eq, r0, r1, r2, f Q hq, f P h0]; rfl
theorem sus_size {n : Nat} {P Q : Int → Bool} (h : SusP n P Q) (h0 : P 0 = true) : sizesN Q = sizesN P + 1 := by
  have hP := sizesN_eq P
  have hQ := sizesN_eq Q
  have g0 := topN_ge (P := P) (s := 64) (t := 0) (by omega) h0
  have h2p := Nat.two_pow_pos n
  have le : topN Q 64 ≤ topN P 64 + 1 := topN_le (by omega) fun s hs hq => by
    obtain ⟨t, t1, t2, t3⟩ := (h.iff s hs).1 hq
    have h16 := pow16 h.n4
    have hx := h.f1 t1
    have g := topN_ge (P := P) (s := 64) (t := t) (by omega) t2
    rcases t3 with rfl | rfl | rfl
    · omega
    · rw [hx.2.2.1]; omega
    · rw [hx.2.2.2.1]; omega
  have ge : topN P 64 ≤ topN Q 64 - 1 := by
    have q0 : Q ((0 : Nat) : Int) = true := (h.iff 0 (by omega)).2 ⟨0, h2p, h0, .inl rfl⟩
    have gq := topN_ge (P := Q) (s := 64) (t := 0) (by omega) q0
    have : pc ((0 : Nat) : Int) = 0 := by decide
    refine topN_le (by omega) fun t ht hp => ?_
    have hl := h.lt t ht hp
    have hx := h.f1 hl
    have g := topN_ge (P := Q) (s := 64) (t := t + 2 ^ n) hx.1 ((h.iff _ hx.1).2 ⟨t, hl, hp, .inr (.inl rfl)⟩)
    rw [hx.2.2.1] at g
    omega
  omega

end Go.Proofs.Ytjaofbdfhcgmeaa
