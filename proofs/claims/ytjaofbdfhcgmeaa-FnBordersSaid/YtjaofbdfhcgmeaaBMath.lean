/-
  Borders, ranks and inverses: plain law.
-/
import Derived.Test.YtjaofbdfhcgmeaaHom
import Derived.Test.YtjaofbdfhcgmeaaTimes
import Derived.Test.YtjaofbdfhcgmeaaRankMod
namespace Go.Proofs.Ytjaofbdfhcgmeaa
open Go.RowKit

theorem dot_sm (a b : List (List Int)) (i j k : Nat) : dotTo a b i j k = sm (fun l => en a i l * en b l j) k := by
  induction k with
  | zero => rfl
  | succ k ih => rw [dotTo, sm, ih]; rfl
theorem gi_nil (j : Nat) : gi [] j = 0 := gi_out (Nat.zero_le _)
theorem times_border (n : Int) (xs : List Int) (k : Int) (i j : Nat) : gi (gr (timesM (bmB n xs k) (bmB n xs (k + 1))) i) j = 0 := by
  by_cases h : TimesOk (bmB n xs k) (bmB n xs (k + 1))
  · rw [timesM_t h]
    obtain ⟨h1, h2, _, _, h5⟩ := h
    have c1 : isC n xs = true ∧ 1 ≤ k ∧ k ≤ 6 := Classical.byContradiction fun hn => by rw [bmB_f hn] at h1; simp at h1
    have c2 : isC n xs = true ∧ 1 ≤ k + 1 ∧ k + 1 ≤ 6 := Classical.byContradiction fun hn => by rw [bmB_f hn] at h2; simp at h2
    have e1 : bmB n xs k = bordM (rowTo (dn (mem xs)) (k - 1) 64) (rowTo (dn (mem xs)) k 64) := by rw [bmB, if_pos c1, fosB, if_pos c1.1, fosB, if_pos c1.1]
    have e2 : bmB n xs (k + 1) = bordM (rowTo (dn (mem xs)) k 64) (rowTo (dn (mem xs)) (k + 1) 64) := by
      rw [bmB, if_pos c2, fosB, if_pos c1.1, fosB, if_pos c1.1, show k + 1 - 1 = k by omega]
    rw [e1] at h1 h5 ⊢
    rw [e2] at h2 h5 ⊢
    by_cases hi : i < (bordM (rowTo (dn (mem xs)) (k - 1) 64) (rowTo (dn (mem xs)) k 64)).length
    · rw [prodM_gr hi]
      by_cases hj : j < (gr (bordM (rowTo (dn (mem xs)) k 64) (rowTo (dn (mem xs)) (k + 1) 64)) 0).length
      · rw [prodR_gi hj, dot_sm, bordM_len]
        rw [bordM_len] at hi h2
        rw [bordM_gr h2, bRow_len] at hj
        exact bord_bord (dn_Dn _) hi hj
      · rw [gi_out (by rw [prodR_len]; omega)]
    · rw [gr_nil (by rw [prodM_len]; omega)]; exact gi_nil j
  · rw [timesM_f h, gr_nil (by simp)]; exact gi_nil j

theorem colR_gi' {M : List (List Int)} {j i : Nat} (h : i < M.length) : gi (colR M j) i = en M i j := colR_gi h
theorem turn_rank {M : List (List Int)} {p : Int} (h : 0 < rankB M p) : rankB (turnM M) p = rankB M p := by
  have h1 : primeB p = true ∧ fitM M = true := Classical.byContradiction fun hn => by rw [rankB_f hn] at h; omega
  have hp : PrimeP p := primeB_iff.1 h1.1
  have hF := fitM_iff.1 h1.2
  have e : rankB M p = rankR p M := if_pos h1
  rw [e] at h ⊢
  obtain ⟨r, hr, hR⟩ := rankR_rk hp hF.2.1
  obtain ⟨⟨B, C, hB⟩, hmin⟩ := hR
  have hm : 0 < M.length := by
    refine Nat.pos_of_ne_zero fun h0 => ?_
    have := hmin 0 ⟨fun _ _ => 0, fun _ _ => 0, fun i j hi => by omega⟩
    omega
  have hn : 0 < (gr M 0).length := by
    refine Nat.pos_of_ne_zero fun h0 => ?_
    have := hmin 0 ⟨fun _ _ => 0, fun _ _ => 0, fun i j _ hj => by omega⟩
    omega
  have et : turnM M = colsM M := turnM_t ⟨hm, hF.2.1⟩
  rw [et]
  have hl : ∀ k, k < (colsM M).length → (gr (colsM M) k).length = M.length := fun k hk => by
    rw [colsM_len] at hk
    rw [colsM_gr hk, colR_len]
  have l0 := hl 0 (by rw [colsM_len]; exact hn)
  have hS : Same (colsM M) := fun k hk => by rw [hl k hk, l0]
  have hF2 : Fit (colsM M) := by
    refine ⟨by rw [colsM_len]; exact hF.2.2.1 0 hm, hS, fun k hk => by rw [hl k hk]; exact hF.1, fun k hk j hj => ?_⟩
    rw [hl k hk] at hj
    rw [colsM_len] at hk
    rw [colsM_gr hk, colR_gi hj]
    exact fit_gi hF j k
  have e2 : rankB (colsM M) p = rankR p (colsM M) := if_pos ⟨h1.1, fitM_t hF2⟩
  rw [e2]
  obtain ⟨s, hs, hT⟩ := rankR_rk hp hS
  rw [hr, hs]
  rw [l0, colsM_len] at hT
  have hR' : RK p M.length (gr M 0).length r (en M) := ⟨⟨B, C, hB⟩, hmin⟩
  have hU := hR'.turn
  have ee : ∀ i j, i < (gr M 0).length → j < M.length → en (colsM M) i j = en M j i := fun i j hi hj => by
    unfold en; rw [colsM_gr hi, colR_gi hj]
  have a1 := hT.2 r (hU.1.congr fun i j hi hj => dvd_zero_sub (ee i j hi hj))
  have a2 := hU.2 s (hT.1.congr fun i j hi hj => dvd_zero_sub (ee i j hi hj).symm)
  have : s = r := Nat.le_antisymm a1 a2
  rw [this]
theorem prime3 : primeB 3 = true := by decide
theorem times_rank {a b : List (List Int)} (h : timesB a b = true) : rankB (timesM a b) 3 ≤ rankB a 3 ∨ rankB (timesM a b) 3 = -1 := by
  have hT : TimesOk a b := by
    refine Classical.byContradiction fun hn => ?_
    rw [timesB_f hn] at h; cases h
  by_cases hf : fitM (timesM a b) = true
  · left
    obtain ⟨h1, h2, fa, fb, h5⟩ := hT
    have e0 : timesM a b = prodM a b (gr b 0).length := timesM_t ⟨h1, h2, fa, fb, h5⟩
    have e1 : rankB (timesM a b) 3 = rankR 3 (timesM a b) := if_pos ⟨prime3, hf⟩
    have e2 : rankB a 3 = rankR 3 a := if_pos ⟨prime3, fitM_t fa⟩
    have hp : PrimeP 3 := .inr (.inl rfl)
    obtain ⟨r, hr, hR⟩ := rankR_rk hp fa.2.1
    obtain ⟨s, hs, hS⟩ := rankR_rk hp (fitM_iff.1 hf).2.1
    rw [e1, e2, hr, hs]
    rw [e0] at hS
    rw [prodM_len, prodM_gr h1, prodR_len] at hS
    have := hS.2 r ((hR.1.right (l := (gr b 0).length) (en b)).congr fun i j hi hj => dvd_zero_sub (by
      unfold en; rw [prodM_gr hi, prodR_gi hj, dot_sm, h5]; rfl))
    omega
  · right; exact rankB_f fun hn => hf hn.2

theorem invFrom_law (a p : Int) : ∀ (n : Nat) (b : Int), 1 ≤ b → 0 < invFrom a p n b → a % p * invFrom a p n b % p = 1 ∧ invFrom a p n b < b + n := by
  intro n
  induction n with
  | zero => intro b _ h; simp [invFrom] at h
  | succ n ih =>
    intro b hb h
    rw [invFrom] at h ⊢
    by_cases e : invStep a p b = true
    · rw [if_pos e]; exact ⟨of_decide_eq_true e, by omega⟩
    · rw [if_neg e] at h ⊢
      have := ih (b + 1) (by omega) h
      exact ⟨this.1, by omega⟩
theorem inv_law {a p : Int} (h : 0 < invB a p) : (a * invB a p - 1).tmod p = 0 ∧ invB a p < p ∧ PrimeP p := by
  have hp : primeB p = true := Classical.byContradiction fun hn => by rw [invB, if_neg hn] at h; omega
  have hP : PrimeP p := primeB_iff.1 hp
  have h2 := hP.rng
  rw [invB, if_pos hp] at h ⊢
  obtain ⟨h3, h4⟩ := invFrom_law a p (p.toNat - 1) 1 (by omega) h
  obtain ⟨i, hi⟩ : ∃ i, invFrom a p (p.toNat - 1) 1 = i := ⟨_, rfl⟩
  rw [hi] at h3 h4 ⊢
  refine ⟨?_, by omega, hP⟩
  apply Int.tmod_eq_zero_of_dvd
  rw [Int.mul_emod, Int.emod_emod, ← Int.mul_emod] at h3
  have h6 := Int.mul_ediv_add_emod (a * i) p
  exact ⟨a * i / p, by omega⟩

end Go.Proofs.Ytjaofbdfhcgmeaa
