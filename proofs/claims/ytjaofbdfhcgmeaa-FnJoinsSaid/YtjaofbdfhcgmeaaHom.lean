/-
  The border of a border is 0: plain law.
-/
import Derived.Test.YtjaofbdfhcgmeaaElim
import Derived.Test.YtjaofbdfhcgmeaaBord3
namespace Go.Proofs.Ytjaofbdfhcgmeaa
open Go.RowKit

theorem sm_gi (f : Int → Int) (L : List Int) : sm (fun k => f (gi L k)) L.length = (L.map f).sum := by
  have h : ∀ n, n ≤ L.length → sm (fun k => f (gi L k)) n = ((L.take n).map f).sum := by
    intro n
    induction n with
    | zero => intro _; rfl
    | succ n ih =>
      intro hn
      rw [sm, ih (by omega), take_succ_gi (by omega)]
      simp [List.sum_append]
  have := h L.length (Nat.le_refl _)
  rwa [List.take_length] at this
theorem sum_row (P : Int → Bool) (z : Int) (f : Int → Int) (k : Nat) : ((rowTo P z k).map f).sum = sm (fun s : Nat => if P (s : Int) = true ∧ pc (s : Int) = z then f (s : Int) else 0) k := by
  induction k with
  | zero => rfl
  | succ k ih =>
    rw [rowTo, sm, ← ih]
    split
    · simp [List.sum_append]
    · simp
/-- Closed below. -/
def Dn (P : Int → Bool) : Prop := ∀ s t : Int, 0 ≤ s → s < 64 → 0 ≤ t → t < 64 → P t = true → sub s t = true → P s = true
theorem dn_Dn (P : Int → Bool) : Dn (dn P) := fun s t _ _ _ _ ht hs => by
  obtain ⟨u, u0, u1, hu, h⟩ := dn_iff.1 ht
  exact dn_iff.2 ⟨u, u0, u1, hu, sub_trans hs h⟩
def ddS (r t : Int) : Int := sm (fun s : Nat => if pc (s : Int) = pc r + 1 then sgnS r (s : Int) * sgnS (s : Int) t else 0) 64
theorem dd_fin : ∀ r t : Fin 64, pc (t.val : Int) = pc (r.val : Int) + 2 → ddS (r.val : Int) (t.val : Int) = 0 := by decide +kernel
theorem sgnS_sub {r s : Int} (h : sub r s ≠ true) : sgnS r s = 0 := if_neg h
theorem dd {P : Int → Bool} (hP : Dn P) {k r t : Int} (r0 : 0 ≤ r) (r1 : r < 64) (hr : pc r = k - 1) (t0 : 0 ≤ t) (t1 : t < 64) (ht : pc t = k + 1) (hPt : P t = true) :
    ((rowTo P k 64).map fun s => sgnS r s * sgnS s t).sum = 0 := by
  rw [sum_row]
  have e := dd_fin ⟨r.toNat, by omega⟩ ⟨t.toNat, by omega⟩
  have er : ((r.toNat : Nat) : Int) = r := by omega
  have et : ((t.toNat : Nat) : Int) = t := by omega
  simp only [er, et] at e
  refine Eq.trans ?_ (e (by omega))
  unfold ddS
  refine sm_congr fun s hs => ?_
  by_cases hk : pc (s : Int) = k
  · rw [if_pos (c := pc (s : Int) = pc r + 1) (by omega)]
    by_cases hp : P (s : Int) = true
    · rw [if_pos ⟨hp, hk⟩]
    · rw [if_neg (fun h => hp h.1), sgnS_sub (r := (s : Int)) (s := t) (fun h => hp (hP _ _ (by omega) (by omega) t0 t1 hPt h)), Int.mul_zero]
  · rw [if_neg (fun h => hk h.2), if_neg (by omega)]

theorem bord_en {rs cs : List Int} {i j : Nat} (hi : i < rs.length) (hj : j < cs.length) : en (bordM rs cs) i j = sgnS (gi rs i) (gi cs j) := by
  unfold en; rw [bordM_gr hi, bRow_gi hj]
/-- Border after border. -/
theorem bord_bord {P : Int → Bool} (hP : Dn P) {k : Int} {i j : Nat} (hi : i < (rowTo P (k - 1) 64).length) (hj : j < (rowTo P (k + 1) 64).length) :
    sm (fun l => en (bordM (rowTo P (k - 1) 64) (rowTo P k 64)) i l * en (bordM (rowTo P k 64) (rowTo P (k + 1) 64)) l j) (rowTo P k 64).length = 0 := by
  obtain ⟨r0, r1, _, hr⟩ := mem_rowTo.1 (gi_mem hi)
  obtain ⟨t0, t1, ht, hpt⟩ := mem_rowTo.1 (gi_mem hj)
  have h := dd hP r0 r1 hr t0 t1 hpt ht
  rw [← sm_gi] at h
  refine Eq.trans ?_ h
  exact sm_congr fun l hl => by rw [bord_en hi hl, bord_en hl hj]

end Go.Proofs.Ytjaofbdfhcgmeaa
