/-
  Monomials of a degree.
  Monomials of a degree: the program's walk.
-/
import Derived.Test.YtjaofbdfhcgmeaaGreatMLaws
import Derived.Test.YtjaofbdfhcgmeaaGreatNum
import Derived.Test.YtjaofbdfhcgmeaaGreatCx
namespace Go.Proofs.YtjaofbdfhcgmeaaGreat
open Go.RowKit

/-- All lists that go on from st with k + 1 exponents of sum d. -/
def monsF (st : List Int) : Nat → Nat → List (List Int)
  | 0, d => [st ++ [(d : Int)]]
  | k + 1, d => (List.range (d + 1)).flatMap fun s => monsF (st ++ [((d - s : Nat) : Int)]) k s
termination_by k => k
def monsT (st : List Int) (k d t : Nat) : List (List Int) := (List.range t).flatMap fun s => monsF (st ++ [((d - s : Nat) : Int)]) k s
theorem monsT_succ (st : List Int) (k d t : Nat) : monsT st k d (t + 1) = monsT st k d t ++ monsF (st ++ [((d - t : Nat) : Int)]) k t := by
  rw [monsT, List.range_succ, List.flatMap_append]; simp [monsT]
theorem monsT_all (st : List Int) (k d : Nat) : monsT st k d (d + 1) = monsF st (k + 1) d := by rw [monsF]; rfl
theorem monsT_le (st : List Int) (k d : Nat) {t u : Nat} (h : t ≤ u) : (monsT st k d t).length ≤ (monsT st k d u).length := by
  induction u with
  | zero => rw [show t = 0 by omega]; exact Nat.le_refl _
  | succ u ih =>
    by_cases e : t = u + 1
    · subst e; exact Nat.le_refl _
    · have := ih (by omega)
      rw [monsT_succ, List.length_append]; omega
theorem monsF_zero (st : List Int) (d : Nat) : monsF st 0 d = [st ++ [(d : Int)]] := by rw [monsF]
theorem monsF_rows {k : Nat} : ∀ {st : List Int} {d : Nat} {r : List Int}, r ∈ monsF st k d → r.length = st.length + k + 1 := by
  induction k with
  | zero => intro st d r h; rw [monsF_zero, List.mem_singleton] at h; subst h; simp
  | succ k ih =>
    intro st d r h
    rw [monsF] at h
    obtain ⟨s, _, hr⟩ := List.mem_flatMap.1 h
    have := ih hr
    simp at this; omega
/-- How many there are. -/
def monC : Nat → Nat → Nat
  | 0, _ => 1
  | k + 1, d => ((List.range (d + 1)).map (monC k)).sum
theorem monsF_len {k : Nat} : ∀ (st : List Int) (d : Nat), (monsF st k d).length = monC k d := by
  induction k with
  | zero => intro st d; rw [monsF_zero]; rfl
  | succ k ih =>
    intro st d
    rw [monsF, List.length_flatMap, monC]
    congr 1
    exact List.map_congr_left fun s _ => ih _ _
theorem monC_fin : ∀ k d : Fin 6, monC k.val d.val ≤ 252 := by decide +kernel
theorem monC_le {k d : Nat} (hk : k ≤ 5) (hd : d ≤ 5) : monC k d ≤ 252 := monC_fin ⟨k, by omega⟩ ⟨d, by omega⟩
def MonOk (n d : Int) : Prop := 1 ≤ n ∧ n ≤ 6 ∧ 0 ≤ d ∧ d ≤ 5
instance (n d : Int) : Decidable (MonOk n d) := by unfold MonOk; exact inferInstance
def monB (n d : Int) : List (List Int) := if MonOk n d then monsF [] (n - 1).toNat d.toNat else []
theorem monB_t {n d : Int} (h : MonOk n d) : monB n d = monsF [] (n - 1).toNat d.toNat := if_pos h
theorem monB_f {n d : Int} (h : ¬ MonOk n d) : monB n d = [] := if_neg h
theorem monB_len (n d : Int) : (monB n d).length ≤ 252 := by
  unfold monB
  split
  · rename_i h
    rw [monsF_len]
    have h1 := h.1; have h2 := h.2.1; have h3 := h.2.2.1; have h4 := h.2.2.2
    exact monC_le (by omega) (by omega)
  · simp
theorem monB_cnt (n d : Int) : cnt (monB n d) ≤ 1000000 := by
  have h := cnt_bd (M := monB n d) (B := 6) (n := 252) (fun k hk => by
    have hm := gr_mem hk
    generalize gr (monB n d) k = r at hm
    unfold monB at hm
    split at hm
    · rename_i h
      have := monsF_rows hm
      have h1 := h.1; have h2 := h.2.1
      simp at this; omega
    · simp at hm) (monB_len n d)
  omega
theorem ints_ones (xs : List Int) : ∀ u ∈ ints xs, u.oneCell' = true := fun u h => by
  obtain ⟨x, _, rfl⟩ := List.mem_map.1 h; rfl


end Go.Proofs.YtjaofbdfhcgmeaaGreat

namespace Go.Proofs.YtjaofbdfhcgmeaaGreat
open Go.RowKit

/-- A cell that holds a slice of slices. -/
def bx1 (b : Nat) : Value := .slice (some ⟨b, 0, none⟩) 1 1
theorem Rd.one {w : World} {b : Nat} {x : Value} (h : Rd w (bx1 b) [x]) : w.cell? ⟨b, 0, none⟩ = some x := h.cell 0 (by simp)
theorem run_eql_slice_some {P : Program} (w : World) {t e : TypeId} (h : P.underlying t = some (.slice e)) (a : Addr) (l c : Nat) : (binOp .eql t (.slice (some a) l c) (.slice none 0 0)).run P w = .ok (.bool false) w := by
  have h0 : ∀ d : Nat, (Op.equalIn (d + 1) t (.slice (some a) l c) (.slice none 0 0)).run P w = .ok false w := fun d => by
    simp [Op.equalIn, run_underlying h]
  have h1 : (Op.equal t (.slice (some a) l c) (.slice none 0 0)).run P w = .ok false w := h0 9999
  simp only [binOp]
  simp [h1]
theorem run_eql_slice_none {P : Program} (w : World) {t e : TypeId} (h : P.underlying t = some (.slice e)) : (binOp .eql t (.slice none 0 0) (.slice none 0 0)).run P w = .ok (.bool true) w := by
  have h0 : ∀ d : Nat, (Op.equalIn (d + 1) t (.slice none 0 0) (.slice none 0 0)).run P w = .ok true w := fun d => by
    simp [Op.equalIn, run_underlying h]
  have h1 : (Op.equal t (.slice none 0 0) (.slice none 0 0)).run P w = .ok true w := h0 9999
  simp only [binOp]
  simp [h1]

set_option maxHeartbeats 1000000 in
theorem cloneAny_c (va : Value) (L : List Int) (w : World) (ha : Rd w va (ints L)) (h1 : L.length ≤ 1000000) : Calls Tryz.prog 47 #[va] w fun e w' => ∃ v, e = .returned v ∧ St w w' [⟨v, 3, ints L⟩] := by
  rcases ha with ⟨rfl, h0⟩ | ⟨a, cap, rfl, hc⟩
  · have hq := fun w => run_eql_slice_none (P := Tryz.prog) w tI.und'
    have hL : L = [] := by
      have : (ints L).length = 0 := by rw [h0]; rfl
      rw [length_ints] at this
      exact List.eq_nil_of_length_eq_zero this
    have E : Hid (ints L = []) := h0
    go_enter Tryz.func47, Tryz.ntmps47
    go_wp2_with fail
    go_ret
    exact ⟨_, rfl, by rw [E.out]; exact (St.start w).nilRow _⟩
  · have ha : Rd w (.slice (some a) (ints L).length cap) (ints L) := .inr ⟨a, cap, rfl, hc⟩
    obtain ⟨l, hl⟩ : ∃ l, l = (ints L).length := ⟨_, rfl⟩
    rw [← hl] at ha ⊢
    clear hl
    have hO := (St.start w).new #[] 3 (by simp)
    have ha' := hO.old ha
    have hq := fun w => run_eql_slice_some (P := Tryz.prog) w tI.und' a l cap
    have HO := hid hO
    clear hO hc
    go_enter Tryz.func47, Tryz.ntmps47
    go_wp2_with (at_builtin; refine wpList_app rfl _ _ rfl tI HO.out.own ha' (ints_ones _) (by simp; omega) rfl rfl ?_)
    intro v5 w5 hO5 hb5
    have hS := HO.out.mut hO5 hb5
    have HS := hid hS
    clear hS hO5 hb5
    go_wp2_with fail
    go_ret
    exact ⟨_, rfl, HS.out⟩




end Go.Proofs.YtjaofbdfhcgmeaaGreat
