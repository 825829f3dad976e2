/-
  Slices of slices of int: their rows as entries of what the call owns.
-/
import Derived.Test.YtjaofbdfhcgmeaaLib
namespace Go.Proofs.Ytjaofbdfhcgmeaa
open Go.RowKit

theorem tSS : SlT Try.prog 58 26 (.slice none 0 0) := slT_mk (b := 24) (by kernel_rfl) (by kernel_rfl) rfl (by omega)

/-- Row k of a list of lists; not opened by the walk. -/
def gr (M : List (List Int)) (k : Nat) : List Int := M.getD k []
def gv (vs : List Value) (k : Nat) : Value := vs.getD k (.slice none 0 0)
def rows (vs : List Value) (M : List (List Int)) : List Ent := List.zipWith (fun v xs => ⟨v, 3, ints xs⟩) vs M
theorem gv_get {vs : List Value} {k : Nat} (h : k < vs.length) : vs[k]? = some (gv vs k) := by simp [gv, List.getD, h]
theorem gr_eq {M : List (List Int)} {k : Nat} (h : k < M.length) : gr M k = M[k] := by simp [gr, List.getD, h]
theorem gr_mem {M : List (List Int)} {k : Nat} (h : k < M.length) : gr M k ∈ M := by rw [gr_eq h]; exact List.getElem_mem _
theorem mem_gr {M : List (List Int)} {r : List Int} (h : r ∈ M) : ∃ k, k < M.length ∧ gr M k = r := by
  obtain ⟨k, hk, rfl⟩ := List.getElem_of_mem h
  exact ⟨k, hk, gr_eq hk⟩
theorem gr_nil {M : List (List Int)} {k : Nat} (h : M.length ≤ k) : gr M k = [] := by simp [gr, List.getD, h]
theorem take_succ_gr {M : List (List Int)} {j : Nat} (h : j < M.length) : M.take (j + 1) = M.take j ++ [gr M j] := by
  rw [gr_eq h, List.take_succ_eq_append_getElem h]
theorem gr_set {M : List (List Int)} {k i : Nat} {r : List Int} (hk : k < M.length) : gr (M.set k r) i = if i = k then r else gr M i := by
  simp only [gr, List.getD, List.getElem?_set]
  by_cases e : i = k
  · subst e; simp [hk]
  · simp [e, Ne.symm e]
theorem gv_set {vs : List Value} {k i : Nat} {r : Value} (hk : k < vs.length) : gv (vs.set k r) i = if i = k then r else gv vs i := by
  simp only [gv, List.getD, List.getElem?_set]
  by_cases e : i = k
  · subst e; simp [hk]
  · simp [e, Ne.symm e]
theorem set_gr {M : List (List Int)} {k : Nat} (h : k < M.length) : M.set k (gr M k) = M := by rw [gr_eq h]; exact List.set_getElem_self h
theorem set_gv {vs : List Value} {k : Nat} (h : k < vs.length) : vs.set k (gv vs k) = vs := by
  have : gv vs k = vs[k] := by simp [gv, List.getD, h]
  rw [this]; exact List.set_getElem_self h

theorem rows_mem {vs : List Value} {M : List (List Int)} (hl : vs.length = M.length) {k : Nat} (hk : k < M.length) : (⟨gv vs k, 3, ints (gr M k)⟩ : Ent) ∈ rows vs M := by
  rw [List.mem_iff_getElem?]
  refine ⟨k, ?_⟩
  have h1 := gv_get (vs := vs) (k := k) (by omega)
  have h2 : M[k]? = some (gr M k) := by rw [gr_eq hk]; simp [hk]
  simp [rows, List.getElem?_zipWith, h1, h2]
theorem rows_pick {vs : List Value} {M : List (List Int)} (hl : vs.length = M.length) {k : Nat} (hk : k < M.length) : (rows vs M).Perm (⟨gv vs k, 3, ints (gr M k)⟩ :: rows (vs.eraseIdx k) (M.eraseIdx k)) := by
  induction vs generalizing M k with
  | nil => simp at hl; omega
  | cons v vs ih =>
    cases M with
    | nil => simp at hl
    | cons r M =>
      cases k with
      | zero => exact List.Perm.refl _
      | succ k =>
        have := ih (M := M) (k := k) (by simpa using hl) (by simpa using hk)
        exact (List.Perm.cons _ this).trans (List.Perm.swap _ _ _)
theorem rows_snoc {vs : List Value} {M : List (List Int)} (hl : vs.length = M.length) (v : Value) (r : List Int) : rows (vs ++ [v]) (M ++ [r]) = rows vs M ++ [⟨v, 3, ints r⟩] := by
  rw [rows, List.zipWith_append hl]; rfl
theorem rows_nil : rows [] [] = [] := rfl
/-- Rows ahead of what else is owned; not opened by the walk. -/
def rowsOn (vs : List Value) (M : List (List Int)) (env : List Ent) : List Ent := rows vs M ++ env

/-- The value v reads as the rows M, by the row values vs. -/
structure RdM (w : World) (v : Value) (vs : List Value) (M : List (List Int)) : Prop where
  top : Rd w v vs
  len : vs.length = M.length
  row : ∀ k, k < M.length → Rd w (gv vs k) (ints (gr M k))

theorem RdM.below {w w' : World} {v : Value} {vs : List Value} {M : List (List Int)} (h : RdM w v vs M) (hb : Below w.heap.size w w') : RdM w' v vs M := ⟨h.top.below hb, h.len, fun k hk => (h.row k hk).below hb⟩
theorem RdM.drew {w : World} {v : Value} {vs : List Value} {M : List (List Int)} (h : RdM w v vs M) (n : Nat) : RdM (w.drewN n) v vs M := ⟨h.top.drew n, h.len, fun k hk => (h.row k hk).drew n⟩
theorem St.oldM {w0 w : World} {env : List Ent} (h : St w0 w env) {v : Value} {vs : List Value} {M : List (List Int)} (hr : RdM w0 v vs M) : RdM w v vs M := hr.below h.bel
theorem RdM.ln {w : World} {v : Value} {vs : List Value} {M : List (List Int)} (h : RdM w v vs M) (ty : TypeId) (w' : World) : (Builtin.len_ #[58] ty #[v]).run Try.prog w' = .ok (.int .i64 (M.length : Int)) w' := by
  rw [h.top.ln tSS, h.len]
theorem RdM.ix {w : World} {v : Value} {vs : List Value} {M : List (List Int)} (h : RdM w v vs M) (k : Nat) (hk : k < M.length) (w' : World) : (Instr.indexAt 58 v (.int .i64 (k : Int))).run Try.prog w' = .ok (.pointer (some (adr v k))) w' := h.top.ix tSS k (by rw [h.len]; exact hk) w'
theorem RdM.cell {w : World} {v : Value} {vs : List Value} {M : List (List Int)} (h : RdM w v vs M) (k : Nat) (hk : k < M.length) : w.cell? (adr v k) = some (gv vs k) := by
  rw [h.top.cell k (by rw [h.len]; exact hk), gv_get (by rw [h.len]; exact hk)]
theorem RdM.le {w : World} {v : Value} {vs : List Value} {M : List (List Int)} (h : RdM w v vs M) : M.length ≤ 9223372036854775807 := by
  have := h.top.le
  have := h.len
  simp only [maxLen] at *
  omega

theorem St.rdM {w0 w : World} {v : Value} {t : TypeId} {vs : List Value} {M : List (List Int)} {env : List Ent} (h : St w0 w (⟨v, t, vs⟩ :: rowsOn vs M env)) (hl : vs.length = M.length) : RdM w v vs M :=
  ⟨h.hd, hl, fun _ hk => h.own.rd (List.mem_cons_of_mem _ (List.mem_append_left _ (rows_mem hl hk)))⟩
/-- Row k brought to the front. -/
theorem St.pick {w0 w : World} {v : Value} {t : TypeId} {vs us : List Value} {M : List (List Int)} {env : List Ent} (h : St w0 w (⟨v, t, us⟩ :: rowsOn vs M env)) (hl : vs.length = M.length) {k : Nat} (hk : k < M.length) :
    St w0 w (⟨gv vs k, 3, ints (gr M k)⟩ :: ⟨v, t, us⟩ :: rowsOn (vs.eraseIdx k) (M.eraseIdx k) env) :=
  h.perm ((List.Perm.cons _ ((rows_pick hl hk).append_right env)).trans (List.Perm.swap _ _ _))
/-- A new row k, put back. -/
theorem St.unpick {w0 w : World} {v : Value} {t : TypeId} {vs us : List Value} {M : List (List Int)} {env : List Ent} {k : Nat} {r : Value} {x : List Int} (h : St w0 w (⟨r, 3, ints x⟩ :: ⟨v, t, us⟩ :: rowsOn (vs.eraseIdx k) (M.eraseIdx k) env)) (hl : vs.length = M.length) (hk : k < M.length) :
    St w0 w (⟨v, t, us⟩ :: rowsOn (vs.set k r) (M.set k x) env) := by
  have hl' : (vs.set k r).length = (M.set k x).length := by simp [hl]
  have hp := rows_pick hl' (k := k) (by simp [hk])
  rw [List.eraseIdx_set_eq, List.eraseIdx_set_eq, gv_set (by omega), gr_set hk, if_pos rfl, if_pos rfl] at hp
  exact h.perm ((List.Perm.swap _ _ _).trans (List.Perm.cons _ (hp.symm.append_right env)))
/-- A store into place j of row k. -/
theorem St.setAt {w0 w : World} {v : Value} {t : TypeId} {vs us : List Value} {M : List (List Int)} {env : List Ent} (h : St w0 w (⟨v, t, us⟩ :: rowsOn vs M env)) (hl : vs.length = M.length) {k : Nat} (hk : k < M.length) {j : Nat} (hj : j < (gr M k).length) (x : Int) :
    St w0 (w.setCell (adr (gv vs k) j) (.int .i64 x)) (⟨v, t, us⟩ :: rowsOn vs (M.set k ((gr M k).set j x)) env) := by
  have h1 := (h.pick hl hk).set j (by simpa using hj) (.int .i64 x)
  rw [ints_set] at h1
  have h2 := h1.unpick hl hk
  rwa [set_gv (by omega)] at h2
theorem St.freeRow {w0 w : World} {v : Value} {t : TypeId} {vs us : List Value} {M : List (List Int)} {env : List Ent} (h : St w0 w (⟨v, t, us⟩ :: rowsOn vs M env)) (hl : vs.length = M.length) {k : Nat} (hk : k < M.length) {j : Nat} (hj : j < (gr M k).length) : w.frozen? (adr (gv vs k) j) = false :=
  h.own.free (List.mem_cons_of_mem _ (List.mem_append_left _ (rows_mem hl hk))) j (by simpa using hj)
/-- Row k, behind the end of a list that has just got it. -/
theorem St.snocRow {w0 w : World} {v : Value} {t : TypeId} {vs us : List Value} {M : List (List Int)} {env : List Ent} {r : Value} {x : List Int} (h : St w0 w (⟨v, t, us⟩ :: ⟨r, 3, ints x⟩ :: rowsOn vs M env)) (hl : vs.length = M.length) :
    St w0 w (⟨v, t, us⟩ :: rowsOn (vs ++ [r]) (M ++ [x]) env) := by
  rw [rowsOn, rows_snoc hl, List.append_assoc]
  exact h.perm (List.Perm.cons _ List.perm_middle.symm)
/-- Rows that are nil. -/
theorem St.nilRows {w0 w : World} {e : Ent} {env : List Ent} (h : St w0 w (e :: env)) (n : Nat) : St w0 w (e :: rowsOn (List.replicate n (.slice none 0 0)) (List.replicate n []) env) := by
  induction n with
  | zero => exact h
  | succ n ih =>
    have := (ih.nilRow 3).swap
    rw [List.replicate_succ, List.replicate_succ]
    exact this
theorem St.dropRows {w0 w : World} {vs : List Value} {M : List (List Int)} {e : Ent} {env : List Ent} (h : St w0 w (e :: rowsOn vs M env)) : St w0 w env := (h.sub (.cons _ (List.sublist_append_right _ _)))
theorem St.callM {w0 w w' : World} {v : Value} {t : TypeId} {vs : List Value} {M : List (List Int)} {env : List Ent} (h : St w0 w env) (h' : St w w' (⟨v, t, vs⟩ :: rowsOn vs M [])) : St w0 w' (⟨v, t, vs⟩ :: rowsOn vs M env) := by
  have := h.call h'
  rw [rowsOn, List.append_nil, List.cons_append] at this
  exact this

end Go.Proofs.Ytjaofbdfhcgmeaa
