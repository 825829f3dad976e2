/-
  The ground of this seat's walks: slices that are read, slices that the call owns, as plain lists of cells. No program in sight but its tables of types.
-/
import Derived.Test.YtjaofbdfhcgmeaaRows
import Derived.WalkKit
import Derived.Deep.QuietTactic
import Derived.BigQuiet
import Derived.WalkSmall
import Derived.Deep.RegionLaw
namespace Go.Proofs.Ytjaofbdfhcgmeaa
open Go.RowKit

/-- The address of place k of a slice. -/
def adr (v : Value) (k : Nat) : Addr :=
  match v with
  | .slice (some a) _ _ => ⟨a.block, a.off + k, none⟩
  | _ => default

/-- The slice value v reads in w as the cells L. -/
def Rd (w : World) (v : Value) (L : List Value) : Prop :=
  (v = .slice none 0 0 ∧ L = []) ∨
  ∃ a cap, v = .slice (some a) L.length cap ∧ L.length ≤ cap ∧ cap ≤ maxLen ∧ ∀ j, j < L.length → w.cell? ⟨a.block, a.off + j, none⟩ = L[j]? ∧ a.add j = ⟨a.block, a.off + j, none⟩

def ints (xs : List Int) : List Value := xs.map (Value.int .i64)
def bools (xs : List Bool) : List Value := xs.map Value.bool
/-- Element k, 0 behind the end. Not opened by the walk. -/
def gi (xs : List Int) (k : Nat) : Int := xs.getD k 0

theorem length_ints (xs : List Int) : (ints xs).length = xs.length := by simp [ints]
attribute [simp] length_ints
theorem ints_get (xs : List Int) (k : Nat) (h : k < xs.length) : (ints xs)[k]? = some (.int .i64 (gi xs k)) := by
  simp [ints, gi, h, List.getD]
theorem gi_eq (xs : List Int) (k : Nat) (h : k < xs.length) : gi xs k = xs[k] := by simp [gi, List.getD, h]
theorem ints_nil : ints [] = [] := rfl
theorem ints_append (xs ys : List Int) : ints (xs ++ ys) = ints xs ++ ints ys := by simp [ints]
theorem ints_snoc (xs : List Int) (y : Int) : ints xs ++ [.int .i64 y] = ints (xs ++ [y]) := by simp [ints]
theorem ints_set (xs : List Int) (k : Nat) (y : Int) : (ints xs).set k (.int .i64 y) = ints (xs.set k y) := by simp [ints, List.map_set]

theorem Rd.le {w : World} {v : Value} {L : List Value} (h : Rd w v L) : L.length ≤ maxLen := by
  rcases h with ⟨_, rfl⟩ | ⟨a, cap, _, h1, h2, _⟩
  · simp
  · exact Nat.le_trans h1 h2
theorem Rd.cell {w : World} {v : Value} {L : List Value} (h : Rd w v L) (k : Nat) (hk : k < L.length) : w.cell? (adr v k) = L[k]? := by
  rcases h with ⟨_, rfl⟩ | ⟨a, cap, rfl, _, _, hc⟩
  · simp at hk
  · exact (hc k hk).1
theorem Rd.intCell {w : World} {v : Value} {xs : List Int} (h : Rd w v (ints xs)) (k : Nat) (hk : k < xs.length) : w.cell? (adr v k) = some (.int .i64 (gi xs k)) := by
  rw [h.cell k (by simpa using hk), ints_get xs k hk]
theorem Rd.len {w : World} {v : Value} {L : List Value} (h : Rd w v L) {P : Program} {t : TypeId} (ht : P.underlying t = some (.slice (P.elem t))) (ty : TypeId) (w' : World) :
    (Builtin.len_ #[t] ty #[v]).run P w' = .ok (.int .i64 (L.length : Int)) w' := by
  rcases h with ⟨rfl, rfl⟩ | ⟨a, cap, rfl, _⟩
  · rw [run_len_slice _ _ _ _ _ _ ht]; rfl
  · rw [run_len_slice _ _ _ _ _ _ ht]; rfl
theorem Rd.ilen {w : World} {v : Value} {xs : List Int} (h : Rd w v (ints xs)) {P : Program} {t : TypeId} (ht : P.underlying t = some (.slice (P.elem t))) (ty : TypeId) (w' : World) :
    (Builtin.len_ #[t] ty #[v]).run P w' = .ok (.int .i64 (xs.length : Int)) w' := by
  rw [h.len ht]; simp
theorem Rd.idx {w : World} {v : Value} {L : List Value} (h : Rd w v L) {P : Program} {t e : TypeId} (ht : P.underlying t = some (.slice (P.elem t))) (he : P.elem t = e) {i : TypeInfo} (hi : P.info? e = some i) (hs : i.size = 1)
    (k : Nat) (hk : k < L.length) (w' : World) : (Instr.indexAt t v (.int .i64 (k : Int))).run P w' = .ok (.pointer (some (adr v k))) w' := by
  rcases h with ⟨_, rfl⟩ | ⟨a, cap, rfl, _, _, hc⟩
  · simp at hk
  · rw [run_indexAt_slice _ _ _ _ _ _ _ ht, if_pos ⟨by omega, by omega⟩, he]
    simp [sizeOf, typeInfo, hi, hs, Result.andThen, adr, (hc k hk).2]
theorem Rd.below {w w' : World} {v : Value} {L : List Value} (h : Rd w v L) (hb : Below w.heap.size w w') : Rd w' v L := by
  rcases h with h | ⟨a, cap, rfl, h1, h2, hc⟩
  · exact .inl h
  · refine .inr ⟨a, cap, rfl, h1, h2, fun j hj => ⟨?_, (hc j hj).2⟩⟩
    have := (hc j hj).1
    rw [← this]
    refine hb.cell ?_
    rw [List.getElem?_eq_getElem hj] at this
    exact World.block_lt_of_cell? _ _ this
theorem Rd.drew {w : World} {v : Value} {L : List Value} (h : Rd w v L) (n : Nat) : Rd (w.drewN n) v L := h

theorem hid {p : Prop} (h : p) : Hid p := h

/-! ### The tables' row of a slice type whose elements are one cell -/

structure SlT (P : Program) (t e : TypeId) (z : Value) : Prop where
  und : P.underlying t = some (.slice (P.elem t))
  el : P.elem t = e
  info : ∃ i, P.info? e = some i ∧ i.zero = some z ∧ i.size = 1 ∧ i.bytes ≤ 32
  cells : z.cells = #[z]

theorem SlT.und' {P : Program} {t e : TypeId} {z : Value} (h : SlT P t e z) : P.underlying t = some (.slice e) := by rw [h.und, h.el]

theorem slT_mk {P : Program} {t e : TypeId} {z : Value} {b : Nat} (h1 : P.underlying t = some (.slice e)) (h2 : (P.info? e).map (fun i => (i.zero, i.size, i.bytes)) = some (some z, 1, b)) (h3 : z.cells = #[z]) (h4 : b ≤ 32) : SlT P t e z := by
  have he : P.elem t = e := by simp [Program.elem, h1]
  obtain ⟨i, hi, a, c, d⟩ := info_parts h2
  exact ⟨by rw [he]; exact h1, he, ⟨i, hi, a, c, by omega⟩, h3⟩

theorem tI : SlT Try.prog 26 3 (.int .i64 0) := slT_mk (b := 8) (by kernel_rfl) (by kernel_rfl) rfl (by omega)

theorem Rd.ix {w : World} {v : Value} {L : List Value} (h : Rd w v L) {P : Program} {t e : TypeId} {z : Value} (T : SlT P t e z) (k : Nat) (hk : k < L.length) (w' : World) :
    (Instr.indexAt t v (.int .i64 (k : Int))).run P w' = .ok (.pointer (some (adr v k))) w' := by
  obtain ⟨i, hi, _, hs, _⟩ := T.info
  exact h.idx T.und T.el hi hs k hk w'
theorem Rd.ln {w : World} {v : Value} {L : List Value} (h : Rd w v L) {P : Program} {t e : TypeId} {z : Value} (T : SlT P t e z) (ty : TypeId) (w' : World) :
    (Builtin.len_ #[t] ty #[v]).run P w' = .ok (.int .i64 (L.length : Int)) w' := h.len T.und ty w'
theorem Rd.iln {w : World} {v : Value} {xs : List Int} (h : Rd w v (ints xs)) {P : Program} {t e : TypeId} {z : Value} (T : SlT P t e z) (ty : TypeId) (w' : World) :
    (Builtin.len_ #[t] ty #[v]).run P w' = .ok (.int .i64 (xs.length : Int)) w' := h.ilen T.und ty w'
theorem Rd.iix {w : World} {v : Value} {xs : List Int} (h : Rd w v (ints xs)) {P : Program} {t e : TypeId} {z : Value} (T : SlT P t e z) (k : Nat) (hk : k < xs.length) (w' : World) :
    (Instr.indexAt t v (.int .i64 (k : Int))).run P w' = .ok (.pointer (some (adr v k))) w' := h.ix T k (by simpa using hk) w'
theorem Rd.ile {w : World} {v : Value} {xs : List Int} (h : Rd w v (ints xs)) : xs.length ≤ 9223372036854775807 := by
  have := h.le
  simp only [length_ints, maxLen] at this
  omega

/-! ### What the call owns: slices in blocks of their own, from block B on -/

structure Ent where
  v : Value
  e : TypeId
  L : List Value

structure Owns (B : Nat) (w : World) (env : List Ent) : Prop where
  base : B ≤ w.heap.size
  own : ∀ x ∈ env, w.ownsRow B x.e 1 x.v x.L.length x.L
  apart : env.Pairwise (fun x y => x.v.ownBlock = none ∨ x.v.ownBlock ≠ y.v.ownBlock)

theorem below_block {B : Nat} {w w' : World} (h : Below B w w') {k : Nat} (hk : k < B) : w'.heap[k]? = w.heap[k]? := h.block k hk

theorem ownsRow_of_block {w w' : World} {B : Nat} {e : TypeId} {v : Value} {n : Nat} {L : List Value} (h : w.ownsRow B e 1 v n L) (hb : ∀ g, v.ownBlock = some g → w'.heap[g]? = w.heap[g]?) : w'.ownsRow B e 1 v n L := by
  refine ⟨h.1, ?_⟩
  rcases h.2 with h2 | ⟨g, cap, cur, rfl, hg, hh, r⟩
  · exact .inl h2
  · exact .inr ⟨g, cap, cur, rfl, hg, by rw [hb g rfl]; exact hh, r⟩

theorem Owns.nil {B : Nat} {w : World} (h : B ≤ w.heap.size) : Owns B w [] := ⟨h, by simp, List.Pairwise.nil⟩
theorem Owns.start (w : World) : Owns w.heap.size w [] := Owns.nil (Nat.le_refl _)

/-- A world in which every block of the entries is as it was. -/
theorem Owns.keep {B : Nat} {w w' : World} {env : List Ent} (h : Owns B w env) (hs : B ≤ w'.heap.size) (hb : ∀ x ∈ env, ∀ g, x.v.ownBlock = some g → w'.heap[g]? = w.heap[g]?) : Owns B w' env :=
  ⟨hs, fun x hx => ownsRow_of_block (h.own x hx) (hb x hx), h.apart⟩

theorem Owns.lt {B : Nat} {w : World} {env : List Ent} (h : Owns B w env) {x : Ent} (hx : x ∈ env) {g : Nat} (hg : x.v.ownBlock = some g) : B ≤ g ∧ g < w.heap.size := (h.own x hx).lt g hg

theorem Owns.alloc {B : Nat} {w : World} {env : List Ent} (h : Owns B w env) (o : Obj) : Owns B (w.alloc o) env :=
  h.keep (by have := h.base; simp; omega) fun _ hx g hg => by
    have := (h.lt hx hg).2
    show (w.heap.push o)[g]? = _
    rw [Array.getElem?_push, if_neg (by omega)]
theorem Owns.drewN {B : Nat} {w : World} {env : List Ent} (h : Owns B w env) (n : Nat) : Owns B (w.drewN n) env := ⟨h.base, h.own, h.apart⟩
theorem Owns.drew {B : Nat} {w : World} {env : List Ent} (h : Owns B w env) : Owns B w.drew env := ⟨h.base, h.own, h.apart⟩
theorem Owns.below {B : Nat} {w w' : World} {env : List Ent} (h : Owns B w env) (hb : Below w.heap.size w w') : Owns B w' env :=
  h.keep (Nat.le_trans h.base hb.size) fun _ hx g hg => hb.block g (h.lt hx hg).2
theorem Owns.perm {B : Nat} {w : World} {env env' : List Ent} (h : Owns B w env) (hp : env.Perm env') : Owns B w env' :=
  ⟨h.base, fun x hx => h.own x (hp.mem_iff.2 hx), (hp.pairwise_iff (by
    intro x y hxy
    rcases hxy with hxy | hxy
    · cases hy : y.v.ownBlock with
      | none => exact .inl rfl
      | some g => exact .inr (by rw [hxy]; simp)
    · exact .inr (Ne.symm hxy))).1 h.apart⟩
theorem Owns.sub {B : Nat} {w : World} {env env' : List Ent} (h : Owns B w env) (hp : env'.Sublist env) : Owns B w env' :=
  ⟨h.base, fun x hx => h.own x (hp.subset hx), h.apart.sublist hp⟩
theorem Owns.tail {B : Nat} {w : World} {x : Ent} {env : List Ent} (h : Owns B w (x :: env)) : Owns B w env := h.sub (List.sublist_cons_self _ _)
theorem Owns.swap {B : Nat} {w : World} {x y : Ent} {env : List Ent} (h : Owns B w (x :: y :: env)) : Owns B w (y :: x :: env) := h.perm (List.Perm.swap _ _ _)
theorem Owns.swap3 {B : Nat} {w : World} {x y z : Ent} {env : List Ent} (h : Owns B w (x :: y :: z :: env)) : Owns B w (z :: x :: y :: env) :=
  h.perm ((List.Perm.cons x (List.Perm.swap z y env)).trans (List.Perm.swap z x (y :: env)))
theorem Owns.nilRow {B : Nat} {w : World} {env : List Ent} (h : Owns B w env) (e : TypeId) : Owns B w (⟨.slice none 0 0, e, []⟩ :: env) :=
  ⟨h.base, by
    intro x hx
    rcases List.mem_cons.1 hx with rfl | hx
    · exact World.ownsRow_nil _ _ _ _
    · exact h.own x hx, List.Pairwise.cons (fun _ _ => .inl rfl) h.apart⟩
theorem Owns.low {B B' : Nat} {w : World} {env : List Ent} (h : Owns B w env) (hB : B' ≤ B) : Owns B' w env :=
  ⟨Nat.le_trans hB h.base, fun x hx => by
    obtain ⟨h1, h2⟩ := h.own x hx
    refine ⟨h1, ?_⟩
    rcases h2 with h2 | ⟨g, cap, cur, hv, hg, r⟩
    · exact .inl h2
    · exact .inr ⟨g, cap, cur, hv, Nat.le_trans hB hg, r⟩, h.apart⟩
/-- What a call leaves, beside what was there. -/
theorem Owns.join {B : Nat} {w w' : World} {env env' : List Ent} (h : Owns B w env) (hb : Below w.heap.size w w') (h' : Owns w.heap.size w' env') : Owns B w' (env' ++ env) := by
  have h0 := h.below hb
  refine ⟨h0.base, ?_, List.pairwise_append.2 ⟨h'.apart, h.apart, ?_⟩⟩
  · intro x hx
    rcases List.mem_append.1 hx with hx | hx
    · exact (h'.low h.base).own x hx
    · exact h0.own x hx
  · intro x hx y hy
    cases hxb : x.v.ownBlock with
    | none => exact .inl rfl
    | some g =>
      refine .inr fun e => ?_
      have h1 := (h'.lt hx hxb).1
      have h2 := (h.lt hy e.symm).2
      omega

theorem ownsRow_rd {w : World} {B : Nat} {e : TypeId} {v : Value} {L : List Value} (h : w.ownsRow B e 1 v L.length L) : Rd w v L := by
  rcases h.2 with ⟨rfl, h0⟩ | ⟨g, cap, cur, rfl, hg, hh, hnc, hcm, hcs, htake⟩
  · exact .inl ⟨rfl, List.eq_nil_of_length_eq_zero h0⟩
  · refine .inr ⟨⟨g, 0, none⟩, cap, rfl, hnc, hcm, fun j hj => ⟨?_, by rw [Addr.add_lit]⟩⟩
    rw [cell_of_row w g (0 + j) cur e (0, 0) hh, Nat.zero_add]
    have : L[j]? = (cur.toList.take (L.length * 1))[j]? := by rw [htake]
    rw [this, List.getElem?_take, if_pos (by omega)]
    simp
theorem Owns.rd {B : Nat} {w : World} {env : List Ent} (h : Owns B w env) {v : Value} {e : TypeId} {L : List Value} (hx : ⟨v, e, L⟩ ∈ env) : Rd w v L := ownsRow_rd (h.own _ hx)
theorem Owns.hd {B : Nat} {w : World} {v : Value} {e : TypeId} {L : List Value} {env : List Ent} (h : Owns B w (⟨v, e, L⟩ :: env)) : Rd w v L := h.rd (List.mem_cons_self ..)
theorem Owns.free {B : Nat} {w : World} {env : List Ent} (h : Owns B w env) {v : Value} {e : TypeId} {L : List Value} (hx : ⟨v, e, L⟩ ∈ env) (k : Nat) (hk : k < L.length) : w.frozen? (adr v k) = false := by
  rcases (h.own _ hx).2 with ⟨_, h0⟩ | ⟨g, cap, cur, hv, hg, hh, _⟩
  · simp only at h0; omega
  · simp only at hv
    subst hv
    exact frozen_of_row w g (0 + k) cur e hh

/-- A store into an own slice. -/
theorem Owns.set {B : Nat} {w : World} {v : Value} {e : TypeId} {L : List Value} {env : List Ent} (h : Owns B w (⟨v, e, L⟩ :: env)) (k : Nat) (hk : k < L.length) (u : Value) :
    Owns B (w.setCell (adr v k) u) (⟨v, e, L.set k u⟩ :: env) := by
  have h0 := h.own _ (List.mem_cons_self ..)
  rcases h0.2 with ⟨_, h0⟩ | ⟨g, cap, cur, hv, hg, hh, hnc, hcm, hcs, htake⟩
  · simp only at h0; omega
  · simp only at hv hh hnc hcs htake
    subst hv
    have hadr : adr (.slice (some ⟨g, 0, none⟩) L.length cap) k = ⟨g, k, none⟩ := by simp [adr]
    rw [hadr]
    have hap := List.pairwise_cons.1 h.apart
    refine ⟨by simpa using h.base, ?_, List.pairwise_cons.2 ⟨fun y hy => hap.1 y hy, hap.2⟩⟩
    intro x hx
    rcases List.mem_cons.1 hx with rfl | hx
    · have hst := (World.ownsRow.stored (w := w) (base := B) (e := e) (size := 1) (g := g) (n := L.length) (cap := cap) (xs := L) ⟨by simp, .inr ⟨g, cap, cur, rfl, hg, hh, hnc, hcm, hcs, htake⟩⟩ k u).1
      simpa using hst
    · refine ownsRow_of_block (h.own x (List.mem_cons_of_mem _ hx)) fun g' hg' => heap_setCell_other w ⟨g, k, none⟩ g' u ?_
      intro e'
      rcases hap.1 x hx with h1 | h1
      · simp [Value.ownBlock] at h1
      · exact h1 (by rw [hg']; simp [Value.ownBlock, e'])
theorem Owns.adrBase {B : Nat} {w : World} {v : Value} {e : TypeId} {L : List Value} {env : List Ent} (h : Owns B w (⟨v, e, L⟩ :: env)) (k : Nat) (hk : k < L.length) : B ≤ (adr v k).block := by
  rcases (h.own _ (List.mem_cons_self ..)).2 with ⟨_, h0⟩ | ⟨g, cap, cur, hv, hg, _⟩
  · simp only at h0; omega
  · simp only at hv
    subst hv
    exact hg

/-- A new block, as a slice. -/
theorem Owns.new {B : Nat} {w : World} {env : List Ent} (h : Owns B w env) (cs : Array Value) (e : TypeId) (hm : cs.size ≤ maxLen) :
    Owns B (w.alloc (.cells cs e)) (⟨.slice (some ⟨w.heap.size, 0, none⟩) cs.size cs.size, e, cs.toList⟩ :: env) := by
  have h1 := h.alloc (.cells cs e)
  refine ⟨h1.base, ?_, List.pairwise_cons.2 ⟨fun y hy => .inr ?_, h.apart⟩⟩
  · intro x hx
    rcases List.mem_cons.1 hx with rfl | hx
    · have := World.ownsRow_lit (base := B) (e := e) (size := 1) w cs cs.size h.base hm (by simp)
      simpa using this
    · exact h1.own x hx
  · intro e'
    have := (h.lt hy (g := w.heap.size) (by rw [← e']; rfl)).2
    omega

theorem Owns.grown {B : Nat} {w w' : World} {v : Value} {e : TypeId} {L : List Value} {env : List Ent} (h : Owns B w (⟨v, e, L⟩ :: env)) (hg : w.grownBy w' v.ownBlock) {v' : Value} {L' : List Value}
    (ho : w'.ownsRow B e 1 v' L'.length L') (hv : v'.ownBlock = v.ownBlock ∨ ∀ g, v'.ownBlock = some g → w.heap.size ≤ g) : Owns B w' (⟨v', e, L'⟩ :: env) := by
  have hap := List.pairwise_cons.1 h.apart
  refine ⟨Nat.le_trans h.base hg.size, ?_, List.pairwise_cons.2 ⟨fun y hy => ?_, hap.2⟩⟩
  · intro x hx
    rcases List.mem_cons.1 hx with rfl | hx
    · exact ho
    · refine ownsRow_of_block (h.own x (List.mem_cons_of_mem _ hx)) fun g' hg' => hg.block g' (h.lt (List.mem_cons_of_mem _ hx) hg').2 ?_
      intro e'
      rcases hap.1 x hx with h1 | h1
      · simp only at h1; rw [h1] at e'; simp at e'
      · exact h1 (by rw [hg']; exact e'.symm)
  · rcases hv with hv | hv
    · rw [hv]; exact hap.1 y hy
    · cases hvb : v'.ownBlock with
      | none => exact .inl rfl
      | some g =>
        refine .inr fun e' => ?_
        have h1 := hv g hvb
        have h2 := (h.lt (List.mem_cons_of_mem _ hy) e'.symm).2
        omega

theorem below_of_grown {B : Nat} {w w' : World} {v : Value} {e : TypeId} {L : List Value} {env : List Ent} (h : Owns B w (⟨v, e, L⟩ :: env)) (hg : w.grownBy w' v.ownBlock) : Below B w w' :=
  (Below.refl B w).grown hg h.base fun _ hk => (h.lt (List.mem_cons_self ..) hk).1

/-- What an argument of type []int reads as. -/
theorem rd_of_open {w : World} {a : Addr} {len cap : Nat} {zs : List Int} (hl : len ≤ cap) (hm : cap ≤ maxLen) (hz : len ≤ zs.length) (hcell : ∀ i, i < zs.length → w.cell? (a.add i) = some (.int .i64 (zs.getD i 0))) :
    Rd w (.slice (some a) len cap) (ints (zs.take len)) := by
  have e : (ints (zs.take len)).length = len := by simp; omega
  refine .inr ⟨a, cap, by rw [e], by rw [e]; exact hl, hm, fun j hj => ?_⟩
  rw [e] at hj
  have hc := hcell j (by omega)
  have hadd : a.add j = ⟨a.block, a.off + j, none⟩ := by
    by_cases h0 : j = 0
    · subst h0
      have hs : a.spot = none := by
        have := hcell 0 (by omega)
        simpa [Addr.add] using World.cell?_spot this
      cases a
      simp only at hs
      subst hs
      simp [Addr.add]
    · simp [Addr.add, h0]
  refine ⟨?_, hadd⟩
  rw [← hadd, hc]
  simp [ints, hj, List.getD, show j < zs.length by omega]

/-! ### The state of a call: what it owns, and that nothing has turned that was there when it began -/

structure St (w0 w : World) (env : List Ent) : Prop where
  own : Owns w0.heap.size w env
  bel : Below w0.heap.size w0 w

theorem St.start (w : World) : St w w [] := ⟨Owns.start w, Below.refl _ _⟩
theorem St.call {w0 w w' : World} {env env' : List Ent} (h : St w0 w env) (h' : St w w' env') : St w0 w' (env' ++ env) := ⟨h.own.join h'.bel h'.own, h.bel.trans (h'.bel.mono h.bel.size)⟩
theorem St.call1 {w0 w w' : World} {env : List Ent} {x : Ent} (h : St w0 w env) (h' : St w w' [x]) : St w0 w' (x :: env) := h.call h'
theorem St.call2 {w0 w w' : World} {env : List Ent} {x y : Ent} (h : St w0 w env) (h' : St w w' [x, y]) : St w0 w' (x :: y :: env) := h.call h'
theorem St.quiet {w0 w w' : World} {env : List Ent} (h : St w0 w env) (h' : Below w.heap.size w w') : St w0 w' env := ⟨h.own.below h', h.bel.trans (h'.mono h.bel.size)⟩
theorem St.drewN {w0 w : World} {env : List Ent} (h : St w0 w env) (n : Nat) : St w0 (w.drewN n) env := ⟨h.own.drewN n, below_drewN h.bel n⟩
theorem St.mut {w0 w w' : World} {env env' : List Ent} (h : St w0 w env) (ho : Owns w0.heap.size w' env') (hb : Below w0.heap.size w w') : St w0 w' env' := ⟨ho, h.bel.trans hb⟩
theorem St.sub {w0 w : World} {env env' : List Ent} (h : St w0 w env) (hp : env'.Sublist env) : St w0 w env' := ⟨h.own.sub hp, h.bel⟩
theorem St.tail {w0 w : World} {x : Ent} {env : List Ent} (h : St w0 w (x :: env)) : St w0 w env := ⟨h.own.tail, h.bel⟩
theorem St.perm {w0 w : World} {env env' : List Ent} (h : St w0 w env) (hp : env.Perm env') : St w0 w env' := ⟨h.own.perm hp, h.bel⟩
theorem St.swap {w0 w : World} {x y : Ent} {env : List Ent} (h : St w0 w (x :: y :: env)) : St w0 w (y :: x :: env) := ⟨h.own.swap, h.bel⟩
theorem St.bring {w0 w : World} {l1 l2 : List Ent} {x : Ent} (h : St w0 w (l1 ++ x :: l2)) : St w0 w (x :: (l1 ++ l2)) := h.perm List.perm_middle
theorem St.nilRow {w0 w : World} {env : List Ent} (h : St w0 w env) (e : TypeId) : St w0 w (⟨.slice none 0 0, e, []⟩ :: env) := ⟨h.own.nilRow e, h.bel⟩
theorem St.new {w0 w : World} {env : List Ent} (h : St w0 w env) (cs : Array Value) (e : TypeId) (hm : cs.size ≤ maxLen) : St w0 (w.alloc (.cells cs e)) (⟨.slice (some ⟨w.heap.size, 0, none⟩) cs.size cs.size, e, cs.toList⟩ :: env) :=
  ⟨h.own.new cs e hm, h.bel.alloc h.own.base _⟩
theorem St.alloc {w0 w : World} {env : List Ent} (h : St w0 w env) (o : Obj) : St w0 (w.alloc o) env := ⟨h.own.alloc o, h.bel.alloc h.own.base o⟩
theorem St.set {w0 w : World} {v : Value} {e : TypeId} {L : List Value} {env : List Ent} (h : St w0 w (⟨v, e, L⟩ :: env)) (k : Nat) (hk : k < L.length) (u : Value) : St w0 (w.setCell (adr v k) u) (⟨v, e, L.set k u⟩ :: env) :=
  ⟨h.own.set k hk u, h.bel.setCell (h.own.adrBase k hk) u⟩
theorem St.hd {w0 w : World} {v : Value} {e : TypeId} {L : List Value} {env : List Ent} (h : St w0 w (⟨v, e, L⟩ :: env)) : Rd w v L := h.own.hd
theorem St.hd2 {w0 w : World} {x : Ent} {v : Value} {e : TypeId} {L : List Value} {env : List Ent} (h : St w0 w (x :: ⟨v, e, L⟩ :: env)) : Rd w v L := h.own.tail.hd
theorem St.hd3 {w0 w : World} {x y : Ent} {v : Value} {e : TypeId} {L : List Value} {env : List Ent} (h : St w0 w (x :: y :: ⟨v, e, L⟩ :: env)) : Rd w v L := h.own.tail.tail.hd
theorem St.hd4 {w0 w : World} {x y z : Ent} {v : Value} {e : TypeId} {L : List Value} {env : List Ent} (h : St w0 w (x :: y :: z :: ⟨v, e, L⟩ :: env)) : Rd w v L := h.own.tail.tail.tail.hd
theorem St.hd5 {w0 w : World} {x0 x1 x2 x3 : Ent} {v : Value} {e : TypeId} {L : List Value} {env : List Ent} (h : St w0 w (x0 :: x1 :: x2 :: x3 :: ⟨v, e, L⟩ :: env)) : Rd w v L := h.own.tail.tail.tail.tail.hd
theorem St.hd6 {w0 w : World} {x0 x1 x2 x3 x4 : Ent} {v : Value} {e : TypeId} {L : List Value} {env : List Ent} (h : St w0 w (x0 :: x1 :: x2 :: x3 :: x4 :: ⟨v, e, L⟩ :: env)) : Rd w v L := h.own.tail.tail.tail.tail.tail.hd
theorem St.hd7 {w0 w : World} {x0 x1 x2 x3 x4 x5 : Ent} {v : Value} {e : TypeId} {L : List Value} {env : List Ent} (h : St w0 w (x0 :: x1 :: x2 :: x3 :: x4 :: x5 :: ⟨v, e, L⟩ :: env)) : Rd w v L := h.own.tail.tail.tail.tail.tail.tail.hd
theorem St.hd8 {w0 w : World} {x0 x1 x2 x3 x4 x5 x6 : Ent} {v : Value} {e : TypeId} {L : List Value} {env : List Ent} (h : St w0 w (x0 :: x1 :: x2 :: x3 :: x4 :: x5 :: x6 :: ⟨v, e, L⟩ :: env)) : Rd w v L := h.own.tail.tail.tail.tail.tail.tail.tail.hd
theorem St.hd9 {w0 w : World} {x0 x1 x2 x3 x4 x5 x6 x7 : Ent} {v : Value} {e : TypeId} {L : List Value} {env : List Ent} (h : St w0 w (x0 :: x1 :: x2 :: x3 :: x4 :: x5 :: x6 :: x7 :: ⟨v, e, L⟩ :: env)) : Rd w v L := h.own.tail.tail.tail.tail.tail.tail.tail.tail.hd
theorem St.hd10 {w0 w : World} {x0 x1 x2 x3 x4 x5 x6 x7 x8 : Ent} {v : Value} {e : TypeId} {L : List Value} {env : List Ent} (h : St w0 w (x0 :: x1 :: x2 :: x3 :: x4 :: x5 :: x6 :: x7 :: x8 :: ⟨v, e, L⟩ :: env)) : Rd w v L := h.own.tail.tail.tail.tail.tail.tail.tail.tail.tail.hd
theorem St.hd11 {w0 w : World} {x0 x1 x2 x3 x4 x5 x6 x7 x8 x9 : Ent} {v : Value} {e : TypeId} {L : List Value} {env : List Ent} (h : St w0 w (x0 :: x1 :: x2 :: x3 :: x4 :: x5 :: x6 :: x7 :: x8 :: x9 :: ⟨v, e, L⟩ :: env)) : Rd w v L := h.own.tail.tail.tail.tail.tail.tail.tail.tail.tail.tail.hd
theorem St.hd12 {w0 w : World} {x0 x1 x2 x3 x4 x5 x6 x7 x8 x9 x10 : Ent} {v : Value} {e : TypeId} {L : List Value} {env : List Ent} (h : St w0 w (x0 :: x1 :: x2 :: x3 :: x4 :: x5 :: x6 :: x7 :: x8 :: x9 :: x10 :: ⟨v, e, L⟩ :: env)) : Rd w v L := h.own.tail.tail.tail.tail.tail.tail.tail.tail.tail.tail.tail.hd
/-- What could be read when the call began can be read still. -/
theorem St.old {w0 w : World} {env : List Ent} (h : St w0 w env) {v : Value} {L : List Value} (hr : Rd w0 v L) : Rd w v L := hr.below h.bel

/-! ### Cuts of a slice -/

/-- v[:h] -/
def upTo (v : Value) (h : Nat) : Value :=
  match v with
  | .slice a _ c => .slice a h c
  | v => v
/-- v[l:], elements of one cell -/
def fromTo (v : Value) (l : Nat) : Value :=
  match v with
  | .slice a n c => .slice (if c = l then a else a.map (·.add l)) (n - l) (c - l)
  | v => v

theorem Rd.upTo {w : World} {v : Value} {L : List Value} (hr : Rd w v L) {h : Nat} (hh : h ≤ L.length) : Rd w (upTo v h) (L.take h) := by
  rcases hr with ⟨rfl, rfl⟩ | ⟨a, cap, rfl, h1, h2, hc⟩
  · simp only [List.length_nil, Nat.le_zero] at hh
    subst hh
    exact .inl ⟨rfl, rfl⟩
  · have e : (L.take h).length = h := by simp; omega
    refine .inr ⟨a, cap, by rw [e]; rfl, by omega, h2, fun j hj => ⟨?_, (hc j (by omega)).2⟩⟩
    rw [(hc j (by omega)).1, List.getElem?_take, if_pos (by omega)]
theorem Rd.iupTo {w : World} {v : Value} {xs : List Int} (hr : Rd w v (ints xs)) {h : Nat} (hh : h ≤ xs.length) : Rd w (Go.Proofs.Ytjaofbdfhcgmeaa.upTo v h) (ints (xs.take h)) := by
  have := hr.upTo (h := h) (by simpa using hh)
  simpa [ints, List.map_take] using this
theorem Rd.fromTo {w : World} {v : Value} {L : List Value} (hr : Rd w v L) {l : Nat} (hl : l ≤ L.length) : Rd w (fromTo v l) (L.drop l) := by
  rcases hr with ⟨rfl, rfl⟩ | ⟨a, cap, rfl, h1, h2, hc⟩
  · simp only [List.length_nil, Nat.le_zero] at hl
    subst hl
    exact .inl ⟨rfl, rfl⟩
  · have e : (L.drop l).length = L.length - l := by simp
    by_cases hcl : cap = l
    · have : L.length - l = 0 := by omega
      refine .inr ⟨a, cap - l, ?_, by omega, by omega, fun j hj => by omega⟩
      simp [Go.Proofs.Ytjaofbdfhcgmeaa.fromTo, hcl]
    · refine .inr ⟨a.add l, cap - l, ?_, by omega, by omega, fun j hj => ?_⟩
      · simp [Go.Proofs.Ytjaofbdfhcgmeaa.fromTo, hcl]
      · have hlt : l + j < L.length := by omega
        have h3 := hc (l + j) hlt
        have h4 := hc l (by omega)
        rw [h4.2]
        refine ⟨?_, by rw [Addr.add_lit]⟩
        simp only []
        rw [Nat.add_assoc, h3.1, List.getElem?_drop]
theorem Rd.ifromTo {w : World} {v : Value} {xs : List Int} (hr : Rd w v (ints xs)) {l : Nat} (hl : l ≤ xs.length) : Rd w (Go.Proofs.Ytjaofbdfhcgmeaa.fromTo v l) (ints (xs.drop l)) := by
  have := hr.fromTo (l := l) (by simpa using hl)
  simpa [ints, List.map_drop] using this

theorem run_sizeOf {P : Program} {t e : TypeId} {z : Value} (T : SlT P t e z) (w : World) : (sizeOf (P.elem t)).run P w = .ok 1 w := by
  obtain ⟨i, hi, _, hs, _⟩ := T.info
  rw [T.el]
  simp [sizeOf, typeInfo, hi, hs]

theorem Rd.runUpTo {w : World} {v : Value} {L : List Value} (hr : Rd w v L) {P : Program} {t e : TypeId} {z : Value} (T : SlT P t e z) (h : Nat) (hh : h ≤ L.length) (w' : World) :
    (Instr.sliceAt t v none (some (.int .i64 (h : Int))) none).run P w' = .ok (Go.Proofs.Ytjaofbdfhcgmeaa.upTo v h) w' := by
  rw [run_sliceAt_slice _ _ _ _ _ _ T.und]
  rcases hr with ⟨rfl, rfl⟩ | ⟨a, cap, rfl, h1, h2, hc⟩
  · simp only [List.length_nil, Nat.le_zero] at hh
    subst hh
    rw [run_slice_h w' t none 0 0 T.und .i64 _ (by omega) (by omega), run_sizeOf T]
    simp [Result.andThen, sliced, Go.Proofs.Ytjaofbdfhcgmeaa.upTo]
  · rw [run_slice_h w' t (some a) _ cap T.und .i64 _ (by omega) (by omega), run_sizeOf T]
    by_cases hc0 : cap = 0
    · simp [Result.andThen, sliced, Go.Proofs.Ytjaofbdfhcgmeaa.upTo, hc0]
    · simp [Result.andThen, sliced, Go.Proofs.Ytjaofbdfhcgmeaa.upTo, hc0, Addr.add]
theorem Rd.runFrom {w : World} {v : Value} {L : List Value} (hr : Rd w v L) {P : Program} {t e : TypeId} {z : Value} (T : SlT P t e z) (l : Nat) (hl : l ≤ L.length) (w' : World) :
    (Instr.sliceAt t v (some (.int .i64 (l : Int))) none none).run P w' = .ok (Go.Proofs.Ytjaofbdfhcgmeaa.fromTo v l) w' := by
  rw [run_sliceAt_slice _ _ _ _ _ _ T.und]
  rcases hr with ⟨rfl, rfl⟩ | ⟨a, cap, rfl, h1, h2, hc⟩
  · simp only [List.length_nil, Nat.le_zero] at hl
    subst hl
    rw [run_slice_l w' t none 0 0 T.und .i64 _ (by omega) (by omega), run_sizeOf T]
    simp [Result.andThen, sliced, Go.Proofs.Ytjaofbdfhcgmeaa.fromTo]
  · rw [run_slice_l w' t (some a) _ cap T.und .i64 _ (by omega) (by omega), run_sizeOf T]
    simp [Result.andThen, sliced, Go.Proofs.Ytjaofbdfhcgmeaa.fromTo]

/-! ### Later worlds: a region that draws its order, reads, and calls what makes memory of its own -/

structure Later (w : World) where
  to : World
  bel : Below w.heap.size w to

instance (w : World) : Nonempty (Later w) := ⟨⟨w, Below.refl _ _⟩⟩
theorem Later.cell {w : World} (n : Later w) {a : Addr} {v : Value} (h : w.cell? a = some v) : n.to.cell? a = some v := (n.bel.cell (World.block_lt_of_cell? _ _ h)).trans h
theorem Rd.later {w : World} {v : Value} {L : List Value} (h : Rd w v L) (n : Later w) : Rd n.to v L := h.below n.bel
/-- The cell of an own or a read slice, in every later world. -/
theorem Rd.laterCell {w : World} {v : Value} {xs : List Int} (h : Rd w v (ints xs)) (k : Nat) (hk : k < xs.length) (n : Later w) : n.to.cell? (adr v k) = some (.int .i64 (gi xs k)) := n.cell (h.intCell k hk)

theorem wp_region_later {P : Program} {id : Nat} {Q : Exit → Act → World → Prop} {a : Act} {w : World} {l : List Oper} (hm : P.follows .mixedOrders = true) (hB : Region.lexB .any l.toArray = true)
    (h : wpQuiet P l.toArray (fun u => ∃ n : Later w, u = n.to) (fun a' => ∀ w', (∃ n : Later w, w' = n.to) → Q .normal a' w') l a) : (Code.region id l.toArray true).wp P Q a w :=
  wp_region_quiet (C := fun u => ∃ n : Later w, u = n.to) hm hB ⟨⟨w.drew, (Below.refl _ _).drew⟩, rfl⟩ (by simpa using h)

theorem later_same {P : Program} {f : FuncId} {args : Array Value} {w : World} {n : Later w} {v : Value}
    (h : Calls P f args n.to fun e w' => e = .returned v ∧ n.to = w') : Calls P f args n.to fun e w'' => e = .returned v ∧ ∃ m : Later w, w'' = m.to :=
  h.mono fun _ _ ⟨he, hm⟩ => ⟨he, n, hm.symm⟩
theorem later_drewN {P : Program} {f : FuncId} {args : Array Value} {w : World} {n : Later w} {v : Value}
    (h : Calls P f args n.to fun e w' => e = .returned v ∧ ∃ k, w' = n.to.drewN k) : Calls P f args n.to fun e w'' => e = .returned v ∧ ∃ m : Later w, w'' = m.to :=
  h.mono fun _ _ ⟨he, k, hm⟩ => ⟨he, ⟨n.to.drewN k, below_drewN n.bel k⟩, hm⟩
theorem later_below {P : Program} {f : FuncId} {args : Array Value} {w : World} {n : Later w} {v : Value}
    (h : Calls P f args n.to fun e w' => e = .returned v ∧ Below n.to.heap.size n.to w') : Calls P f args n.to fun e w'' => e = .returned v ∧ ∃ m : Later w, w'' = m.to :=
  h.mono fun _ w' ⟨he, hb⟩ => ⟨he, ⟨w', n.bel.trans (hb.mono n.bel.size)⟩, rfl⟩

theorem quiet_same {P : Program} {f : FuncId} {args : Array Value} {w : World} {n : Nat} {v : Value}
    (h : Calls P f args (w.drewN n) fun e w' => e = .returned v ∧ w.drewN n = w') : Calls P f args (w.drewN n) fun e w'' => e = .returned v ∧ ∃ m, w'' = w.drewN m :=
  h.mono fun _ _ ⟨he, hm⟩ => ⟨he, n, hm.symm⟩

/-! ### append, make -/

theorem rd_cells {w : World} {sv : Value} {N : List Value} (hs : Rd w sv N) : (sv = .slice none 0 0 ∧ N = []) ∨ ∃ a c, sv = .slice (some a) N.length c ∧ ∀ j u, N[j]? = some u → w.cell? (a.add j) = some u := by
  rcases hs with h | ⟨a, cap, rfl, _, _, hc⟩
  · exact .inl h
  · refine .inr ⟨_, _, rfl, fun j u hu => ?_⟩
    have h := hc j (List.getElem?_eq_some_iff.1 hu).1
    rw [h.2, h.1, hu]

theorem run_app {P : Program} {t e : TypeId} {z : Value} (T : SlT P t e z) {B : Nat} {w : World} {v : Value} {L : List Value} {env : List Ent} (hO : Owns B w (⟨v, e, L⟩ :: env)) {sv : Value} {N : List Value} (hs : Rd w sv N)
    (h1 : ∀ u ∈ N, u.oneCell' = true) (hlen : L.length + N.length ≤ 1099511627776) (ty : TypeId) :
    ∃ v' w', (Builtin.append_ #[t, t] ty #[v, sv]).run P w = .ok v' w' ∧ Owns B w' (⟨v', e, L ++ N⟩ :: env) ∧ Below B w w' := by
  obtain ⟨i, hi, hz, hsize, hby⟩ := T.info
  have ho := hO.own _ (List.mem_cons_self ..)
  have hgrow : ∀ (old : Nat), old < L.length + N.length →
      (w.drew.alloc (.cells (L.toArray ++ N.toArray ++ Builtin.zeroCells z.cells (grownCap w (L.length + N.length) old e - (L.length + N.length))) e)).ownsRow B e 1
        (.slice (some ⟨w.heap.size, 0, none⟩) (L.length + N.length) (grownCap w (L.length + N.length) old e)) (L ++ N).length (L ++ N) ∧
      w.grownBy (w.drew.alloc (.cells (L.toArray ++ N.toArray ++ Builtin.zeroCells z.cells (grownCap w (L.length + N.length) old e - (L.length + N.length))) e)) v.ownBlock := by
    intro old _
    have hge := grownCap_ge w (L.length + N.length) old e
    have hcm : grownCap w (L.length + N.length) old e ≤ maxLen := grownCap_le_maxLen w _ old e (by unfold maxLen; omega)
    refine ⟨⟨by simp, .inr ⟨w.heap.size, _, _, by rw [List.length_append], hO.base, heap_alloc_new w.drew _, by rw [List.length_append]; exact hge, hcm, ?_, ?_⟩⟩, ⟨rfl, rfl, rfl, by simp, fun k hk _ => by
      show (w.heap.push _)[k]? = _
      rw [Array.getElem?_push, if_neg (by omega)]⟩⟩
    · simp only [Array.size_append, List.size_toArray, size_zeroCells, T.cells, List.length_singleton]
      omega
    · simp only [Array.toList_append, List.append_assoc, Nat.mul_one]
      rw [← List.append_assoc]
      exact List.take_left
  rcases rd_cells hs with ⟨rfl, rfl⟩ | ⟨a, c, rfl, hnews⟩
  · refine ⟨v, w, run_append_owned_none (P := P) w B t ty e i 1 T.und' hi v L.length L ho, by simpa using hO, Below.refl _ _⟩
  · rcases ho.2 with ⟨hv, h0⟩ | ⟨g, cap, cur, hv, hbg, hg, hnc, hcm, hcs, htake⟩
    · simp only at hv h0
      subst hv
      have hL : L = [] := List.eq_nil_of_length_eq_zero h0
      subst hL
      by_cases hm : N.length = 0
      · have hN : N = [] := List.eq_nil_of_length_eq_zero hm
        subst hN
        refine ⟨.slice none 0 0, w, ?_, by simpa using hO, Below.refl _ _⟩
        simp [Builtin.append_, run_underlying T.und', sizeOf, typeInfo, hi, Builtin.lenOf, Builtin.firstCells, loadCells, loadCellsFrom]
      · have hr := run_append_nil (P := P) w t ty e i z T.und' hi hz a N.length c N (by simp [hsize]) hnews (by omega) (by simp only [List.length_nil] at hlen; omega)
          (Nat.le_trans (Nat.mul_le_mul_left _ hby) (by simp only [List.length_nil] at hlen; omega))
        have hgr := hgrow 0 (by omega)
        simp only [Array.empty_append, List.length_nil, Nat.zero_add, List.nil_append] at hgr ⊢
        exact ⟨_, _, hr, hO.grown hgr.2 hgr.1 (.inr fun g hg => by simp [Value.ownBlock] at hg; omega), below_of_grown hO hgr.2⟩
    · simp only at hv hg hnc hcs htake
      subst hv
      by_cases hroom : L.length + N.length ≤ cap
      · have hr := run_append_room (P := P) w t ty e i T.und' hi g L.length cap cur hg a N.length c N (by simp [hsize]) hnews h1 hroom (by rw [hsize]; omega)
        have hgb : w.grownBy (w.setRow g (cur.toList.take (L.length * i.size) ++ N ++ cur.toList.drop (L.length * i.size + N.length)).toArray) (some g) :=
          ⟨rfl, rfl, rfl, by simp, fun k _ hk => setRow_other w g k _ (fun e => hk (by simp [e]))⟩
        refine ⟨_, _, hr, hO.grown hgb ?_ (.inl rfl), below_of_grown hO hgb⟩
        refine ⟨by simp, .inr ⟨g, cap, _, by rw [List.length_append], hbg, setRow_heap w g cur _ e _ hg, by rw [List.length_append]; exact hroom, hcm, ?_, ?_⟩⟩
        · simp only [List.size_toArray, List.length_append, List.length_take, List.length_drop, Array.length_toList, hsize]
          omega
        · simp only [hsize]
          rw [htake, Nat.mul_one]
          exact List.take_left
      · have hr := run_append_grow (P := P) w t ty e i z T.und' hi hz ⟨g, 0, none⟩ L.length cap L (by simp [hsize]) (fun j u hu => by
            have hj := (List.getElem?_eq_some_iff.1 hu).1
            have := (hO.hd).cell j hj
            rw [Addr.add_lit]
            simpa [adr, hu] using this) a N.length c N (by simp [hsize]) hnews (by omega) (by omega)
          (growslice_fits (by omega) (Nat.le_trans (Nat.mul_le_mul_left _ hby) (by omega)))
        have hgr := hgrow cap (by omega)
        exact ⟨_, _, hr, hO.grown hgr.2 hgr.1 (.inr fun g' hg' => by simp [Value.ownBlock] at hg'; omega), below_of_grown hO hgr.2⟩

/-- 'x = append(s, ys...)' in the walk. -/
theorem wpList_app {P : Program} {w : World} {ops : Array Oper} {rest : List Oper} {o : Oper} {a : Act} {Q : Exit → Act → World → Prop} (hgd : o.guard = none) (s x : Operand) {t : TypeId}
    (ho : o.op = .call { callee := .builtin .append, args := #[s, x], argTypes := #[t, t] }) {e : TypeId} {z : Value} (T : SlT P t e z) {B : Nat} {v : Value} {L : List Value} {env : List Ent} (hO : Owns B w (⟨v, e, L⟩ :: env))
    {sv : Value} {N : List Value} (hs : Rd w sv N) (h1 : ∀ u ∈ N, u.oneCell' = true) (hlen : L.length + N.length ≤ 1099511627776) (hv : a.eval s = v) (hx : a.eval x = sv)
    (h : ∀ v' w', Owns B w' (⟨v', e, L ++ N⟩ :: env) → Below B w w' → wpList P ops Q rest (a.put o.dst v') w') : wpList P ops Q (o :: rest) a w := by
  refine wpList_plain hgd fun K hK => ?_
  obtain ⟨v', w', hr, h2, h3⟩ := run_app T hO hs h1 hlen o.type
  unfold Oper.wp execOp
  simp only [ho, resolve, invoke, builtin, Sem.run_bind, Sem.run_pure, Result.andThen_ok, List.map_toArray, List.map_cons, List.map_nil, hv, hx, hr]
  exact hK _ _ (h v' w' h2 h3)

/-- 'x = append(s, u)': the new cell lies in a box that has just been made. -/
theorem wpList_push {P : Program} {w : World} {ops : Array Oper} {rest : List Oper} {o : Oper} {a : Act} {Q : Exit → Act → World → Prop} (hgd : o.guard = none) (s x : Operand) {t : TypeId}
    (ho : o.op = .call { callee := .builtin .append, args := #[s, x], argTypes := #[t, t] }) {e : TypeId} {z : Value} (T : SlT P t e z) {B : Nat} {v : Value} {L : List Value} {env : List Ent} (hO : Owns B w (⟨v, e, L⟩ :: env))
    (u : Value) {e' : TypeId} (h1 : u.oneCell' = true) (hlen : L.length < 1099511627776) (hv : a.eval s = v) (hx : a.eval x = .slice (some ⟨w.heap.size, 0, none⟩) 1 1)
    (h : ∀ v' w', Owns B w' (⟨v', e, L ++ [u]⟩ :: env) → Below B w w' → wpList P ops Q rest (a.put o.dst v') w') : wpList P ops Q (o :: rest) a (w.alloc (.cells #[u] e')) := by
  have hO' := hO.alloc (.cells #[u] e')
  have hn := (hO.new #[u] e' (by simp [maxLen])).hd
  exact wpList_app hgd s x ho T hO' (N := [u]) hn (by simpa using h1) (by simp; omega) hv hx fun v' w' h2 h3 => h v' w' h2 (((Below.refl B w).alloc hO.base _).trans h3)

/-- 'append' as a step of a region that draws its order. -/
theorem step_app {P : Program} {ops : Array Oper} {o : Oper} {a : Act} {w : World} {K : Act → World → Prop} {Q : Exit → Act → World → Prop} {E : Prop} (hg : o.guard = none) (s x : Operand) {t : TypeId}
    (ho : o.op = .call { callee := .builtin .append, args := #[s, x], argTypes := #[t, t] }) {e : TypeId} {z : Value} (T : SlT P t e z) {B : Nat} {v : Value} {L : List Value} {env : List Ent} (hO : Owns B w (⟨v, e, L⟩ :: env))
    {sv : Value} (N : List Value) (hs : Rd w sv N) (h1 : ∀ u ∈ N, u.oneCell' = true) (hlen : L.length + N.length ≤ 1099511627776) (hv : a.eval s = v) (hx : a.eval x = sv)
    (h : ∀ v' w', Owns B w' (⟨v', e, L ++ N⟩ :: env) → Below B w w' → K (a.put o.dst v') w') : if Region.wanted o (yielded ops a.tmps) = true then Oper.wp P o a w K Q else E := by
  have hw : Region.wanted o (yielded ops a.tmps) = true := by simp [Region.wanted, hg]
  rw [if_pos hw]
  obtain ⟨v', w', hr, h2, h3⟩ := run_app T hO hs h1 hlen o.type
  unfold Oper.wp execOp
  simp only [ho, resolve, invoke, builtin, Sem.run_bind, Sem.run_pure, Result.andThen_ok, List.map_toArray, List.map_cons, List.map_nil, hv, hx, hr]
  exact h v' w' h2 h3

/-- 'make([]T, n)' in the walk. -/
theorem wpList_mk {P : Program} {w : World} {ops : Array Oper} {rest : List Oper} {o : Oper} {a : Act} {Q : Exit → Act → World → Prop} (hgd : o.guard = none) (l c : Operand) {t : TypeId} (hop : o.op = Op.makeSlice t l c)
    {e : TypeId} {z : Value} (T : SlT P t e z) {B : Nat} {env : List Ent} (hO : Owns B w env) (n : Nat) (hn : n ≤ 1099511627776) (hl : a.eval l = .int .i64 (n : Int)) (hc : a.eval c = .int .i64 (n : Int))
    (h : ∀ v' w', Owns B w' (⟨v', e, List.replicate n z⟩ :: env) → Below w.heap.size w w' → wpList P ops Q rest (a.put o.dst v') w') : wpList P ops Q (o :: rest) a w := by
  obtain ⟨i, hi, hz, hsize, hby⟩ := T.info
  refine wpList_make_full w hgd l c t hop w.heap.size e i z 1 T.und' hi hz hsize .i64 .i64 (n : Int) (n : Int) n hl hc rfl rfl (Nat.le_trans (Nat.mul_le_mul_right _ hby) (by omega)) (by unfold maxLen; omega) (Nat.le_refl _) fun w' h1 h2 => ?_
  have hb : Below w.heap.size w w' := (Below.refl _ w).grown h2 (Nat.le_refl _) (by intro k hk; cases hk)
  refine h _ _ ?_ hb
  rw [T.cells, Nat.mul_one, toList_madeCells_one] at h1
  have h3 : Owns w.heap.size w' [⟨.slice (some ⟨w.heap.size, 0, none⟩) n n, e, List.replicate n z⟩] :=
    ⟨hb.size, by
      intro x hx
      rw [List.mem_singleton.1 hx]
      simpa using h1, List.pairwise_singleton _ _⟩
  exact hO.join hb h3

end Go.Proofs.Ytjaofbdfhcgmeaa
