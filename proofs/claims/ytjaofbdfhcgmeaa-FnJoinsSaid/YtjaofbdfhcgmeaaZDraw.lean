/-
  The cursor of a draw: made, and asked for a byte and for a number below another.
  Drawn sets and drawn complexes of a given number of points.
  Drawn complexes of a given number of points.
  Drawn complexes whose facets have one size.
  Texts: cut at a byte, read as a set.
  Numbers written as texts.
  Texts read as numbers.
  Complexes read from texts.
  Drawn complexes.
-/
import Derived.Test.YtjaofbdfhcgmeaaCx
import Derived.Deep.RegionHeld3
import Derived.Laws.Strings2
import Derived.Laws.Concat
import Derived.Laws.BytesArg
import Derived.Test.YtjaofbdfhcgmeaaCy
import Derived.Deep.RegionLaw
namespace Go.Proofs.Ytjaofbdfhcgmeaa
open Go.RowKit

def byts (bs : List Int) : List Value := bs.map (Value.int .u8)
theorem length_byts (bs : List Int) : (byts bs).length = bs.length := by simp [byts]
attribute [simp] length_byts
theorem tU : SlT Try.prog 22 5 (.int .u8 0) := slT_mk (b := 1) (by kernel_rfl) (by kernel_rfl) rfl (by omega)
/-- The cursor, as a row of three cells, and a pointer to it. -/
def cu (g : Nat) : Value := .slice (some ⟨g, 0, none⟩) 3 3
def cp (g : Nat) : Value := .pointer (some ⟨g, 0, none⟩)
theorem Rd.u0 {w : World} {b : Nat} {x y z : Value} (h : Rd w (cu b) [x, y, z]) : w.cell? ⟨b, 0, none⟩ = some x := h.cell 0 (by simp)
theorem Rd.u1 {w : World} {b : Nat} {x y z : Value} (h : Rd w (cu b) [x, y, z]) : w.cell? ⟨b, 1, none⟩ = some y := h.cell 1 (by simp)
theorem Rd.u2 {w : World} {b : Nat} {x y z : Value} (h : Rd w (cu b) [x, y, z]) : w.cell? ⟨b, 2, none⟩ = some z := h.cell 2 (by simp)

/-- A cursor at g over the bytes bs, in w; the rest of what is owned is env. -/
def Cr (w0 w : World) (g : Nat) (vb : Value) (bs : List Int) (env : List Ent) : Prop :=
  Rd w0 vb (byts bs) ∧ ∃ (i : Nat) (h : Int), i ≤ bs.length ∧ St w0 w (⟨cu g, 101, [vb, .int .i64 i, .int .i64 h]⟩ :: env)

theorem i64_and255 (n : Int) : bits .and .i64 n 255 = n % 256 := by
  have h127 : (BitVec.ofInt 64 255).toNat = 2 ^ 8 - 1 := by decide
  have key : (BitVec.ofInt 64 n &&& BitVec.ofInt 64 255).toNat = (n % ((2 ^ 64 : Nat) : Int)).toNat % 2 ^ 8 := by
    rw [BitVec.toNat_and, BitVec.toNat_ofInt, h127, Nat.and_two_pow_sub_one_eq_mod]
  show IntKind.i64.wrap ((BitVec.ofInt 64 n &&& BitVec.ofInt 64 255).toNat : Nat) = n % 256
  rw [key, IntKind.wrap_i64]
  omega
theorem and255_rng (n : Int) : 0 ≤ bits .and .i64 n 255 ∧ bits .and .i64 n 255 ≤ 255 := by rw [i64_and255]; omega

set_option maxHeartbeats 1000000 in
set_option maxRecDepth 100000 in
theorem l1New_c (vb : Value) (bs : List Int) (w0 w : World) (env : List Ent) (hS : St w0 w env) (hb : Rd w0 vb (byts bs)) : Calls Try.prog 96 #[vb] w fun e w' => ∃ g, e = .returned (cp g) ∧ Cr w0 w' g vb bs env := by
  have hb' := hS.old hb
  obtain ⟨pb, lb, kb, rfl⟩ := hb.form
  have la := hb'.ln tU
  rw [length_byts] at la
  have ll : bs.length ≤ 9223372036854775807 := by have := hb.le; simp [maxLen] at this; omega
  have HS := hid hS
  clear hS
  go_enter Try.func96, Try.ntmps96
  go_wp2_with fail
  go_loop [3, 4] (fun h i => ∃ (j : Nat) (z : Int), j ≤ bs.length ∧ i = .int .i64 j ∧ h = .int .i64 z) (fun _ i => bs.length - (intOf i).toNat)
  case atStart => exact ⟨0, _, Nat.zero_le _, rfl, rfl⟩
  case round =>
    obtain ⟨j, z, hj, rfl, rfl⟩ := hrel
    by_cases hlt : j < bs.length
    · by_cases h4 : (j : Int) < 4000
      · have f1 := hb'.ix tU j (by simpa using hlt)
        have f2 := hb'.cell j (by simpa using hlt)
        have f3 : (byts bs)[j]? = some (.int .u8 (gi bs j)) := by simp [byts, gi, List.getD, hlt]
        rw [f3] at f2
        clear f3
        go_wp2_with fail
        go_round
        case rel => exact ⟨j + 1, _, by omega, by go_num, rfl⟩
        case measure => simp [intOf]; omega
      · have h4' : decide ((j : Int) < 4000) = false := decide_eq_false h4
        go_wp2_with fail
        go_ret
        exact ⟨_, rfl, hb, 0, _, Nat.zero_le _, HS.out.newAt #[.slice pb lb kb, .int .i64 0, .int .i64 z] _ (by simp [maxLen]) rfl⟩
    · go_wp2_with fail
      go_ret
      exact ⟨_, rfl, hb, 0, _, Nat.zero_le _, HS.out.newAt #[.slice pb lb kb, .int .i64 0, .int .i64 z] _ (by simp [maxLen]) rfl⟩

set_option maxHeartbeats 2000000 in
set_option maxRecDepth 100000 in
theorem l1Byte_c (g : Nat) (vb : Value) (bs : List Int) (w0 w : World) (env : List Ent) (hC : Cr w0 w g vb bs env) : Calls Try.prog 156 #[cp g] w fun e w' => ∃ x, e = .returned (.int .i64 x) ∧ (0 ≤ x ∧ x ≤ 255) ∧ Cr w0 w' g vb bs env := by
  obtain ⟨hb, i, h, hi, hS⟩ := hC
  obtain ⟨pb, lb, kb, rfl⟩ := hb.form
  have ll : bs.length ≤ 9223372036854775807 := by have := hb.le; simp [maxLen] at this; omega
  have u2 := hS.hd.u2
  have s2 : w.frozen? ⟨g, 2, none⟩ = false := hS.own.free (v := cu g) (.head _) 2 (by simp)
  have HS := hid hS
  clear hS
  unfold cp
  go_enter Try.func156, Try.ntmps156
  go_wp2_with fail
  have hS1 : St w0 (w.setCell ⟨g, 2, none⟩ (.int .i64 (wrap64 (wrap64 (h * 6364136223846793005) + 1442695040888963407)))) _ := HS.out.set 2 (by simp) (.int .i64 (wrap64 (wrap64 (h * 6364136223846793005) + 1442695040888963407)))
  have k0 := hS1.hd.u0
  have k1 := hS1.hd.u1
  have k2 := hS1.hd.u2
  have s1 := hS1.own.free (v := cu g) (.head _) 1 (by simp)
  have s1' : (w.setCell ⟨g, 2, none⟩ (.int .i64 (wrap64 (wrap64 (h * 6364136223846793005) + 1442695040888963407)))).frozen? ⟨g, 1, none⟩ = false := s1
  have HS1 := hid hS1
  clear hS1 u2 s2 HS s1
  generalize wrap64 (wrap64 (h * 6364136223846793005) + 1442695040888963407) = h1 at *
  generalize w.setCell ⟨g, 2, none⟩ (.int .i64 h1) = w1 at *
  have la := (HS1.out.old hb).ln tU
  rw [length_byts] at la
  by_cases hlt : i < bs.length
  · have f1 := (HS1.out.old hb).ix tU i (by simpa using hlt)
    have f2 := (HS1.out.old hb).cell i (by simpa using hlt)
    have f3 : (byts bs)[i]? = some (.int .u8 (gi bs i)) := by simp [byts, gi, List.getD, hlt]
    rw [f3] at f2
    clear f3
    have hlt' : (i : Int) < (bs.length : Int) := by omega
    go_region
    go_wp2_with fail
    go_region
    go_wp2_with fail
    go_region
    go_wp2_with fail
    go_ret
    have hS2 := (HS1.out.drewN 3).set 1 (by simp) (.int .i64 ((i + 1 : Nat) : Int))
    exact ⟨_, rfl, and255_rng _, hb, i + 1, h1, by omega, hS2⟩
  · have hlt' : decide ((i : Int) < (bs.length : Int)) = false := decide_eq_false (by omega)
    go_region
    go_wp2_with fail
    go_region
    go_wp2_with fail
    go_ret
    exact ⟨_, rfl, and255_rng _, hb, i, h1, hi, HS1.out.drewN 2⟩

def belowP (n x : Int) : Prop := (n ≤ 0 ∧ x = 0) ∨ (0 < n ∧ 0 ≤ x ∧ x < n)
theorem belowP.rng {n x : Int} (h : belowP n x) (hn : 0 < n) : 0 ≤ x ∧ x < n := by
  rcases h with h | h
  · omega
  · exact h.2
set_option maxHeartbeats 1000000 in
set_option maxRecDepth 100000 in
theorem l1Below_c (n : Int) (g : Nat) (vb : Value) (bs : List Int) (w0 w : World) (env : List Ent) (hC : Cr w0 w g vb bs env) : Calls Try.prog 98 #[cp g, .int .i64 n] w fun e w' => ∃ x, e = .returned (.int .i64 x) ∧ belowP n x ∧ Cr w0 w' g vb bs env := by
  have HC := hid hC
  clear hC
  have HK : Hid (∀ w, Cr w0 w g vb bs env → Calls Try.prog 156 #[cp g] w fun e w' => ∃ x, e = .returned (.int .i64 x) ∧ (0 ≤ x ∧ x ≤ 255) ∧ Cr w0 w' g vb bs env) := fun w h => l1Byte_c g vb bs w0 w env h
  unfold cp at HK ⊢
  by_cases h0 : n ≤ 0
  · go_enter Try.func98, Try.ntmps98
    go_wp2_with fail
    go_ret
    exact ⟨_, rfl, .inl ⟨h0, rfl⟩, HC.out⟩
  · have hn0 : (n == 0) = false := by simp; omega
    by_cases h1 : n ≤ 256
    · go_enter Try.func98, Try.ntmps98
      go_wp2_with fail
      refine (HK.out _ HC.out).mono ?_
      rintro e w1 ⟨x, rfl, hx, hC1⟩
      have HC1 := hid hC1
      have HX := hid hx
      obtain ⟨x0, x1⟩ := hx
      clear hC1
      go_wp2_with fail
      go_ret
      refine ⟨_, rfl, .inr ⟨by omega, ?_⟩, HC1.out⟩
      exact ⟨Int.emod_nonneg _ (by omega), Int.emod_lt_of_pos _ (by omega)⟩
    · go_enter Try.func98, Try.ntmps98
      go_wp2_with fail
      refine (HK.out _ HC.out).mono ?_
      rintro e w1 ⟨x, rfl, ⟨x0, x1⟩, hC1⟩
      have HC1 := hid hC1
      clear hC1
      go_wp2_with fail
      refine (HK.out _ HC1.out).mono ?_
      rintro e w2 ⟨y, rfl, ⟨y0, y1⟩, hC2⟩
      have HC2 := hid hC2
      clear hC2
      go_wp2_with fail
      refine (HK.out _ HC2.out).mono ?_
      rintro e w3 ⟨z, rfl, ⟨z0, z1⟩, hC3⟩
      have HC3 := hid hC3
      clear hC3
      go_wp2_with fail
      refine (HK.out _ HC3.out).mono ?_
      rintro e w4 ⟨t, rfl, ⟨t0, t1⟩, hC4⟩
      have HC4 := hid hC4
      clear hC4
      go_wp2_with fail
      go_ret
      refine ⟨_, rfl, .inr ⟨by omega, ?_⟩, HC4.out⟩
      try rw [Int.tmod_eq_emod_of_nonneg (by omega)]
      exact ⟨Int.emod_nonneg _ (by omega), Int.emod_lt_of_pos _ (by omega)⟩

set_option maxHeartbeats 1000000 in
set_option maxRecDepth 100000 in
theorem l1Once_c (n : Int) (g : Nat) (vb : Value) (bs : List Int) (w0 w : World) (env : List Ent) (hC : Cr w0 w g vb bs env) : Calls Try.prog 118 #[cp g, .int .i64 n] w fun e w' => ∃ b, e = .returned (.bool b) ∧ Cr w0 w' g vb bs env := by
  have HK := hid (l1Below_c n g vb bs w0 w env hC)
  clear hC
  unfold cp at HK ⊢
  go_enter Try.func118, Try.ntmps118
  go_wp2_with fail
  refine HK.out.mono ?_
  rintro e w1 ⟨x, rfl, _, hC1⟩
  have HC1 := hid hC1
  clear hC1
  go_wp2_with fail
  go_ret
  exact ⟨_, rfl, HC1.out⟩

/-- An entry of what is owned beside a cursor. -/
theorem Cr.rd {w0 w : World} {g : Nat} {vb : Value} {bs : List Int} {env : List Ent} (h : Cr w0 w g vb bs env) {v : Value} {e : TypeId} {L : List Value} (hv : ⟨v, e, L⟩ ∈ env) : Rd w v L := by
  obtain ⟨_, i, z, _, hS⟩ := h
  exact hS.own.rd (List.mem_cons_of_mem _ hv)
/-- What stands beside the cursor goes on by a lemma on 'St'. -/
theorem Cr.map {w0 w w' : World} {g : Nat} {vb : Value} {bs : List Int} {env env' : List Ent} (h : Cr w0 w g vb bs env) (f : ∀ x : Ent, St w0 w (x :: env) → St w0 w' (x :: env')) : Cr w0 w' g vb bs env' := by
  obtain ⟨hb, i, z, hi, hS⟩ := h
  exact ⟨hb, i, z, hi, f _ hS⟩
set_option maxHeartbeats 1000000 in
set_option maxRecDepth 100000 in
theorem l1PickInt_c (vl : Value) (xs : List Int) (g : Nat) (vb : Value) (bs : List Int) (w0 w : World) (env : List Ent) (hv : ⟨vl, 3, ints xs⟩ ∈ env) (hx : 0 < xs.length) (hC : Cr w0 w g vb bs env) :
    Calls Try.prog 97 #[cp g, vl] w fun e w' => ∃ x, e = .returned (.int .i64 x) ∧ x ∈ xs ∧ Cr w0 w' g vb bs env := by
  have HK := hid (l1Below_c xs.length g vb bs w0 w env hC)
  have la := (hC.rd hv).iln tI
  clear hC
  unfold cp at HK ⊢
  go_enter Try.func97, Try.ntmps97
  go_wp2_with fail
  refine HK.out.mono ?_
  rintro e w1 ⟨x, rfl, hb, hC1⟩
  obtain ⟨b0, b1⟩ := hb.rng (by omega)
  obtain ⟨j, rfl⟩ : ∃ j : Nat, x = j := ⟨x.toNat, by omega⟩
  have hj : j < xs.length := by omega
  have f1 := (hC1.rd hv).iix tI j hj
  have f2 := (hC1.rd hv).intCell j hj
  have HC1 := hid hC1
  clear hC1 hb
  go_wp2_with fail
  go_ret
  exact ⟨_, rfl, by rw [gi_eq xs j hj]; exact List.getElem_mem _, HC1.out⟩

end Go.Proofs.Ytjaofbdfhcgmeaa

namespace Go.Proofs.Ytjaofbdfhcgmeaa
open Go.RowKit

/-! ### What stands beside a cursor -/

theorem Cr.open {w0 w : World} {g : Nat} {vb : Value} {bs : List Int} {env : List Ent} (h : Cr w0 w g vb bs env) : ∃ c : Ent, St w0 w (c :: env) ∧ ∀ w' env', St w0 w' (c :: env') → Cr w0 w' g vb bs env' := by
  obtain ⟨hb, i, z, hi, hS⟩ := h
  exact ⟨_, hS, fun w' env' h' => ⟨hb, i, z, hi, h'⟩⟩
theorem Cr.newAt {w0 w : World} {g : Nat} {vb : Value} {bs : List Int} {env : List Ent} (h : Cr w0 w g vb bs env) (cs : Array Value) (e : TypeId) (hm : cs.size ≤ maxLen) {H : Nat} (hH : w.heap.size = H) :
    Cr w0 (w.alloc (.cells cs e)) g vb bs (⟨.slice (some ⟨H, 0, none⟩) cs.size cs.size, e, cs.toList⟩ :: env) := h.map fun _ hS => (hS.newAt cs e hm hH).swap
theorem Cr.boxAt {w0 w : World} {g : Nat} {vb : Value} {bs : List Int} {env : List Ent} (h : Cr w0 w g vb bs env) (n : Int) (v : Value) (e : TypeId) {H : Nat} (hH : w.heap.size = H) :
    Cr w0 (w.alloc (.cells #[.int .i64 n, v] e)) g vb bs (⟨bx H, e, [.int .i64 n, v]⟩ :: env) := h.map fun _ hS => (hS.boxAt n v e hH).swap
theorem Cr.call1 {w0 w w' : World} {g : Nat} {vb : Value} {bs : List Int} {env : List Ent} {x : Ent} (h : Cr w0 w g vb bs env) (h' : St w w' [x]) : Cr w0 w' g vb bs (x :: env) := h.map fun _ hS => (hS.call1 h').swap
theorem Cr.quiet {w0 w w' : World} {g : Nat} {vb : Value} {bs : List Int} {env : List Ent} (h : Cr w0 w g vb bs env) (h' : Below w.heap.size w w') : Cr w0 w' g vb bs env := h.map fun _ hS => hS.quiet h'
theorem Cr.drewN {w0 w : World} {g : Nat} {vb : Value} {bs : List Int} {env : List Ent} (h : Cr w0 w g vb bs env) (n : Nat) : Cr w0 (w.drewN n) g vb bs env := h.map fun _ hS => hS.drewN n
theorem Cr.sub {w0 w : World} {g : Nat} {vb : Value} {bs : List Int} {env env' : List Ent} (h : Cr w0 w g vb bs env) (hs : env'.Sublist env) : Cr w0 w g vb bs env' := h.map fun _ hS => hS.sub (.cons_cons _ hs)
theorem Cr.tail {w0 w : World} {g : Nat} {vb : Value} {bs : List Int} {x : Ent} {env : List Ent} (h : Cr w0 w g vb bs (x :: env)) : Cr w0 w g vb bs env := h.sub (List.sublist_cons_self _ _)
theorem Cr.hd {w0 w : World} {g : Nat} {vb : Value} {bs : List Int} {v : Value} {e : TypeId} {L : List Value} {env : List Ent} (h : Cr w0 w g vb bs (⟨v, e, L⟩ :: env)) : Rd w v L := h.rd (.head _)
theorem Cr.set {w0 w : World} {g : Nat} {vb : Value} {bs : List Int} {v : Value} {e : TypeId} {L : List Value} {env : List Ent} (h : Cr w0 w g vb bs (⟨v, e, L⟩ :: env)) (k : Nat) (hk : k < L.length) (u : Value) :
    Cr w0 (w.setCell (adr v k) u) g vb bs (⟨v, e, L.set k u⟩ :: env) := h.map fun _ hS => (hS.swap.set k hk u).swap
theorem Cr.swap {w0 w : World} {g : Nat} {vb : Value} {bs : List Int} {x y : Ent} {env : List Ent} (h : Cr w0 w g vb bs (x :: y :: env)) : Cr w0 w g vb bs (y :: x :: env) := h.map fun _ hS => hS.perm (List.Perm.cons _ (List.Perm.swap _ _ _))
theorem Cr.free {w0 w : World} {g : Nat} {vb : Value} {bs : List Int} {env : List Ent} (h : Cr w0 w g vb bs env) {v : Value} {e : TypeId} {L : List Value} (hx : ⟨v, e, L⟩ ∈ env) (k : Nat) (hk : k < L.length) : w.frozen? (adr v k) = false := by
  obtain ⟨c, hS, _⟩ := h.open
  exact hS.own.free (.tail _ hx) k hk
theorem Cr.st {w0 w : World} {g : Nat} {vb : Value} {bs : List Int} {env : List Ent} (h : Cr w0 w g vb bs env) : St w0 w env := by
  obtain ⟨c, hS, _⟩ := h.open
  exact hS.tail
theorem Cr.old {w0 w : World} {g : Nat} {vb : Value} {bs : List Int} {env : List Ent} (h : Cr w0 w g vb bs env) {v : Value} {L : List Value} (hr : Rd w0 v L) : Rd w v L := h.st.old hr

set_option maxHeartbeats 2000000 in
set_option maxRecDepth 100000 in
theorem l2Sets_c (g : Nat) (vb : Value) (bs : List Int) (w0 w : World) (env : List Ent) (hC : Cr w0 w g vb bs env) :
    Calls Try.prog 168 #[cp g] w fun e w' => ∃ v xs, e = .returned v ∧ (xs.length ≤ 6 ∧ ∀ x ∈ xs, -1 ≤ x ∧ x ≤ 64) ∧ Cr w0 w' g vb bs (⟨v, 3, ints xs⟩ :: env) := by
  have HC := hid (hC.newAt #[] 3 (by simp) rfl)
  clear hC
  have HK := hid (fun n w env h => l1Below_c n g vb bs w0 w env h)
  have HO := hid (fun n w env h => l1Once_c n g vb bs w0 w env h)
  have HP := hid (fun vl xs w env hv hx h => l1PickInt_c vl xs g vb bs w0 w env hv hx h)
  unfold cp at HK HO HP ⊢
  go_enter Try.func168, Try.ntmps168
  go_wp2_with fail
  refine (HK.out _ _ _ HC.out).mono ?_
  rintro e w1 ⟨n, rfl, hb, hC1⟩
  have HC1 := hid hC1
  obtain ⟨n0, n1⟩ := hb.rng (by omega)
  obtain ⟨N, rfl⟩ : ∃ N : Nat, n = N := ⟨n.toNat, by omega⟩
  clear hC1 hb
  go_wp2_with fail
  go_loopw [3, 5] (fun o c wr => ∃ (k : Nat) (v : Value) (xs : List Int), k ≤ N ∧ c = .int .i64 k ∧ o = v ∧ xs.length = k ∧ (∀ x ∈ xs, 0 ≤ x ∧ x < 64) ∧ Cr w0 wr g vb bs (⟨v, 3, ints xs⟩ :: env)) (fun _ c _ => N - (intOf c).toNat)
  case atStart => exact ⟨0, _, [], Nat.zero_le _, rfl, rfl, rfl, by simp, HC1.out⟩
  case round =>
    obtain ⟨k, v, xs, hk, rfl, rfl, hxl, hxs, hC2⟩ := hrel
    have HX := hid hxs
    have HC2 := hid hC2
    clear hxs hC2
    by_cases hlt : k < N
    · go_wp2_with fail
      refine (HK.out _ _ _ HC2.out).mono ?_
      rintro e w3 ⟨x, rfl, hb, hC3⟩
      have HB := hid (hb.rng (by omega))
      obtain ⟨c, hS, hback⟩ := hC3.open
      have HS := hid hS.swap
      have HBK := hid hback
      clear hb hS hback hC3
      go_wp2_with (at_builtin; refine wpList_push rfl _ _ rfl tI HS.out.own (.int .i64 x) rfl (by simp; omega) rfl rfl ?_)
      intro v4 w4 hO4 hb4
      rw [ints_snoc] at hO4
      have HC4 := hid (HBK.out _ _ (HS.out.mut hO4 hb4).swap)
      clear hO4 hb4
      go_wp2_with fail
      go_roundw
      case rel => exact ⟨k + 1, v4, xs ++ [x], by omega, by go_num, rfl, by simp; omega, (by intro y hy; rcases List.mem_append.1 hy with h | h; exact HX.out y h; rw [List.mem_singleton] at h; subst h; exact HB.out), HC4.out⟩
      case measure => simp [intOf]; omega
    · have HW : Hid (∀ x ∈ xs, -1 ≤ x ∧ x ≤ 64) := fun x hx => by have := HX.out x hx; omega
      by_cases h0 : 0 < N
      · go_wp2_with fail
        refine (HO.out _ _ _ HC2.out).mono ?_
        rintro e w3 ⟨b, rfl, hC3⟩
        have HC3 := hid hC3
        clear hC3
        cases b with
        | false =>
          go_wp2_with fail
          go_ret
          exact ⟨_, xs, rfl, ⟨by omega, HW.out⟩, HC3.out⟩
        | true =>
          go_wp2_with fail
          have HC4 := hid (HC3.out.newAt #[.int .i64 (-1), .int .i64 64, .int .i64 63] 3 (by simp [maxLen]) rfl)
          refine (HP.out _ [-1, 64, 63] _ _ (.head _) (by simp) HC4.out).mono ?_
          rintro e w5 ⟨x, rfl, hx, hC5⟩
          have HXX : Hid (-1 ≤ x ∧ x ≤ 64) := by simp at hx; show _ ∧ _; omega
          have hC6 := hC5.tail
          have f1 : ∀ w' : World, (Instr.indexAt 26 _ (.int .i64 0)).run Try.prog w' = .ok (.pointer (some (adr _ 0))) w' := hC6.hd.iix tI 0 (by omega)
          have f2 := hC6.hd.intCell 0 (by omega)
          have f3 := hC6.free (.head _) 0 (by simp; omega)
          have HC6 := hid hC6
          clear hC5 hC6 hx
          go_wp2_with fail
          go_ret
          have hC7 := HC6.out.set 0 (by simp; omega) (.int .i64 x)
          rw [ints_set] at hC7
          refine ⟨_, _, rfl, ⟨by simp; omega, fun y hy => ?_⟩, hC7⟩
          rcases List.mem_or_eq_of_mem_set hy with h | h
          · exact HW.out y h
          · subst h; exact HXX.out
      · have e : N = 0 := by omega
        subst e
        go_wp2_with fail
        go_ret
        exact ⟨_, xs, rfl, ⟨by omega, HW.out⟩, HC2.out⟩

end Go.Proofs.Ytjaofbdfhcgmeaa

namespace Go.Proofs.Ytjaofbdfhcgmeaa
open Go.RowKit

theorem and64_fin : ∀ a b : Fin 64, 0 ≤ bits .and .i64 (a.val : Int) (b.val : Int) ∧ bits .and .i64 (a.val : Int) (b.val : Int) < 64 := by decide +kernel
theorem and64 {a b : Int} (a0 : 0 ≤ a) (a1 : a < 64) (b0 : 0 ≤ b) (b1 : b < 64) : 0 ≤ bits .and .i64 a b ∧ bits .and .i64 a b < 64 := by
  obtain ⟨x, rfl⟩ := fin64 a0 a1
  obtain ⟨y, rfl⟩ := fin64 b0 b1
  exact and64_fin x y
theorem mem_snoc_rng {xs : List Int} {x lo hi : Int} (h : ∀ y ∈ xs, lo ≤ y ∧ y < hi) (hx : lo ≤ x ∧ x < hi) : ∀ y ∈ xs ++ [x], lo ≤ y ∧ y < hi := by
  intro y hy
  rcases List.mem_append.1 hy with h' | h'
  · exact h y h'
  · rw [List.mem_singleton] at h'; subst h'; exact hx

set_option maxHeartbeats 2000000 in
set_option maxRecDepth 100000 in
theorem l3Size_c (n : Int) (h0 : 1 ≤ n) (h6 : n ≤ 6) (g : Nat) (vb : Value) (bs : List Int) (w0 w : World) (env : List Ent) (hC : Cr w0 w g vb bs env) :
    Calls Try.prog 174 #[cp g, .int .i64 n] w fun e w' => ∃ v fs, e = .returned (cx n v) ∧ fs.length ≤ 448 ∧ Cr w0 w' g vb bs (⟨v, 3, ints fs⟩ :: env) := by
  have HC := hid (((hC.boxAt 0 (.slice none 0 0) 30 (H := w.heap.size) rfl).newAt #[] 3 (by simp) (H := w.heap.size + 1) (by simp)).newAt #[.int .i64 0, .int .i64 1, .int .i64 2, .int .i64 3, .int .i64 4, .int .i64 4, .int .i64 5, .int .i64 6] 3 (by simp [maxLen]) (H := w.heap.size + 1 + 1) (by simp))
  clear hC
  have HK := hid (fun n w env h => l1Below_c n g vb bs w0 w env h)
  have HO := hid (fun n w env h => l1Once_c n g vb bs w0 w env h)
  have HP := hid (fun vl xs w env hv hx h => l1PickInt_c vl xs g vb bs w0 w env hv hx h)
  have EP : Hid (wrap64 (2 ^ n.toNat) = pw n) := pw_wrap (by omega) h6
  have HR := hid (pw_rng (show 0 ≤ n by omega) h6)
  unfold cp at HK HO HP ⊢
  go_enter Try.func174, Try.ntmps174
  go_wp2_with fail
  refine (HP.out _ [0, 1, 2, 3, 4, 4, 5, 6] _ _ (.head _) (by simp) HC.out).mono ?_
  rintro e w1 ⟨m, rfl, hm, hC1⟩
  have hmr : 0 ≤ m ∧ m ≤ 6 := by simp at hm; omega
  obtain ⟨m0, m1⟩ := hmr
  obtain ⟨M, rfl⟩ : ∃ M : Nat, m = M := ⟨m.toNat, by omega⟩
  have HC1 := hid hC1.tail
  clear hC1 hm
  go_wp2_with fail
  go_loopw [5, 7] (fun o c wr => ∃ (k : Nat) (v : Value) (xs : List Int), k ≤ M ∧ c = .int .i64 k ∧ o = v ∧ xs.length = k ∧ (∀ x ∈ xs, 0 ≤ x ∧ x < 64) ∧ Cr w0 wr g vb bs (⟨v, 3, ints xs⟩ :: ⟨bx w.heap.size, 30, [.int .i64 0, .slice none 0 0]⟩ :: env)) (fun _ c _ => M - (intOf c).toNat)
  case atStart => exact ⟨0, _, [], Nat.zero_le _, rfl, rfl, rfl, by simp, HC1.out⟩
  case round =>
    obtain ⟨k, v, xs, hk, rfl, rfl, hxl, hxs, hC2⟩ := hrel
    have HX := hid hxs
    have HC2 := hid hC2
    clear hxs
    by_cases hlt : k < M
    · clear hC2
      go_wp2_with fail
      refine (HK.out _ _ _ HC2.out).mono ?_
      rintro e w3 ⟨x, rfl, hb, hC3⟩
      have HB := hid (hb.rng (by rw [EP.out]; have := HR.out.1; omega))
      have HC3 := hid hC3
      clear hb hC3
      go_wp2_with fail
      refine (HO.out _ _ _ HC3.out).mono ?_
      rintro e w4 ⟨b, rfl, hC4⟩
      have hX : 0 ≤ x ∧ x < 64 := by have h1 := HB.out; have h2 := HR.out; rw [EP.out] at h1; omega
      have HXX := hid hX
      clear hX
      cases b with
      | false =>
        obtain ⟨c, hS, hback⟩ := hC4.open
        have HS := hid hS.swap
        have HBK := hid hback
        clear hS hback hC4
        go_wp2_with (at_builtin; refine wpList_push rfl _ _ rfl tI HS.out.own (.int .i64 x) rfl (by simp; omega) rfl rfl ?_)
        intro v4 w5 hO4 hb4
        rw [ints_snoc] at hO4
        have HC4 := hid (HBK.out _ _ (HS.out.mut hO4 hb4).swap)
        clear hO4 hb4
        go_wp2_with fail
        go_roundw
        case rel => exact ⟨k + 1, v4, xs ++ [x], by omega, by go_num, rfl, by simp; omega, mem_snoc_rng HX.out HXX.out, HC4.out⟩
        case measure => simp [intOf]; omega
      | true =>
        have HC4 := hid hC4
        clear hC4
        go_wp2_with fail
        refine (HK.out _ _ _ HC4.out).mono ?_
        rintro e w5 ⟨y, rfl, hb, hC5⟩
        have hY : 0 ≤ y ∧ y < 64 := by have h1 := hb.rng (by rw [EP.out]; have := HR.out.1; omega); have h2 := HR.out; rw [EP.out] at h1; omega
        have HXY := hid (and64 HXX.out.1 HXX.out.2 hY.1 hY.2)
        obtain ⟨c, hS, hback⟩ := hC5.open
        have HS := hid hS.swap
        have HBK := hid hback
        clear hS hback hC5 hb hY
        go_wp2_with (at_builtin; refine wpList_push rfl _ _ rfl tI HS.out.own (.int .i64 (bits .and .i64 x y)) rfl (by simp; omega) rfl rfl ?_)
        intro v4 w6 hO4 hb4
        rw [ints_snoc] at hO4
        have HC6 := hid (HBK.out _ _ (HS.out.mut hO4 hb4).swap)
        clear hO4 hb4
        go_wp2_with fail
        go_roundw
        case rel => exact ⟨k + 1, v4, xs ++ [_], by omega, by go_num, rfl, by simp; omega, mem_snoc_rng HX.out HXY.out, HC6.out⟩
        case measure => simp [intOf]; omega
    · have hrd := hC2.hd
      clear hC2
      go_wp2_with fail
      refine (l3Make_c n _ xs _ hrd HX.out).mono ?_
      rintro e w3 ⟨v2, rfl, hS3⟩
      have hC3 := (HC2.out.call1 hS3).sub (.cons_cons _ (.cons _ (List.Sublist.refl _)))
      obtain ⟨p, l, c, rfl⟩ := hS3.hd.form
      have hC4 := hC3.swap
      have k0 := hC4.hd.c0
      have k1 := hC4.hd.c1
      have s0 : w3.frozen? ⟨w.heap.size, 0, none⟩ = false := hC4.free (v := bx w.heap.size) (.head _) 0 (by simp)
      have s1 : w3.frozen? ⟨w.heap.size, 1, none⟩ = false := hC4.free (v := bx w.heap.size) (.head _) 1 (by simp)
      have HC4 := hid hC4
      clear hC3 hC4 hS3
      unfold cx
      go_wp2_with fail
      have hC6 := (HC4.out.set 0 (by simp) (.int .i64 n)).set 1 (by simp) (.slice p l c)
      exact bodyPost_ret (ret_cx rfl rfl hC6.hd) rfl ⟨_, _, rfl, maxL_len _, hC6.tail⟩

set_option maxHeartbeats 2000000 in
set_option maxRecDepth 100000 in
theorem BorderComplex_c (n : Int) (h0 : 1 ≤ n) (h6 : n ≤ 6) (w : World) :
    Calls Try.prog 179 #[.int .i64 n] w fun e w' => ∃ v fs, e = .returned (.tuple #[cx n v, .bool true]) ∧ fs.length ≤ 448 ∧ St w w' [⟨v, 3, ints fs⟩] := by
  have HS := hid (((St.start w).box 0 (.slice none 0 0) 30).newAt #[] 3 (by simp) (H := w.heap.size + 1) (by simp))
  obtain ⟨N, hN⟩ : ∃ N : Nat, (N : Int) = pw n - 1 := ⟨(pw n - 1).toNat, by have := pw_rng (show 0 ≤ n by omega) h6; omega⟩
  have hN64 : N < 64 := by have := pw_rng (show 0 ≤ n by omega) h6; omega
  have q1 : inB n 1 6 = true := by simp [inB]; omega
  have Q1 := hid q1
  have e1 : wrap64 (wrap64 (2 ^ n.toNat) - 1) = (N : Int) := by rw [pw_wrap (by omega) h6, hN]; have := pw_rng (show 0 ≤ n by omega) h6; exact IntWalk.wrap64_in _ (by omega)
  clear q1 hN
  go_enter Try.func179, Try.ntmps179
  go_wp2_with (go_at_call 112; refine (l1In_c _ _ _ _).mono ?_; rw [Q1.out]; rintro e w' ⟨rfl, rfl⟩)
  go_loopw [4, 5] (fun o c wr => ∃ (k : Nat) (v : Value) (xs : List Int), k ≤ N ∧ c = .int .i64 k ∧ o = v ∧ xs.length = k ∧ (∀ x ∈ xs, 0 ≤ x ∧ x < 64) ∧ St w wr [⟨v, 3, ints xs⟩, ⟨bx w.heap.size, 30, [.int .i64 0, .slice none 0 0]⟩]) (fun _ c _ => N - (intOf c).toNat)
  case atStart => exact ⟨0, _, [], Nat.zero_le _, rfl, rfl, rfl, by simp, HS.out⟩
  case round =>
    obtain ⟨k, v, xs, hk, rfl, rfl, hxl, hxs, hS2⟩ := hrel
    have HX := hid hxs
    have HS2 := hid hS2
    clear hxs
    by_cases hlt : k < N
    · have q2 : decide ((k : Int) < wrap64 (wrap64 (2 ^ n.toNat) - 1)) = true := by rw [e1]; exact decide_eq_true (by omega)
      clear hS2 e1
      go_wp2_with (at_builtin; refine wpList_push rfl _ _ rfl tI HS2.out.own (.int .i64 (k : Int)) rfl (by simp; omega) rfl rfl ?_)
      intro v4 w5 hO4 hb4
      rw [ints_snoc] at hO4
      have HS4 := hid (HS2.out.mut hO4 hb4)
      clear hO4 hb4
      go_wp2_with fail
      go_roundw
      case rel => exact ⟨k + 1, v4, xs ++ [(k : Int)], by omega, by go_num, rfl, by simp; omega, mem_snoc_rng HX.out (by omega), HS4.out⟩
      case measure => simp [intOf]; omega
    · have q2 : decide ((k : Int) < wrap64 (wrap64 (2 ^ n.toNat) - 1)) = false := by rw [e1]; exact decide_eq_false (by omega)
      have hrd := hS2.hd
      clear hS2 e1
      go_wp2_with fail
      refine (l3Make_c n _ xs _ hrd HX.out).mono ?_
      rintro e w3 ⟨v2, rfl, hS3⟩
      have hS4 := (HS2.out.call1 hS3).sub (.cons_cons _ (.cons _ (List.Sublist.refl _)))
      obtain ⟨p, l, c, rfl⟩ := hS3.hd.form
      have hS5 := hS4.swap
      have k0 := hS5.hd.c0
      have k1 := hS5.hd.c1
      have s0 : w3.frozen? ⟨w.heap.size, 0, none⟩ = false := hS5.own.free (v := bx w.heap.size) (.head _) 0 (by simp)
      have s1 : w3.frozen? ⟨w.heap.size, 1, none⟩ = false := hS5.own.free (v := bx w.heap.size) (.head _) 1 (by simp)
      have HS5 := hid hS5
      clear hS5 hS4 hS3
      unfold cx
      go_wp2_with fail
      have hS6 := (HS5.out.set 0 (by simp) (.int .i64 n)).set 1 (by simp) (.slice p l c)
      exact bodyPost_ret (ret_cx2 rfl rfl rfl hS6.hd) rfl ⟨_, _, rfl, maxL_len _, hS6.tail⟩

end Go.Proofs.Ytjaofbdfhcgmeaa

namespace Go.Proofs.Ytjaofbdfhcgmeaa
open Go.RowKit

def ofSz (z : Int) (k : Nat) : List Int := rowTo (fun _ => true) z k
theorem ofSz_pos_fin : ∀ n z : Fin 7, 1 ≤ z.val → z.val ≤ n.val → 0 < (ofSz (z.val : Int) (2 ^ n.val)).length := by decide +kernel
theorem ofSz_pos {n z : Int} (h1 : 1 ≤ z) (h2 : z ≤ n) (h6 : n ≤ 6) : 0 < (ofSz z (pw n).toNat).length := by
  have := ofSz_pos_fin ⟨n.toNat, by omega⟩ ⟨z.toNat, by omega⟩ (by simp; omega) (by simp; omega)
  have e : (pw n).toNat = 2 ^ n.toNat := by
    have : pw n = ((2 ^ n.toNat : Nat) : Int) := by simp [pw]
    rw [this, Int.toNat_natCast]
  rw [e]
  simpa [Int.toNat_of_nonneg (show 0 ≤ z by omega)] using this
theorem ofSz_rng {z : Int} {k : Nat} (hk : k ≤ 64) : ∀ x ∈ ofSz z k, 0 ≤ x ∧ x < 64 := fun x hx => by
  have := mem_rowTo.1 hx
  omega
theorem ofSz_len (z : Int) (k : Nat) : (ofSz z k).length ≤ k := rowTo_len _ z k

set_option maxHeartbeats 4000000 in
set_option maxRecDepth 100000 in
theorem l3Pure_c (n : Int) (h0 : 1 ≤ n) (h6 : n ≤ 6) (g : Nat) (vb : Value) (bs : List Int) (w0 w : World) (env : List Ent) (hC : Cr w0 w g vb bs env) :
    Calls Try.prog 181 #[cp g, .int .i64 n] w fun e w' => ∃ v fs, e = .returned (cx n v) ∧ fs.length ≤ 448 ∧ Cr w0 w' g vb bs (⟨v, 3, ints fs⟩ :: env) := by
  have HC := hid (hC.boxAt 0 (.slice none 0 0) 30 (H := w.heap.size) rfl)
  clear hC
  have HK := hid (fun n w env h => l1Below_c n g vb bs w0 w env h)
  obtain ⟨N, hN⟩ : ∃ N : Nat, (N : Int) = pw n := ⟨(pw n).toNat, by have := pw_rng (show 0 ≤ n by omega) h6; omega⟩
  have hN64 : N ≤ 64 := by have := pw_rng (show 0 ≤ n by omega) h6; omega
  have e1 : wrap64 (2 ^ n.toNat) = (N : Int) := by rw [pw_wrap (by omega) h6, hN]
  have E1 := hid e1
  have EN := hid hN
  clear e1 hN
  unfold cp at HK ⊢
  go_enter Try.func181, Try.ntmps181
  go_wp2_with fail
  refine (HK.out _ _ _ HC.out).mono ?_
  rintro e w1 ⟨m, rfl, hm, hC1⟩
  obtain ⟨m0, m1⟩ := hm.rng (by omega)
  have HC1 := hid (hC1.newAt #[] 3 (by simp) (H := w1.heap.size) rfl)
  clear hC1 hm
  have g1 : IntKind.i64.wrap (1 + m) = 1 + m := IntWalk.i64_in _ (by omega)
  obtain ⟨Z, hZ⟩ : ∃ Z, Z = 1 + m := ⟨_, rfl⟩
  have HZ := hid hZ
  have hp0 : 0 < (ofSz Z N).length := by have := ofSz_pos (n := n) (z := Z) (by omega) (by omega) h6; rwa [← EN.out, Int.toNat_natCast] at this
  clear hZ
  go_wp2_with fail
  rw [← HZ.out]
  clear g1
  go_loopw [6, 7] (fun o c wr => ∃ (k : Nat) (v : Value), k ≤ N ∧ c = .int .i64 k ∧ o = v ∧ Cr w0 wr g vb bs (⟨v, 3, ints (ofSz Z k)⟩ :: ⟨bx w.heap.size, 30, [.int .i64 0, .slice none 0 0]⟩ :: env)) (fun _ c _ => N - (intOf c).toNat)
  case atStart => exact ⟨0, _, Nat.zero_le _, rfl, rfl, HC1.out⟩
  case round =>
    obtain ⟨k, v, hk, rfl, rfl, hC2⟩ := hrel
    by_cases hlt : k < N
    · have q2 : decide ((k : Int) < wrap64 (2 ^ n.toNat)) = true := by rw [E1.out]; exact decide_eq_true (by omega)
      have hfl := ofSz_len Z k
      by_cases hz : pc k = Z
      · have EK : Hid (ofSz Z (k + 1) = ofSz Z k ++ [(k : Int)]) := by show _ = _; rw [ofSz, rowTo, if_pos ⟨rfl, hz⟩]; rfl
        have hz' : (pc k == Z) = true := by simp [hz]
        obtain ⟨c, hS, hback⟩ := hC2.open
        have HS := hid hS.swap
        have HBK := hid hback
        clear hS hback hC2 hz
        go_wp2_with (first | (go_at_call 106; refine (l2Size_c _ _ (by omega) (by omega)).mono ?_; rintro e w' ⟨rfl, rfl⟩) | (at_builtin; refine wpList_push rfl _ _ rfl tI HS.out.own (.int .i64 (k : Int)) rfl (by simp; omega) rfl rfl ?_))
        intro v4 w5 hO4 hb4
        rw [ints_snoc, ← EK.out] at hO4
        have HC4 := hid (HBK.out _ _ (HS.out.mut hO4 hb4).swap)
        clear hO4 hb4
        go_wp2_with fail
        go_roundw
        case rel => exact ⟨k + 1, v4, by omega, by go_num, rfl, HC4.out⟩
        case measure => simp [intOf]; omega
      · have EK : Hid (ofSz Z (k + 1) = ofSz Z k) := by show _ = _; rw [ofSz, rowTo, if_neg (fun h => hz h.2)]; rfl
        have hz' : (pc k == Z) = false := by simp [hz]
        have HC2 := hid hC2
        clear hz hC2
        go_wp2_with (go_at_call 106; refine (l2Size_c _ _ (by omega) (by omega)).mono ?_; rintro e w' ⟨rfl, rfl⟩)
        go_roundw
        case rel => exact ⟨k + 1, _, by omega, by go_num, rfl, by rw [EK.out]; exact HC2.out⟩
        case measure => simp [intOf]; omega
    · have q2 : decide ((k : Int) < wrap64 (2 ^ n.toNat)) = false := by rw [E1.out]; exact decide_eq_false (by omega)
      have ek : k = N := by omega
      subst ek
      have HR := hid (ofSz_rng (z := Z) hN64)
      have hpl := ofSz_len Z k
      obtain ⟨A, hA⟩ : ∃ A, A = ofSz Z k := ⟨_, rfl⟩
      rw [← hA] at hC2 HR hp0 hpl
      clear hA
      have HC2 := hid (hC2.newAt #[] 3 (by simp) (H := wr.heap.size) rfl)
      clear hC2
      go_wp2_with fail
      refine (HK.out _ _ _ HC2.out).mono ?_
      rintro e w3 ⟨x, rfl, hb, hC3⟩
      obtain ⟨x0, x1⟩ := hb.rng (by omega)
      obtain ⟨X, rfl⟩ : ∃ X : Nat, x = X := ⟨x.toNat, by omega⟩
      have HC3 := hid hC3
      have g1 : IntKind.i64.wrap (1 + (X : Int)) = ((X + 1 : Nat) : Int) := by rw [show (((X + 1 : Nat)) : Int) = 1 + (X : Int) by omega]; exact IntWalk.i64_in _ (by omega)
      clear hC3 hb
      go_wp2_with fail
      clear g1
      go_loopw [8, 10] (fun o c wi => ∃ (t : Nat) (v : Value) (xs : List Int), t ≤ X + 1 ∧ c = .int .i64 t ∧ o = v ∧ xs.length = t ∧ (∀ x ∈ xs, 0 ≤ x ∧ x < 64) ∧ Cr w0 wi g vb bs (⟨v, 3, ints xs⟩ :: ⟨u6, 3, ints A⟩ :: ⟨bx w.heap.size, 30, [.int .i64 0, .slice none 0 0]⟩ :: env)) (fun _ c _ => X + 1 - (intOf c).toNat)
      case atStart => exact ⟨0, _, [], Nat.zero_le _, rfl, rfl, rfl, by simp, HC3.out⟩
      case round =>
        obtain ⟨t, v, xs, ht, rfl, rfl, hxl, hxs, hC2⟩ := hrel
        have HX := hid hxs
        have HC2 := hid hC2
        clear hxs
        by_cases hlt2 : t < X + 1
        · have la := (hC2.rd (.tail _ (.head _))).iln tI
          clear hC2
          go_wp2_with fail
          refine (HK.out _ _ _ HC2.out).mono ?_
          rintro e w4 ⟨y, rfl, hb, hC4⟩
          obtain ⟨y0, y1⟩ := hb.rng (by omega)
          obtain ⟨Y, rfl⟩ : ∃ Y : Nat, y = Y := ⟨y.toNat, by omega⟩
          have hY : Y < A.length := by omega
          have f1 := (hC4.rd (.tail _ (.head _))).iix tI Y hY
          have f2 := (hC4.rd (.tail _ (.head _))).intCell Y hY
          have HG := hid (HR.out (gi A Y) (by rw [gi_eq A Y hY]; exact List.getElem_mem _))
          obtain ⟨c, hS, hback⟩ := hC4.open
          have HS := hid hS.swap
          have HBK := hid hback
          clear hS hback hC4 hb
          go_wp2_with (at_builtin; refine wpList_push rfl _ _ rfl tI HS.out.own (.int .i64 (gi A Y)) rfl (by simp; omega) rfl rfl ?_)
          intro v4 w5 hO4 hb4
          rw [ints_snoc] at hO4
          have HC5 := hid (HBK.out _ _ (HS.out.mut hO4 hb4).swap)
          clear hO4 hb4
          go_wp2_with fail
          go_roundw
          case rel => exact ⟨t + 1, v4, xs ++ [_], by omega, by go_num, rfl, by simp; omega, mem_snoc_rng HX.out HG.out, HC5.out⟩
          case measure => simp [intOf]; omega
        · have hrd := hC2.hd
          clear hC2
          go_wp2_with fail
          refine (l3Make_c n _ xs _ hrd HX.out).mono ?_
          rintro e w4 ⟨v2, rfl, hS3⟩
          have hC3 := (HC2.out.call1 hS3).sub (.cons_cons _ (.cons _ (.cons _ (List.Sublist.refl _))))
          obtain ⟨p, l, c, rfl⟩ := hS3.hd.form
          have hC4 := hC3.swap
          have k0 := hC4.hd.c0
          have k1 := hC4.hd.c1
          have s0 : w4.frozen? ⟨w.heap.size, 0, none⟩ = false := hC4.free (v := bx w.heap.size) (.head _) 0 (by simp)
          have s1 : w4.frozen? ⟨w.heap.size, 1, none⟩ = false := hC4.free (v := bx w.heap.size) (.head _) 1 (by simp)
          have HC4 := hid hC4
          clear hC3 hC4 hS3
          unfold cx
          go_wp2_with fail
          have hC6 := (HC4.out.set 0 (by simp) (.int .i64 n)).set 1 (by simp) (.slice p l c)
          exact bodyPost_ret (ret_cx rfl rfl hC6.hd) rfl ⟨_, _, rfl, maxL_len _, hC6.tail⟩

end Go.Proofs.Ytjaofbdfhcgmeaa

namespace Go.Proofs.Ytjaofbdfhcgmeaa
open Go.RowKit

def strs (ts : List ByteArray) : List Value := ts.map Value.string
theorem length_strs (ts : List ByteArray) : (strs ts).length = ts.length := by simp [strs]
attribute [simp] length_strs
theorem strs_snoc (ts : List ByteArray) (t : ByteArray) : strs ts ++ [.string t] = strs (ts ++ [t]) := by simp [strs]
def gs (ts : List ByteArray) (k : Nat) : ByteArray := ts.getD k ⟨#[]⟩
theorem gs_mem {ts : List ByteArray} {k : Nat} (h : k < ts.length) : gs ts k ∈ ts := by simp [gs, List.getD, h]
theorem strs_get {ts : List ByteArray} {k : Nat} (h : k < ts.length) : (strs ts)[k]? = some (.string (gs ts k)) := by simp [strs, gs, List.getD, h]
theorem tT : SlT Try.prog 106 9 (.string ⟨#[]⟩) := slT_mk (b := 16) (by kernel_rfl) (by kernel_rfl) rfl (by omega)
theorem uT : Try.prog.underlying 9 = some .string := by kernel_rfl
theorem run_cut (s : ByteArray) (i j : Nat) (h1 : i ≤ j) (h2 : j ≤ s.size) (w : World) : (Instr.slice 9 (.string s) (some (.int .i64 (i : Int))) (some (.int .i64 (j : Int))) none).run Try.prog w = .ok (.string (s.extract i j)) w := by
  have := run_slice_string (P := Try.prog) (w := w) 9 s .i64 .i64 (i : Int) (j : Int) uT (by omega) (by omega) (by omega)
  simpa using this
theorem cut_size (s : ByteArray) (i j : Nat) : (s.extract i j).size ≤ s.size := by rw [ByteArray.size_extract]; omega

set_option maxHeartbeats 2000000 in
set_option maxRecDepth 100000 in
theorem SplitByte_c (s : ByteArray) (hs : s.size ≤ 1000) (b : Int) (w : World) : Calls Try.prog 165 #[.string s, .int .u8 b] w fun e w' => ∃ v ts, e = .returned v ∧ (ts.length ≤ s.size + 1 ∧ ∀ t ∈ ts, t.size ≤ s.size) ∧ St w w' [⟨v, 9, strs ts⟩] := by
  have HS := hid ((St.start w).newAt #[] 9 (by simp) (H := w.heap.size) rfl)
  go_enter Try.func165, Try.ntmps165
  go_wp2_with fail
  go_loopw [5, 6, 7] (fun o f c wr => ∃ (i k : Nat) (v : Value) (ts : List ByteArray), i ≤ s.size + 1 ∧ k ≤ i ∧ c = .int .i64 i ∧ f = .int .i64 k ∧ o = v ∧ ts.length ≤ i ∧ (∀ t ∈ ts, t.size ≤ s.size) ∧ St w wr [⟨v, 9, strs ts⟩]) (fun _ _ c _ => s.size + 1 - (intOf c).toNat)
  case atStart => exact ⟨0, 0, _, [], Nat.zero_le _, Nat.le_refl _, rfl, rfl, rfl, Nat.zero_le _, by simp, HS.out⟩
  case round =>
    obtain ⟨i, k, v, ts, hi, hk, rfl, rfl, rfl, hl, ht, hS⟩ := hrel
    have HS2 := hid hS
    have HT := hid ht
    clear hS ht
    by_cases hlt : i ≤ s.size
    · have hcut := run_cut s k i hk hlt
      obtain ⟨y, hy⟩ : ∃ y, y = s.extract k i := ⟨_, rfl⟩
      rw [← hy] at hcut
      have HY : Hid (y.size ≤ s.size) := by show _; rw [hy]; exact cut_size s k i
      have HN : Hid (∀ t ∈ ts ++ [y], t.size ≤ s.size) := by
        intro t h
        rcases List.mem_append.1 h with h | h
        · exact HT.out t h
        · rw [List.mem_singleton] at h; subst h; exact HY.out
      clear hy
      by_cases he : i = s.size
      · subst he
        have q : ((s.size : Int) == (s.size : Int)) = true := beq_self_eq_true _
        go_wp2_with (at_builtin; refine wpList_push rfl _ _ rfl tT HS2.out.own (.string y) rfl (by simp; omega) rfl rfl ?_)
        intro v4 w4 hO4 hb4
        rw [strs_snoc] at hO4
        have HS4 := hid (HS2.out.mut hO4 hb4)
        clear hO4 hb4
        go_wp2_with fail
        go_roundw
        case rel => exact ⟨s.size + 1, s.size + 1, v4, ts ++ [y], by omega, by omega, by go_num, by go_num, rfl, by simp; omega, HN.out, HS4.out⟩
        case measure => simp [intOf] <;> omega
      · have hlt2 : i < s.size := by omega
        have q : ((i : Int) == (s.size : Int)) = false := by rw [beq_eq_false_iff_ne]; omega
        by_cases hb : ((s[i].toNat : Nat) : Int) = b
        · have q2 : (((s[i].toNat : Nat) : Int) == b) = true := by simp [hb]
          clear hb
          go_wp2_with (at_builtin; refine wpList_push rfl _ _ rfl tT HS2.out.own (.string y) rfl (by simp; omega) rfl rfl ?_)
          intro v4 w4 hO4 hb4
          rw [strs_snoc] at hO4
          have HS4 := hid (HS2.out.mut hO4 hb4)
          clear hO4 hb4
          go_wp2_with fail
          go_roundw
          case rel => exact ⟨i + 1, i + 1, v4, ts ++ [y], by omega, by omega, by go_num, by go_num, rfl, by simp; omega, HN.out, HS4.out⟩
          case measure => simp [intOf]; omega
        · have q2 : (((s[i].toNat : Nat) : Int) == b) = false := by simp [hb]
          clear hb
          go_wp2_with fail
          go_roundw
          case rel => exact ⟨i + 1, k, _, ts, by omega, by omega, by go_num, rfl, rfl, by omega, HT.out, HS2.out⟩
          case measure => simp [intOf]; omega
    · go_wp2_with fail
      go_ret
      exact ⟨_, ts, rfl, ⟨by omega, HT.out⟩, HS2.out⟩

/-- A number below 64, and whether it was fine. -/
def setRet (e : Ending) : Prop := ∃ x b, e = .returned (.tuple #[.int .i64 x, .bool b]) ∧ (0 ≤ x ∧ x < 64)
theorem shl_room_fin : ∀ s : Fin 64, ∀ i : Fin 6, (s.val : Int) / 2 ^ i.val = 0 → 0 ≤ wrap64 ((s.val : Int) + wrap64 (2 ^ i.val)) ∧ wrap64 ((s.val : Int) + wrap64 (2 ^ i.val)) < 64 := by decide +kernel
theorem shl_room {s : Int} (s0 : 0 ≤ s) (s1 : s < 64) {i : Nat} (hi : i < 6) (h : s / 2 ^ i = 0) : 0 ≤ wrap64 (s + wrap64 (2 ^ i)) ∧ wrap64 (s + wrap64 (2 ^ i)) < 64 := by
  obtain ⟨a, rfl⟩ := fin64 s0 s1
  exact shl_room_fin a ⟨i, hi⟩ h

set_option maxHeartbeats 2000000 in
set_option maxRecDepth 100000 in
theorem ParseSet_c (s : ByteArray) (hs : s.size ≤ 1000) (w : World) : Calls Try.prog 167 #[.string s] w fun e w' => setRet e ∧ w = w' := by
  go_enter Try.func167, Try.ntmps167
  go_wp2_with fail
  go_loop [4, 5] (fun o c => ∃ (k : Nat) (x : Int), k ≤ s.size ∧ c = .int .i64 k ∧ o = .int .i64 x ∧ (0 ≤ x ∧ x < 64)) (fun _ c => s.size - (intOf c).toNat)
  case atStart => exact ⟨0, 0, Nat.zero_le _, rfl, rfl, by omega⟩
  case round =>
    obtain ⟨k, x, hk, rfl, rfl, hx⟩ := hrel
    have HX := hid hx
    clear hx
    cases hd : (!(s.toList == [45])) with
    | false =>
      go_wp2_with fail
      all_goals
        go_ret2
        exact ⟨⟨x, _, rfl, HX.out⟩, rfl⟩
    | true =>
      by_cases hlt : k < s.size
      · obtain ⟨c, hc⟩ : ∃ c : Int, c = (s[k].toNat : Int) - 97 := ⟨_, rfl⟩
        have c0 : -97 ≤ c := by omega
        have c1 : c ≤ 158 := by have := s[k].toNat_lt; omega
        have g1 : IntKind.i64.wrap ((s[k].toNat : Int) - 97) = c := by rw [← hc]; exact IntWalk.i64_in _ (by omega)
        have g2 : wrap64 ((s[k].toNat : Int) - 97) = c := by rw [← hc]; exact IntWalk.wrap64_in _ (by omega)
        have g3 : (s[k].toNat : Int) - 97 = c := hc.symm
        clear hc
        go_wp2_with fail
        by_cases hi : 0 ≤ c ∧ c ≤ 5
        · have q1 : inB c 0 5 = true := inB_t hi.1 hi.2
          have Q1 := hid q1
          obtain ⟨c2, c3⟩ := hi
          obtain ⟨C, rfl⟩ : ∃ C : Nat, c = C := ⟨c.toNat, by omega⟩
          clear q1 g1 g2 g3
          by_cases hz : x / 2 ^ C = 0
          · have q2 : (x / 2 ^ C != 0) = false := by simp [hz]
            have HR := hid (shl_room HX.out.1 HX.out.2 (i := C) (by omega) hz)
            clear hz
            refine (l1In_c _ _ _ _).mono ?_
            rw [Q1.out]
            rintro e w' ⟨rfl, rfl⟩
            go_wp2_with fail
            go_round
            case rel => exact ⟨k + 1, _, by omega, by go_num, rfl, HR.out⟩
            case measure => simp [intOf]; omega
          · have q2 : (x / 2 ^ C != 0) = true := by simp [hz]
            clear hz
            refine (l1In_c _ _ _ _).mono ?_
            rw [Q1.out]
            rintro e w' ⟨rfl, rfl⟩
            go_wp2_with fail
            go_ret2
            exact ⟨⟨0, _, rfl, by omega⟩, rfl⟩
        · have Q1 := hid (inB_f hi)
          clear hi g1 g2 g3
          refine (l1In_c _ _ _ _).mono ?_
          rw [Q1.out]
          rintro e w' ⟨rfl, rfl⟩
          go_wp2_with fail
          go_ret2
          exact ⟨⟨0, _, rfl, by omega⟩, rfl⟩
      · go_wp2_with fail
        go_ret2
        exact ⟨⟨x, _, rfl, HX.out⟩, rfl⟩

end Go.Proofs.Ytjaofbdfhcgmeaa

namespace Go.Proofs.Ytjaofbdfhcgmeaa
open Go.RowKit

def fmtD : Nat → Int → ByteArray → ByteArray
  | 0, _, t => t
  | f + 1, m, t => if m = 0 then t else fmtD f (m.tdiv 10) (strOfNums [48 + ((m.tmod 10).natAbs : Int)] ++ t)
def fmtI (n : Int) : ByteArray := if n = 0 then ⟨#[48]⟩ else if n < 0 then ⟨#[45]⟩ ++ fmtD n.natAbs n ⟨#[]⟩ else fmtD n.natAbs n ⟨#[]⟩
theorem fmtD_zero (f : Nat) (t : ByteArray) : fmtD f 0 t = t := by cases f <;> rfl
theorem size_num (x : Int) : (strOfNums [x]).size = 1 := rfl
theorem fmtD_size (f : Nat) : ∀ (m : Int) (t : ByteArray), (fmtD f m t).size ≤ t.size + f := by
  induction f with
  | zero => intro m t; exact Nat.le_refl _
  | succ f ih =>
    intro m t
    rw [fmtD]
    split
    · omega
    · have := ih (m.tdiv 10) (strOfNums [48 + ((m.tmod 10).natAbs : Int)] ++ t)
      rw [ByteArray.size_append, size_num] at this
      omega
theorem uB : Try.prog.underlying 22 = some (.slice 5) := by kernel_rfl
theorem uU : Try.prog.underlying 5 = some (.int .u8) := by kernel_rfl
/-- 'string([]byte{x})'. -/
theorem run_str1 (w : World) (x : Int) : (convert 22 9 (.slice (some ⟨w.heap.size, 0, none⟩) 1 1)).run Try.prog (w.alloc (.cells #[.int .u8 x] 5)) = .ok (.string (strOfNums [x])) (w.alloc (.cells #[.int .u8 x] 5)) :=
  run_convert_bytes_arg (P := Try.prog) _ 22 5 uB uU w.heap.size 0 1 1 [x] rfl (fun i hi => by
    have : i = 0 := by omega
    subst this
    exact ((St.start w).newAt #[.int .u8 x] 5 (by simp [maxLen]) (H := w.heap.size) rfl).hd.cell 0 (by simp)) _ uT

set_option maxHeartbeats 2000000 in
set_option maxRecDepth 100000 in
theorem FormatInt_c (n : Int) (h0 : -1000000000000000 ≤ n) (h1 : n ≤ 1000000000000000) (w : World) : Calls Try.prog 188 #[.int .i64 n] w fun e w' => e = .returned (.string (fmtI n)) ∧ Below w.heap.size w w' := by
  by_cases hz : n = 0
  · subst hz
    go_enter Try.func188, Try.ntmps188
    go_wp2_with fail
    go_ret
    exact ⟨rfl, Below.refl _ _⟩
  · have q0 : (n == 0) = false := by rw [beq_eq_false_iff_ne]; exact hz
    have HS := hid (St.start w)
    have E : Hid (fmtI n = if n < 0 then ⟨#[45]⟩ ++ fmtD n.natAbs n ⟨#[]⟩ else fmtD n.natAbs n ⟨#[]⟩) := if_neg hz
    obtain ⟨r, hr⟩ : ∃ r, r = fmtD n.natAbs n ⟨#[]⟩ := ⟨_, rfl⟩
    rw [← hr] at E
    have HR := hid hr
    have HRS : Hid (r.size ≤ n.natAbs) := by have h := fmtD_size n.natAbs n ⟨#[]⟩; rw [← hr] at h; have e : (⟨#[]⟩ : ByteArray).size = 0 := rfl; rw [e, Nat.zero_add] at h; exact h
    clear hr hz
    obtain ⟨sg, hsg⟩ : ∃ sg : Bool, sg = decide (n < 0) := ⟨_, rfl⟩
    have HSG := hid hsg
    go_enter Try.func188, Try.ntmps188
    go_wp2_with fail
    rw [← hsg]
    clear hsg
    go_loopw [0, 4] (fun a o wr => ∃ (m : Int) (t : ByteArray) (f : Nat), a = .int .i64 m ∧ o = .string t ∧ (m.natAbs ≤ f ∧ f + t.size ≤ n.natAbs ∧ fmtD f m t = r) ∧ St w wr []) (fun a _ _ => (intOf a).natAbs)
    case atStart => exact ⟨n, ⟨#[]⟩, n.natAbs, rfl, rfl, ⟨Nat.le_refl _, Nat.le_refl _, HR.out.symm⟩, HS.out⟩
    case round =>
      obtain ⟨m, t, f, rfl, rfl, hm, hS⟩ := hrel
      have HS2 := hid hS
      clear hS
      by_cases hz : m = 0
      · subst hz
        have e : t = r := by rw [← hm.2.2, fmtD_zero]
        subst e
        clear hm
        have ht : t.size + 1 ≤ 9223372036854775807 := by have := HRS.out; omega
        cases sg with
        | true =>
          have E2 : Hid (fmtI n = ⟨#[45]⟩ ++ t) := by show _ = _; rw [E.out, if_pos (of_decide_eq_true HSG.out.symm)]
          have hadd := run_string_add_sum (P := Try.prog) wr ⟨#[45]⟩ t (by have e : (⟨#[45]⟩ : ByteArray).size = 1 := rfl; omega)
          obtain ⟨y, hy⟩ : ∃ y, ⟨#[45]⟩ ++ t = y := ⟨_, rfl⟩
          rw [hy] at hadd E2
          clear hy
          go_wp2_with fail
          go_ret
          exact ⟨by rw [E2.out]; rfl, HS2.out.bel⟩
        | false =>
          have E2 : Hid (fmtI n = t) := by show _ = _; rw [E.out, if_neg (of_decide_eq_false HSG.out.symm)]
          go_wp2_with fail
          go_ret
          exact ⟨by rw [E2.out]; rfl, HS2.out.bel⟩
      · obtain ⟨f1, f2, f3⟩ := hm
        have qz : (m != 0) = true := by simp [hz]
        obtain ⟨d, hd⟩ : ∃ d, m.tmod 10 = d := ⟨_, rfl⟩
        obtain ⟨m', hm'⟩ : ∃ m', m.tdiv 10 = m' := ⟨_, rfl⟩
        have HD := hid hd
        have HM := hid hm'
        have hd9 : -9 ≤ d ∧ d ≤ 9 := by have h1 := Int.tmod_lt_of_pos m (show (0:Int) < 10 by omega); have h2 := Int.lt_tmod_of_pos m (show (0:Int) < 10 by omega); omega
        have hmm : m'.natAbs + 1 ≤ m.natAbs := by
          rw [← hm', Int.natAbs_tdiv]
          have : m.natAbs ≠ 0 := by omega
          exact Nat.div_lt_self (by omega) (by decide)
        by_cases hneg : d < 0
        · skip
          have hx : ((m.tmod 10).natAbs : Int) = -d := by rw [hd]; omega
          have hcv := run_str1 wr (48 + -d)
          obtain ⟨z, hz'⟩ : ∃ z, strOfNums [48 + -d] = z := ⟨_, rfl⟩
          have hzs : z.size = 1 := by rw [← hz']; rfl
          rw [hz'] at hcv
          have htz : t.size + 1 ≤ 9223372036854775807 := by omega
          have hadd := fun w' => run_string_add_sum (P := Try.prog) w' z t (by omega)
          obtain ⟨y, hy⟩ : ∃ y, z ++ t = y := ⟨_, rfl⟩
          have HYS : Hid (y.size = t.size + 1) := by show _ = _; rw [← hy, ByteArray.size_append, hzs]; omega
          rw [hy] at hadd
          obtain ⟨f', rfl⟩ : ∃ f', f = f' + 1 := ⟨f - 1, by omega⟩
          have HF : Hid (fmtD f' m' y = r) := by show _ = _; rw [← f3, fmtD, if_neg hz, hm', hx, hz', hy]
          clear hx hz' hy f3 hzs hz
          go_wp2_with fail
          go_roundw
          case rel => exact ⟨m', y, f', rfl, rfl, ⟨by omega, by have := HYS.out; omega, HF.out⟩, HS2.out.alloc _⟩
          case measure => simp [intOf]; omega
        · skip
          have hx : ((m.tmod 10).natAbs : Int) = d := by rw [hd]; omega
          have hcv := run_str1 wr (48 + d)
          obtain ⟨z, hz'⟩ : ∃ z, strOfNums [48 + d] = z := ⟨_, rfl⟩
          have hzs : z.size = 1 := by rw [← hz']; rfl
          rw [hz'] at hcv
          have htz : t.size + 1 ≤ 9223372036854775807 := by omega
          have hadd := fun w' => run_string_add_sum (P := Try.prog) w' z t (by omega)
          obtain ⟨y, hy⟩ : ∃ y, z ++ t = y := ⟨_, rfl⟩
          have HYS : Hid (y.size = t.size + 1) := by show _ = _; rw [← hy, ByteArray.size_append, hzs]; omega
          rw [hy] at hadd
          obtain ⟨f', rfl⟩ : ∃ f', f = f' + 1 := ⟨f - 1, by omega⟩
          have HF : Hid (fmtD f' m' y = r) := by show _ = _; rw [← f3, fmtD, if_neg hz, hm', hx, hz', hy]
          clear hx hz' hy f3 hzs hz
          go_wp2_with fail
          go_roundw
          case rel => exact ⟨m', y, f', rfl, rfl, ⟨by omega, by have := HYS.out; omega, HF.out⟩, HS2.out.alloc _⟩
          case measure => simp [intOf]; omega

end Go.Proofs.Ytjaofbdfhcgmeaa

namespace Go.Proofs.Ytjaofbdfhcgmeaa
open Go.RowKit

/-- A number, and whether it was fine. -/
def readRet (e : Ending) : Prop := ∃ x b, e = .returned (.tuple #[.int .i64 x, .bool b])
theorem ten_step {x d : Int} {k : Nat} (x0 : 0 ≤ x) (x1 : x < 10 ^ k) (d0 : 0 ≤ d) (d1 : d ≤ 9) : 0 ≤ 10 * x + d ∧ 10 * x + d < 10 ^ (k + 1) := by
  rw [Int.pow_succ]
  generalize (10 : Int) ^ k = p at *
  omega
theorem ten_le {x : Int} {k : Nat} (hk : k ≤ 12) (x1 : x < 10 ^ k) : x ≤ 999999999999 := by
  have : (10 : Nat) ^ k ≤ 10 ^ 12 := Nat.pow_le_pow_right (by omega) hk
  have h2 : ((10 : Int) ^ k) = ((10 ^ k : Nat) : Int) := by simp
  have h3 : (10 : Nat) ^ 12 = 1000000000000 := rfl
  omega
theorem run_from1 (s : ByteArray) (h : 1 ≤ s.size) (w : World) : (Instr.slice 9 (.string s) (some (.int .i64 1)) none none).run Try.prog w = .ok (.string (s.extract 1 s.size)) w := by
  have := run_slice_string_l (P := Try.prog) (w := w) (t := 9) (s := s) uT .i64 1 (by omega) (by omega)
  simpa using this

set_option maxHeartbeats 4000000 in
set_option maxRecDepth 100000 in
theorem l1Read_c (s : ByteArray) (hs : s.size ≤ 1000) (w : World) : Calls Try.prog 185 #[.string s, .int .i64 12] w fun e w' => readRet e ∧ Below w.heap.size w w' := by
  by_cases h0 : 0 < s.size
  · by_cases hb : ((s[0].toNat : Nat) : Int) = 45
    · have q1 : (((s[0].toNat : Nat) : Int) == 45) = true := by simp [hb]
      have hcut := run_from1 s (by omega)
      obtain ⟨t, ht⟩ : ∃ t, t = s.extract 1 s.size := ⟨_, rfl⟩
      rw [← ht] at hcut
      clear ht hb
      by_cases h1 : t.size < 1
      · go_enter Try.func185, Try.ntmps185
        go_wp2_with fail
        all_goals (go_ret2; exact ⟨⟨0, _, rfl⟩, Below.refl _ _⟩)
      · by_cases h2 : 12 < t.size
        · go_enter Try.func185, Try.ntmps185
          go_wp2_with fail
          all_goals (go_ret2; exact ⟨⟨0, _, rfl⟩, Below.refl _ _⟩)
        · go_enter Try.func185, Try.ntmps185
          go_wp2_with fail
          go_loop [8, 9] (fun o c => ∃ (k : Nat) (x : Int), k ≤ t.size ∧ c = .int .i64 k ∧ o = .int .i64 x ∧ 0 ≤ x ∧ x < 10 ^ k) (fun _ c => t.size - (intOf c).toNat)
          case atStart => exact ⟨0, 0, Nat.zero_le _, rfl, rfl, by omega, by simp⟩
          case round =>
            obtain ⟨k, x, hk, rfl, rfl, hx0, hx1⟩ := hrel
            have HX1 := hid hx1
            have hx2 := ten_le (by omega) hx1
            clear hx1
            by_cases hlt : k < t.size
            · obtain ⟨c, hc⟩ : ∃ c : Int, (t[k].toNat : Int) = c := ⟨_, rfl⟩
              have c0 : 0 ≤ c := by omega
              have c1 : c ≤ 255 := by have := t[k].toNat_lt; omega
              by_cases h48 : c < 48
              · have q48 : decide (c < 48) = true := decide_eq_true h48
                go_wp2_with fail
                go_ret2
                exact ⟨⟨0, _, rfl⟩, Below.refl _ _⟩
              · have q48 : decide (c < 48) = false := decide_eq_false h48
                by_cases h57 : 57 < c
                · have q57 : decide (57 < c) = true := decide_eq_true h57
                  go_wp2_with fail
                  go_ret2
                  exact ⟨⟨0, _, rfl⟩, Below.refl _ _⟩
                · have q57 : decide (57 < c) = false := decide_eq_false h57
                  have HT := hid (ten_step hx0 HX1.out (d := c - 48) (by omega) (by omega))
                  go_wp2_with fail
                  go_round
                  case rel => exact ⟨k + 1, _, by omega, by go_num, rfl, HT.out.1, HT.out.2⟩
                  case measure => simp [intOf]; omega
            · go_wp2_with fail
              refine (FormatInt_c _ (by omega) (by omega) _).mono ?_
              rintro e w1 ⟨rfl, hB⟩
              have HB := hid hB
              clear hB
              go_wp2_with fail
              all_goals
                go_ret2
                exact ⟨⟨_, _, rfl⟩, HB.out⟩
    · have q1 : (((s[0].toNat : Nat) : Int) == 45) = false := by simp [hb]
      clear hb
      by_cases h1 : s.size < 1
      · go_enter Try.func185, Try.ntmps185
        go_wp2_with fail
        all_goals (go_ret2; exact ⟨⟨0, _, rfl⟩, Below.refl _ _⟩)
      · by_cases h2 : 12 < s.size
        · go_enter Try.func185, Try.ntmps185
          go_wp2_with fail
          all_goals (go_ret2; exact ⟨⟨0, _, rfl⟩, Below.refl _ _⟩)
        · go_enter Try.func185, Try.ntmps185
          go_wp2_with fail
          go_loop [8, 9] (fun o c => ∃ (k : Nat) (x : Int), k ≤ s.size ∧ c = .int .i64 k ∧ o = .int .i64 x ∧ 0 ≤ x ∧ x < 10 ^ k) (fun _ c => s.size - (intOf c).toNat)
          case atStart => exact ⟨0, 0, Nat.zero_le _, rfl, rfl, by omega, by simp⟩
          case round =>
            obtain ⟨k, x, hk, rfl, rfl, hx0, hx1⟩ := hrel
            have HX1 := hid hx1
            have hx2 := ten_le (by omega) hx1
            clear hx1
            by_cases hlt : k < s.size
            · obtain ⟨c, hc⟩ : ∃ c : Int, (s[k].toNat : Int) = c := ⟨_, rfl⟩
              have c0 : 0 ≤ c := by omega
              have c1 : c ≤ 255 := by have := s[k].toNat_lt; omega
              by_cases h48 : c < 48
              · have q48 : decide (c < 48) = true := decide_eq_true h48
                go_wp2_with fail
                go_ret2
                exact ⟨⟨0, _, rfl⟩, Below.refl _ _⟩
              · have q48 : decide (c < 48) = false := decide_eq_false h48
                by_cases h57 : 57 < c
                · have q57 : decide (57 < c) = true := decide_eq_true h57
                  go_wp2_with fail
                  go_ret2
                  exact ⟨⟨0, _, rfl⟩, Below.refl _ _⟩
                · have q57 : decide (57 < c) = false := decide_eq_false h57
                  have HT := hid (ten_step hx0 HX1.out (d := c - 48) (by omega) (by omega))
                  go_wp2_with fail
                  go_round
                  case rel => exact ⟨k + 1, _, by omega, by go_num, rfl, HT.out.1, HT.out.2⟩
                  case measure => simp [intOf]; omega
            · go_wp2_with fail
              refine (FormatInt_c _ (by omega) (by omega) _).mono ?_
              rintro e w1 ⟨rfl, hB⟩
              have HB := hid hB
              clear hB
              go_wp2_with fail
              all_goals
                go_ret2
                exact ⟨⟨_, _, rfl⟩, HB.out⟩
  · have h1 : s.size < 1 := by omega
    go_enter Try.func185, Try.ntmps185
    go_wp2_with fail
    go_ret2
    exact ⟨⟨0, _, rfl⟩, Below.refl _ _⟩

set_option maxHeartbeats 1000000 in
theorem ParseInt_c (s : ByteArray) (hs : s.size ≤ 1000) (w : World) : Calls Try.prog 166 #[.string s] w fun e w' => readRet e ∧ Below w.heap.size w w' := by
  have HK := hid (l1Read_c s hs w)
  go_enter Try.func166, Try.ntmps166
  go_wp2_with fail
  refine HK.out.mono ?_
  rintro e w1 ⟨⟨x, b, rfl⟩, hB⟩
  have HB := hid hB
  clear hB
  go_wp2_with fail
  go_ret2
  exact ⟨⟨_, _, rfl⟩, HB.out⟩

end Go.Proofs.Ytjaofbdfhcgmeaa

namespace Go.Proofs.Ytjaofbdfhcgmeaa
open Go.RowKit

set_option maxHeartbeats 1000000 in
set_option maxRecDepth 100000 in
theorem l1Pick_c (vl : Value) (ts : List ByteArray) (g : Nat) (vb : Value) (bs : List Int) (w0 w : World) (env : List Ent) (hv : ⟨vl, 9, strs ts⟩ ∈ env) (hx : 0 < ts.length) (hC : Cr w0 w g vb bs env) :
    Calls Try.prog 180 #[cp g, vl] w fun e w' => ∃ t, e = .returned (.string t) ∧ t ∈ ts ∧ Cr w0 w' g vb bs env := by
  have HK := hid (l1Below_c ts.length g vb bs w0 w env hC)
  have la := (hC.rd hv).ln tT
  rw [length_strs] at la
  clear hC
  unfold cp at HK ⊢
  go_enter Try.func180, Try.ntmps180
  go_wp2_with fail
  refine HK.out.mono ?_
  rintro e w1 ⟨x, rfl, hb, hC1⟩
  obtain ⟨b0, b1⟩ := hb.rng (by omega)
  obtain ⟨j, rfl⟩ : ∃ j : Nat, x = j := ⟨x.toNat, by omega⟩
  have hj : j < ts.length := by omega
  have f1 := (hC1.rd hv).ix tT j (by simpa using hj)
  have f2 := (hC1.rd hv).cell j (by simpa using hj)
  rw [strs_get hj] at f2
  have HC1 := hid hC1
  clear hC1 hb
  go_wp2_with fail
  go_ret
  exact ⟨_, rfl, gs_mem hj, HC1.out⟩

/-- A complex, and whether it was fine; its sets are the call's own. -/
def cxRet (w w' : World) (e : Ending) : Prop := ∃ n v fs b, e = .returned (.tuple #[cx n v, .bool b]) ∧ fs.length ≤ 1001 ∧ St w w' [⟨v, 3, ints fs⟩]

set_option maxHeartbeats 4000000 in
set_option maxRecDepth 100000 in
theorem ParseComplex_c (s : ByteArray) (hs : s.size ≤ 1000) (w : World) : Calls Try.prog 119 #[.string s] w fun e w' => cxRet w w' e := by
  have HS := hid ((St.start w).box 0 (.slice none 0 0) 30)
  have HK := hid (fun s hs b w => SplitByte_c s hs b w)
  go_enter Try.func119, Try.ntmps119
  go_wp2_with fail
  refine (HK.out s hs _ _).mono ?_
  rintro e w1 ⟨v1, ts, rfl, ⟨hl, ht⟩, hS1⟩
  have hS2 := HS.out.call1 hS1
  have la := hS2.hd.ln tT
  rw [length_strs] at la
  have HT := hid ht
  by_cases h2 : ts.length = 2
  · have q2 : ((ts.length : Int) != 2) = false := by simp [h2]
    have f1 : ∀ w' : World, (Instr.indexAt 106 v1 (.int .i64 0)).run Try.prog w' = .ok (.pointer (some (adr v1 0))) w' := hS2.hd.ix tT 0 (by simp; omega)
    have f2 := hS2.hd.cell 0 (by simp; omega)
    rw [strs_get (by omega)] at f2
    have f3 : ∀ w' : World, (Instr.indexAt 106 v1 (.int .i64 1)).run Try.prog w' = .ok (.pointer (some (adr v1 1))) w' := hS2.hd.ix tT 1 (by simp; omega)
    have HT0 := hid (ht _ (gs_mem (show 0 < ts.length by omega)))
    have HT1 := hid (ht _ (gs_mem (show 1 < ts.length by omega)))
    obtain ⟨t0, ht0⟩ : ∃ t0, t0 = gs ts 0 := ⟨_, rfl⟩
    obtain ⟨t1, ht1⟩ : ∃ t1, t1 = gs ts 1 := ⟨_, rfl⟩
    rw [← ht0] at f2 HT0
    rw [← ht1] at HT1
    have HE1 := hid ht1
    have HS2 := hid hS2
    clear ht0 ht1 ht hS2 hS1
    go_wp2_with fail
    refine (ParseInt_c t0 (by have := HT0.out; omega) _).mono ?_
    rintro e w2 ⟨⟨x, ok, rfl⟩, hB⟩
    have hS3 := (HS2.out.quiet hB).boxAt x (.slice none 0 0) 30 (H := w2.heap.size) rfl
    have f4 := hS3.hd2.cell 1 (by simp; omega)
    rw [strs_get (by omega), ← HE1.out] at f4
    have HS3 := hid hS3
    clear hS3 hB f1 f2
    go_wp2_with fail
    refine (HK.out t1 (by have := HT1.out; omega) _ _).mono ?_
    rintro e w3 ⟨v2, us, rfl, ⟨hul, hut⟩, hS4⟩
    have HU : Hid (∀ t ∈ us, t.size ≤ 1000) := fun t h => by have := hut t h; have := HT1.out; omega
    have hul2 : us.length ≤ 1001 := by have := HT1.out; omega
    have hS5 := (HS3.out.call1 hS4).swap.nilRow 3
    have lu := hS5.hd3.ln tT
    rw [length_strs] at lu
    have HS5 := hid hS5
    clear hS5 hS4 hut hul f4
    obtain ⟨C, hC⟩ : ∃ C, C = w2.heap.size := ⟨_, rfl⟩
    rw [← hC] at HS5 ⊢
    clear hC
    go_wp2_with fail
    go_loopw [9] (fun c wr => ∃ (k : Nat) (p : Option Addr) (l q : Nat) (fs : List Int), k ≤ us.length ∧ c = .int .i64 k ∧ fs.length = k ∧ St w wr [⟨.slice p l q, 3, ints fs⟩, ⟨bx C, 30, [.int .i64 x, .slice p l q]⟩, ⟨v2, 9, strs us⟩, ⟨v1, 9, strs ts⟩, ⟨bx w.heap.size, 30, [.int .i64 0, .slice none 0 0]⟩]) (fun c _ => us.length - (intOf c).toNat)
    case atStart => exact ⟨0, none, 0, 0, [], Nat.zero_le _, rfl, rfl, HS5.out⟩
    case round =>
      obtain ⟨k, p, l, q, fs, hk, rfl, hfl, hS⟩ := hrel
      have g4 := hS.hd4.cell 1 (by simp; omega)
      rw [strs_get (by omega), ← HE1.out] at g4
      have HS6 := hid hS
      by_cases hlt : k < us.length
      · cases hd : (!t1.toList.isEmpty) with
        | false =>
          have hrd := hS.hd
          have c0 := hS.hd2.c0
          have c1 := hS.hd2.c1
          have d0 := hS.hd5.c0
          have d1 := hS.hd5.c1
          have s0 : wr.frozen? ⟨w.heap.size, 0, none⟩ = false := hS.own.free (v := bx w.heap.size) (.tail _ (.tail _ (.tail _ (.tail _ (.head _))))) 0 (by simp)
          have s1 : wr.frozen? ⟨w.heap.size, 1, none⟩ = false := hS.own.free (v := bx w.heap.size) (.tail _ (.tail _ (.tail _ (.tail _ (.head _))))) 1 (by simp)
          clear hS
          cases ok with
          | false =>
            go_wp2_with fail
            have hS7 := ((HS6.out.bring (l1 := [_, _, _, _])).set 0 (by simp) (.int .i64 0)).set 1 (by simp) (.slice none 0 0)
            exact bodyPost_ret (ret_cx2 rfl rfl rfl hS7.hd) rfl ⟨_, .slice none 0 0, [], _, rfl, by simp, (hS7.sub (List.nil_sublist _)).nilRow _⟩
          | true =>
            go_wp2_with fail
            refine (sIsComplex_c x _ fs _ hrd).mono ?_
            rintro e w5 ⟨rfl, hB⟩
            have hS7 := HS6.out.quiet hB
            clear c0 c1 d0 d1 s0 s1
            have c0 := hS7.hd2.c0
            have c1 := hS7.hd2.c1
            have d0 := hS7.hd5.c0
            have d1 := hS7.hd5.c1
            have s0 : w5.frozen? ⟨w.heap.size, 0, none⟩ = false := hS7.own.free (v := bx w.heap.size) (.tail _ (.tail _ (.tail _ (.tail _ (.head _))))) 0 (by simp)
            have s1 : w5.frozen? ⟨w.heap.size, 1, none⟩ = false := hS7.own.free (v := bx w.heap.size) (.tail _ (.tail _ (.tail _ (.tail _ (.head _))))) 1 (by simp)
            have HS7 := hid hS7
            clear hS7 hB
            cases hc : isC x fs with
            | false =>
              clear hc
              go_wp2_with fail
              have hS8 := ((HS7.out.bring (l1 := [_, _, _, _])).set 0 (by simp) (.int .i64 0)).set 1 (by simp) (.slice none 0 0)
              exact bodyPost_ret (ret_cx2 rfl rfl rfl hS8.hd) rfl ⟨_, .slice none 0 0, [], _, rfl, by simp, (hS8.sub (List.nil_sublist _)).nilRow _⟩
            | true =>
              clear hc
              go_wp2_with fail
              have hS8 := ((HS7.out.bring (l1 := [_, _, _, _])).set 0 (by simp) (.int .i64 x)).set 1 (by simp) (.slice p l q)
              exact bodyPost_ret (ret_cx2 rfl rfl rfl hS8.hd) rfl ⟨_, _, fs, _, rfl, by omega, hS8.sub (.cons _ (.cons_cons _ (List.nil_sublist _)))⟩
        | true =>
          have f1 := hS.hd3.ix tT k (by simpa using hlt)
          have f2 := hS.hd3.cell k (by simpa using hlt)
          rw [strs_get hlt] at f2
          have HG := hid (HU.out _ (gs_mem hlt))
          clear hS
          go_wp2_with fail
          refine (ParseSet_c _ HG.out _).mono ?_
          rintro e w' ⟨⟨y, b, rfl, hy⟩, rfl⟩
          have HY := hid hy
          clear hy
          cases b with
          | false =>
            have d0 := HS6.out.hd5.c0
            have d1 := HS6.out.hd5.c1
            have s0 : wr.frozen? ⟨w.heap.size, 0, none⟩ = false := HS6.out.own.free (v := bx w.heap.size) (.tail _ (.tail _ (.tail _ (.tail _ (.head _))))) 0 (by simp)
            have s1 : wr.frozen? ⟨w.heap.size, 1, none⟩ = false := HS6.out.own.free (v := bx w.heap.size) (.tail _ (.tail _ (.tail _ (.tail _ (.head _))))) 1 (by simp)
            go_wp2_with fail
            have hS7 := ((HS6.out.bring (l1 := [_, _, _, _])).set 0 (by simp) (.int .i64 0)).set 1 (by simp) (.slice none 0 0)
            exact bodyPost_ret (ret_cx2 rfl rfl rfl hS7.hd) rfl ⟨_, .slice none 0 0, [], _, rfl, by simp, (hS7.sub (List.nil_sublist _)).nilRow _⟩
          | true =>
            have c0 := HS6.out.hd2.c0
            have c1 := HS6.out.hd2.c1
            go_wp2_with (at_builtin; refine wpList_push rfl _ _ rfl tI HS6.out.own (.int .i64 y) rfl (by simp; omega) rfl rfl ?_)
            intro v4 w4 hO4 hb4
            rw [ints_snoc] at hO4
            have hS7 := HS6.out.mut hO4 hb4
            obtain ⟨p', l', q', rfl⟩ := hS7.hd.form
            clear c0 c1
            have c0 := hS7.hd2.c0
            have c1 := hS7.hd2.c1
            have s1 : w4.frozen? ⟨C, 1, none⟩ = false := hS7.own.free (v := bx C) (.tail _ (.head _)) 1 (by simp)
            have HS7 := hid hS7
            clear hO4 hb4 hS7
            go_wp2_with fail
            go_roundw
            case rel =>
              have hS8 := (HS7.out.swap.set 1 (by simp) (.slice p' l' q')).swap
              exact ⟨k + 1, p', l', q', fs ++ [y], by omega, by go_num, by simp; omega, hS8⟩
            case measure => simp [intOf]; omega
      · skip
        have hrd := hS.hd
        have c0 := hS.hd2.c0
        have c1 := hS.hd2.c1
        have d0 := hS.hd5.c0
        have d1 := hS.hd5.c1
        have s0 : wr.frozen? ⟨w.heap.size, 0, none⟩ = false := hS.own.free (v := bx w.heap.size) (.tail _ (.tail _ (.tail _ (.tail _ (.head _))))) 0 (by simp)
        have s1 : wr.frozen? ⟨w.heap.size, 1, none⟩ = false := hS.own.free (v := bx w.heap.size) (.tail _ (.tail _ (.tail _ (.tail _ (.head _))))) 1 (by simp)
        clear hS
        cases ok with
        | false =>
          go_wp2_with fail
          have hS7 := ((HS6.out.bring (l1 := [_, _, _, _])).set 0 (by simp) (.int .i64 0)).set 1 (by simp) (.slice none 0 0)
          exact bodyPost_ret (ret_cx2 rfl rfl rfl hS7.hd) rfl ⟨_, .slice none 0 0, [], _, rfl, by simp, (hS7.sub (List.nil_sublist _)).nilRow _⟩
        | true =>
          go_wp2_with fail
          refine (sIsComplex_c x _ fs _ hrd).mono ?_
          rintro e w5 ⟨rfl, hB⟩
          have hS7 := HS6.out.quiet hB
          clear c0 c1 d0 d1 s0 s1
          have c0 := hS7.hd2.c0
          have c1 := hS7.hd2.c1
          have d0 := hS7.hd5.c0
          have d1 := hS7.hd5.c1
          have s0 : w5.frozen? ⟨w.heap.size, 0, none⟩ = false := hS7.own.free (v := bx w.heap.size) (.tail _ (.tail _ (.tail _ (.tail _ (.head _))))) 0 (by simp)
          have s1 : w5.frozen? ⟨w.heap.size, 1, none⟩ = false := hS7.own.free (v := bx w.heap.size) (.tail _ (.tail _ (.tail _ (.tail _ (.head _))))) 1 (by simp)
          have HS7 := hid hS7
          clear hS7 hB
          cases hc : isC x fs with
          | false =>
            clear hc
            go_wp2_with fail
            have hS8 := ((HS7.out.bring (l1 := [_, _, _, _])).set 0 (by simp) (.int .i64 0)).set 1 (by simp) (.slice none 0 0)
            exact bodyPost_ret (ret_cx2 rfl rfl rfl hS8.hd) rfl ⟨_, .slice none 0 0, [], _, rfl, by simp, (hS8.sub (List.nil_sublist _)).nilRow _⟩
          | true =>
            clear hc
            go_wp2_with fail
            have hS8 := ((HS7.out.bring (l1 := [_, _, _, _])).set 0 (by simp) (.int .i64 x)).set 1 (by simp) (.slice p l q)
            exact bodyPost_ret (ret_cx2 rfl rfl rfl hS8.hd) rfl ⟨_, _, fs, _, rfl, by omega, hS8.sub (.cons _ (.cons_cons _ (List.nil_sublist _)))⟩
  · have q2 : ((ts.length : Int) != 2) = true := by simp; omega
    have d0 := hS2.hd2.c0
    have d1 := hS2.hd2.c1
    have s0 : w1.frozen? ⟨w.heap.size, 0, none⟩ = false := hS2.own.free (v := bx w.heap.size) (.tail _ (.head _)) 0 (by simp)
    have s1 : w1.frozen? ⟨w.heap.size, 1, none⟩ = false := hS2.own.free (v := bx w.heap.size) (.tail _ (.head _)) 1 (by simp)
    have HS2 := hid hS2
    clear hS2 hS1 ht
    go_wp2_with fail
    have hS6 := (HS2.out.swap.set 0 (by simp) (.int .i64 0)).set 1 (by simp) (.slice none 0 0)
    exact bodyPost_ret (ret_cx2 rfl rfl rfl hS6.hd) rfl ⟨_, .slice none 0 0, [], _, rfl, by simp, (hS6.sub (List.nil_sublist _)).nilRow _⟩

end Go.Proofs.Ytjaofbdfhcgmeaa

namespace Go.Proofs.Ytjaofbdfhcgmeaa
open Go.RowKit

theorem Cr.bring {w0 w : World} {g : Nat} {vb : Value} {bs : List Int} {l1 l2 : List Ent} {x : Ent} (h : Cr w0 w g vb bs (l1 ++ x :: l2)) : Cr w0 w g vb bs (x :: (l1 ++ l2)) := h.map fun _ hS => hS.perm (List.Perm.cons _ List.perm_middle)
def texts : List ByteArray := [⟨#[54, 58, 97, 98, 99, 44, 97, 99, 100, 44, 97, 98, 101, 44, 97, 100, 101, 44, 98, 99, 102, 44, 99, 100, 102, 44, 98, 101, 102, 44, 100, 101, 102]⟩, ⟨#[54, 58, 97, 99, 100, 44, 98, 99, 100, 44, 97, 98, 101, 44, 97, 99, 101, 44, 98, 100, 101, 44, 97, 98, 102, 44, 98, 99, 102, 44, 97, 100, 102, 44, 99, 101, 102, 44, 100, 101, 102]⟩, ⟨#[54, 58, 97, 98, 100, 44, 97, 98, 101, 44, 97, 99, 101, 44, 98, 99, 101, 44, 99, 100, 101, 44, 97, 99, 102, 44, 98, 99, 102, 44, 97, 100, 102, 44, 98, 100, 102]⟩, ⟨#[53, 58, 97, 98, 44, 98, 99, 44, 99, 100, 44, 97, 101, 44, 100, 101]⟩, ⟨#[52, 58, 97, 98, 44, 98, 99, 44, 99, 100]⟩, ⟨#[54, 58, 97, 98, 44, 99, 100, 44, 101, 102]⟩, ⟨#[53, 58, 97, 98, 99, 44, 99, 100, 101]⟩, ⟨#[52, 58, 97, 98, 99, 44, 97, 98, 100]⟩]
theorem texts_size : ∀ t ∈ texts, t.size ≤ 1000 := by
  intro t ht
  simp only [texts, List.mem_cons, List.not_mem_nil, or_false] at ht
  rcases ht with rfl | rfl | rfl | rfl | rfl | rfl | rfl | rfl <;> decide

set_option maxHeartbeats 4000000 in
set_option maxRecDepth 100000 in
theorem l3Draw_c (g : Nat) (vb : Value) (bs : List Int) (w0 w : World) (env : List Ent) (hC : Cr w0 w g vb bs env) :
    Calls Try.prog 157 #[cp g] w fun e w' => ∃ n v fs, e = .returned (cx n v) ∧ fs.length ≤ 1001 ∧ Cr w0 w' g vb bs (⟨v, 3, ints fs⟩ :: env) := by
  have HC := hid ((hC.boxAt 0 (.slice none 0 0) 30 (H := w.heap.size) rfl).newAt #[.int .i64 1, .int .i64 2, .int .i64 3, .int .i64 4, .int .i64 4, .int .i64 5, .int .i64 5, .int .i64 6] 3 (by simp [maxLen]) (H := w.heap.size + 1) (by simp))
  clear hC
  have HK := hid (fun n w env h => l1Below_c n g vb bs w0 w env h)
  have HP := hid (fun vl xs w env hv hx h => l1PickInt_c vl xs g vb bs w0 w env hv hx h)
  have HT := hid (fun vl ts w env hv hx h => l1Pick_c vl ts g vb bs w0 w env hv hx h)
  have HU := hid (fun n h0 h6 w env h => l3Pure_c n h0 h6 g vb bs w0 w env h)
  have HZ := hid (fun n h0 h6 w env h => l3Size_c n h0 h6 g vb bs w0 w env h)
  unfold cp at HK HP HT HU HZ ⊢
  go_enter Try.func157, Try.ntmps157
  go_wp2_with fail
  refine (HP.out _ [1, 2, 3, 4, 4, 5, 5, 6] _ _ (.head _) (by simp) HC.out).mono ?_
  rintro e w1 ⟨n, rfl, hm, hC1⟩
  have hn : 1 ≤ n ∧ n ≤ 6 := by simp at hm; omega
  obtain ⟨n1, n6⟩ := hn
  have HC1 := hid hC1.tail
  clear hC1 hm
  go_wp2_with fail
  refine (HK.out _ _ _ HC1.out).mono ?_
  rintro e w2 ⟨y, rfl, hb, hC2⟩
  obtain ⟨y0, y1⟩ := hb.rng (by omega)
  have HC2 := hid hC2
  clear hb hC2
  by_cases e0 : y = 0
  · subst e0
    go_wp2_with fail
    refine (BorderComplex_c n n1 n6 _).mono ?_
    rintro e w3 ⟨v, fs, rfl, hl, hS⟩
    obtain ⟨p, l, c, rfl⟩ := hS.hd.form
    have hC3 := (HC2.out.call1 hS).boxAt n (.slice p l c) 30 (H := w3.heap.size) rfl
    have b0 := hC3.hd.c0
    have b1 := hC3.hd.c1
    have d0 := (hC3.tail.tail).hd.c0
    have d1 := (hC3.tail.tail).hd.c1
    have s0 := hC3.free (v := bx w.heap.size) (.tail _ (.tail _ (.head _))) 0 (by simp)
    have s1 := hC3.free (v := bx w.heap.size) (.tail _ (.tail _ (.head _))) 1 (by simp)
    have s0' : World.frozen? (World.alloc _ _) ⟨w.heap.size, 0, none⟩ = false := s0
    have s1' : World.frozen? (World.alloc _ _) ⟨w.heap.size, 1, none⟩ = false := s1
    have HC5 := hid hC3
    clear hC3 hS s0 s1
    unfold cx
    go_wp2_with fail
    have hC6 := ((HC5.out.bring (l1 := [_, _])).set 0 (by simp) (.int .i64 n)).set 1 (by simp) (.slice p l c)
    exact bodyPost_ret (ret_cx rfl rfl hC6.hd) rfl ⟨_, _, fs, rfl, by omega, hC6.sub (.cons _ (.cons _ (List.Sublist.refl _)))⟩
  · by_cases e1 : y = 1
    · subst e1
      go_wp2_with fail
      have HC3 := hid (HC2.out.newAt #[.string ⟨#[54, 58, 97, 98, 99, 44, 97, 99, 100, 44, 97, 98, 101, 44, 97, 100, 101, 44, 98, 99, 102, 44, 99, 100, 102, 44, 98, 101, 102, 44, 100, 101, 102]⟩, .string ⟨#[54, 58, 97, 99, 100, 44, 98, 99, 100, 44, 97, 98, 101, 44, 97, 99, 101, 44, 98, 100, 101, 44, 97, 98, 102, 44, 98, 99, 102, 44, 97, 100, 102, 44, 99, 101, 102, 44, 100, 101, 102]⟩, .string ⟨#[54, 58, 97, 98, 100, 44, 97, 98, 101, 44, 97, 99, 101, 44, 98, 99, 101, 44, 99, 100, 101, 44, 97, 99, 102, 44, 98, 99, 102, 44, 97, 100, 102, 44, 98, 100, 102]⟩, .string ⟨#[53, 58, 97, 98, 44, 98, 99, 44, 99, 100, 44, 97, 101, 44, 100, 101]⟩, .string ⟨#[52, 58, 97, 98, 44, 98, 99, 44, 99, 100]⟩, .string ⟨#[54, 58, 97, 98, 44, 99, 100, 44, 101, 102]⟩, .string ⟨#[53, 58, 97, 98, 99, 44, 99, 100, 101]⟩, .string ⟨#[52, 58, 97, 98, 99, 44, 97, 98, 100]⟩] 9 (by simp [maxLen]) (H := w2.heap.size) rfl)
      refine (HT.out _ texts _ _ (.head _) (by simp [texts]) HC3.out).mono ?_
      rintro e w3 ⟨t, rfl, ht, hC4⟩
      have HC4 := hid hC4.tail
      have HTS := hid (texts_size t ht)
      clear hC4 ht
      go_wp2_with fail
      refine (ParseComplex_c t HTS.out _).mono ?_
      rintro e w4 ⟨n, v, fs, b, rfl, hl, hS⟩
      obtain ⟨p, l, c, rfl⟩ := hS.hd.form
      have hC3 := (HC4.out.call1 hS).boxAt n (.slice p l c) 30 (H := w4.heap.size) rfl
      have b0 := hC3.hd.c0
      have b1 := hC3.hd.c1
      have d0 := (hC3.tail.tail).hd.c0
      have d1 := (hC3.tail.tail).hd.c1
      have s0 := hC3.free (v := bx w.heap.size) (.tail _ (.tail _ (.head _))) 0 (by simp)
      have s1 := hC3.free (v := bx w.heap.size) (.tail _ (.tail _ (.head _))) 1 (by simp)
      have s0' : World.frozen? (World.alloc _ _) ⟨w.heap.size, 0, none⟩ = false := s0
      have s1' : World.frozen? (World.alloc _ _) ⟨w.heap.size, 1, none⟩ = false := s1
      have HC5 := hid hC3
      clear hC3 hS s0 s1
      unfold cx
      go_wp2_with fail
      have hC6 := ((HC5.out.bring (l1 := [_, _])).set 0 (by simp) (.int .i64 n)).set 1 (by simp) (.slice p l c)
      exact bodyPost_ret (ret_cx rfl rfl hC6.hd) rfl ⟨_, _, fs, rfl, by omega, hC6.sub (.cons _ (.cons _ (List.Sublist.refl _)))⟩
    · have q0 : (y == 0) = false := by rw [beq_eq_false_iff_ne]; exact e0
      have q1 : (y == 1) = false := by rw [beq_eq_false_iff_ne]; exact e1
      by_cases e2 : y = 2 ∨ y = 3
      · rcases e2 with e2 | e2
        · subst e2
          go_wp2_with fail
          refine (HU.out n n1 n6 _ _ HC2.out).mono ?_
          rintro e w3 ⟨v, fs, rfl, hl, hC3⟩
          obtain ⟨p, l, c, rfl⟩ := hC3.hd.form
          have d0 := hC3.tail.hd.c0
          have d1 := hC3.tail.hd.c1
          have s0 : w3.frozen? ⟨w.heap.size, 0, none⟩ = false := hC3.free (v := bx w.heap.size) (.tail _ (.head _)) 0 (by simp)
          have s1 : w3.frozen? ⟨w.heap.size, 1, none⟩ = false := hC3.free (v := bx w.heap.size) (.tail _ (.head _)) 1 (by simp)
          have HC3 := hid hC3
          clear hC3
          unfold cx
          go_wp2_with fail
          have hC6 := (HC3.out.swap.set 0 (by simp) (.int .i64 n)).set 1 (by simp) (.slice p l c)
          exact bodyPost_ret (ret_cx rfl rfl hC6.hd) rfl ⟨_, _, fs, rfl, by omega, hC6.tail⟩
        · subst e2
          go_wp2_with fail
          refine (HU.out n n1 n6 _ _ HC2.out).mono ?_
          rintro e w3 ⟨v, fs, rfl, hl, hC3⟩
          obtain ⟨p, l, c, rfl⟩ := hC3.hd.form
          have d0 := hC3.tail.hd.c0
          have d1 := hC3.tail.hd.c1
          have s0 : w3.frozen? ⟨w.heap.size, 0, none⟩ = false := hC3.free (v := bx w.heap.size) (.tail _ (.head _)) 0 (by simp)
          have s1 : w3.frozen? ⟨w.heap.size, 1, none⟩ = false := hC3.free (v := bx w.heap.size) (.tail _ (.head _)) 1 (by simp)
          have HC3 := hid hC3
          clear hC3
          unfold cx
          go_wp2_with fail
          have hC6 := (HC3.out.swap.set 0 (by simp) (.int .i64 n)).set 1 (by simp) (.slice p l c)
          exact bodyPost_ret (ret_cx rfl rfl hC6.hd) rfl ⟨_, _, fs, rfl, by omega, hC6.tail⟩
      · have q2 : (y == 2) = false := by rw [beq_eq_false_iff_ne]; omega
        have q3 : (y == 3) = false := by rw [beq_eq_false_iff_ne]; omega
        clear e0 e1 e2
        go_wp2_with fail
        refine (HZ.out n n1 n6 _ _ HC2.out).mono ?_
        rintro e w3 ⟨v, fs, rfl, hl, hC3⟩
        obtain ⟨p, l, c, rfl⟩ := hC3.hd.form
        have d0 := hC3.tail.hd.c0
        have d1 := hC3.tail.hd.c1
        have s0 : w3.frozen? ⟨w.heap.size, 0, none⟩ = false := hC3.free (v := bx w.heap.size) (.tail _ (.head _)) 0 (by simp)
        have s1 : w3.frozen? ⟨w.heap.size, 1, none⟩ = false := hC3.free (v := bx w.heap.size) (.tail _ (.head _)) 1 (by simp)
        have HC3 := hid hC3
        clear hC3
        unfold cx
        go_wp2_with fail
        have hC6 := (HC3.out.swap.set 0 (by simp) (.int .i64 n)).set 1 (by simp) (.slice p l c)
        exact bodyPost_ret (ret_cx rfl rfl hC6.hd) rfl ⟨_, _, fs, rfl, by omega, hC6.tail⟩

set_option maxHeartbeats 4000000 in
set_option maxRecDepth 100000 in
theorem l3Bent_c (g : Nat) (vb : Value) (bs : List Int) (w0 w : World) (env : List Ent) (hC : Cr w0 w g vb bs env) :
    Calls Try.prog 107 #[cp g] w fun e w' => ∃ n v fs, e = .returned (cx n v) ∧ fs.length ≤ 1002 ∧ Cr w0 w' g vb bs (⟨v, 3, ints fs⟩ :: env) := by
  have HC := hid (hC.boxAt 0 (.slice none 0 0) 30 (H := w.heap.size) rfl)
  clear hC
  have HK := hid (fun n w env h => l1Below_c n g vb bs w0 w env h)
  have HP := hid (fun vl xs w env hv hx h => l1PickInt_c vl xs g vb bs w0 w env hv hx h)
  have HD := hid (fun w env h => l3Draw_c g vb bs w0 w env h)
  unfold cp at HK HP HD ⊢
  go_enter Try.func107, Try.ntmps107
  go_wp2_with fail
  refine (HD.out _ _ HC.out).mono ?_
  rintro e w1 ⟨n, v, fs, rfl, hl, hC1⟩
  obtain ⟨p, l, c, rfl⟩ := hC1.hd.form
  obtain ⟨X, hX⟩ : ∃ X, X = w1.heap.size := ⟨_, rfl⟩
  have HC1 := hid (hC1.boxAt n (.slice p l c) 30 (H := X) hX.symm)
  have HX := hid hX
  clear hC1 hX
  unfold cx
  go_wp2_with fail
  rw [← HX.out]
  refine (HK.out _ _ _ HC1.out).mono ?_
  rintro e w2 ⟨y, rfl, hb, hC2⟩
  obtain ⟨y0, y1⟩ := hb.rng (by omega)
  have HC2 := hid hC2
  clear hb
  by_cases e0 : y = 0
  · subst e0
    have HC3 := hid (HC2.out.newAt #[.int .i64 0, .int .i64 7, .int .i64 2] 3 (by simp [maxLen]) (H := w2.heap.size) rfl)
    clear hC2
    go_wp2_with fail
    refine (HP.out _ [0, 7, 2] _ _ (.head _) (by simp) HC3.out).mono ?_
    rintro e w3 ⟨m, rfl, hm, hC4⟩
    have hC5 := hC4.tail
    have b0 := hC5.hd.c0
    have b1 := hC5.hd.c1
    have d0 := hC5.tail.tail.hd.c0
    have d1 := hC5.tail.tail.hd.c1
    have r0 : w3.frozen? ⟨X, 0, none⟩ = false := hC5.free (v := bx X) (.head _) 0 (by simp)
    have s0 : w3.frozen? ⟨w.heap.size, 0, none⟩ = false := hC5.free (v := bx w.heap.size) (.tail _ (.tail _ (.head _))) 0 (by simp)
    have s1 : w3.frozen? ⟨w.heap.size, 1, none⟩ = false := hC5.free (v := bx w.heap.size) (.tail _ (.tail _ (.head _))) 1 (by simp)
    have hC6 : Cr w0 (w3.setCell ⟨X, 0, none⟩ (.int .i64 m)) g vb bs _ := hC5.set 0 (by simp) (.int .i64 m)
    have e0' := hC6.hd.c0
    have e1' := hC6.hd.c1
    have f0 := hC6.tail.tail.hd.c0
    have f1 := hC6.tail.tail.hd.c1
    have s0' : (w3.setCell ⟨X, 0, none⟩ (.int .i64 m)).frozen? ⟨w.heap.size, 0, none⟩ = false := hC6.free (v := bx w.heap.size) (.tail _ (.tail _ (.head _))) 0 (by simp)
    have s1' : (w3.setCell ⟨X, 0, none⟩ (.int .i64 m)).frozen? ⟨w.heap.size, 1, none⟩ = false := hC6.free (v := bx w.heap.size) (.tail _ (.tail _ (.head _))) 1 (by simp)
    have HC6 := hid hC6
    clear hC6 hC5 hC4 hm
    go_wp2_with fail
    have hC7 := ((HC6.out.bring (l1 := [_, _])).set 0 (by simp) (.int .i64 m)).set 1 (by simp) (.slice p l c)
    exact bodyPost_ret (ret_cx rfl rfl hC7.hd) rfl ⟨_, _, fs, rfl, by omega, hC7.sub (.cons _ (.cons _ (List.Sublist.refl _)))⟩
  · have q0 : (y == 0) = false := by rw [beq_eq_false_iff_ne]; exact e0
    by_cases e1 : y = 1
    · subst e1
      have b1 := hC2.hd.c1
      clear hC2
      go_wp2_with fail
      go_region_law
        (first
          | (refine step_app rfl _ _ (by rfl) tI HSa.out.own [.int .i64 (z - 1)] HN.out (by simp [Value.oneCell']) (by simp; omega) (by rfl) (by rfl) ?_; intro v4 w4 hO4 hb4; rw [ints_snoc] at hO4; have hS5 := HSa.out.mut hO4 hb4; obtain ⟨p', l', c', rfl⟩ := hS5.hd.form; have k2' := hS5.hd3.c0; have k3' := hS5.hd3.c1; have k4' := hS5.hd4.c0; have k5' := hS5.hd4.c1; have r1 : w4.frozen? ⟨X, 1, none⟩ = false := hS5.own.free (v := bx X) (.tail _ (.tail _ (.head _))) 1 (by simp); have s0 : w4.frozen? ⟨w.heap.size, 0, none⟩ = false := hS5.own.free (v := bx w.heap.size) (.tail _ (.tail _ (.tail _ (.head _)))) 0 (by simp); have s1 : w4.frozen? ⟨w.heap.size, 1, none⟩ = false := hS5.own.free (v := bx w.heap.size) (.tail _ (.tail _ (.tail _ (.head _)))) 1 (by simp); have HS5 := hid hS5; clear hS5 hO4 hb4)
          | (go_simp; go_at_call 98; refine (HK.out _ _ _ (HC2.out.drewN 1)).mono ?_; rintro e w3 ⟨z, rfl, hb, hC4⟩; have k1' := hC4.hd.c1; have g1 : IntKind.i64.wrap (z - 1) = z - 1 := IntWalk.i64_in _ (by have := hb.rng (by omega); omega); obtain ⟨cc, hSc, hback⟩ := hC4.open; have hSf := hSc.bring (l1 := [_, _]); have HN := hid (hSf.newAt #[.int .i64 (z - 1)] 3 (by simp [maxLen]) (H := w3.heap.size) rfl).hd; have HSa := hid (hSf.alloc (.cells #[.int .i64 (z - 1)] 3)); have k6 : (w3.alloc (.cells #[.int .i64 (z - 1)] 3)).cell? ⟨X, 1, none⟩ = some (.slice p l c) := HSa.out.hd3.c1; have HBK := hid hback; clear hSf hSc hback hC4 hb))
      all_goals
        have hS6 : St w0 (w4.setCell ⟨X, 1, none⟩ (.slice p' l' c')) (⟨bx X, 30, [.int .i64 n, .slice p' l' c']⟩ :: _) := (HS5.out.bring (l1 := [_, _])).set 1 (by simp) (.slice p' l' c')
        clear s0 s1 r1 k2' k3' k4' k5'
        have b0 := hS6.hd.c0
        have b1' := hS6.hd.c1
        have d0 := hS6.hd4.c0
        have d1 := hS6.hd4.c1
        have s0 : (w4.setCell ⟨X, 1, none⟩ (.slice p' l' c')).frozen? ⟨w.heap.size, 0, none⟩ = false := hS6.own.free (v := bx w.heap.size) (.tail _ (.tail _ (.tail _ (.head _)))) 0 (by simp)
        have s1 : (w4.setCell ⟨X, 1, none⟩ (.slice p' l' c')).frozen? ⟨w.heap.size, 1, none⟩ = false := hS6.own.free (v := bx w.heap.size) (.tail _ (.tail _ (.tail _ (.head _)))) 1 (by simp)
        have HS6 := hid hS6
        clear hS6
        go_wp2_with fail
        have hS7 := ((HS6.out.bring (l1 := [_, _, _])).set 0 (by simp) (.int .i64 n)).set 1 (by simp) (.slice p' l' c')
        exact bodyPost_ret (ret_cx rfl rfl hS7.hd) rfl ⟨n, .slice p' l' c', rfl, fs ++ [z - 1], by simp; omega, HBK.out _ _ (hS7.sub (.cons _ (.cons _ (List.Sublist.refl _)))).swap⟩
    · have q1 : (y == 1) = false := by rw [beq_eq_false_iff_ne]; exact e1
      have b0 := hC2.hd.c0
      have b1 := hC2.hd.c1
      have d0 := hC2.tail.tail.hd.c0
      have d1 := hC2.tail.tail.hd.c1
      have s0 : w2.frozen? ⟨w.heap.size, 0, none⟩ = false := hC2.free (v := bx w.heap.size) (.tail _ (.tail _ (.head _))) 0 (by simp)
      have s1 : w2.frozen? ⟨w.heap.size, 1, none⟩ = false := hC2.free (v := bx w.heap.size) (.tail _ (.tail _ (.head _))) 1 (by simp)
      clear hC2
      go_wp2_with fail
      have hC6 := ((HC2.out.bring (l1 := [_, _])).set 0 (by simp) (.int .i64 n)).set 1 (by simp) (.slice p l c)
      exact bodyPost_ret (ret_cx rfl rfl hC6.hd) rfl ⟨_, _, fs, rfl, by omega, hC6.sub (.cons _ (.cons _ (List.Sublist.refl _)))⟩

end Go.Proofs.Ytjaofbdfhcgmeaa
