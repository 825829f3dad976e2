/-
  The cursor of a draw: made, and asked for a byte and for a number below another.
-/
import Derived.Test.YtjaofbdfhcgmeaaCx
import Derived.Deep.RegionHeld3
namespace Go.Proofs.Ytjaofbdfhcgmeaa
open Go.RowKit

def byts (bs : List Int) : List Value := bs.map (Value.int .u8)
theorem length_byts (bs : List Int) : (byts bs).length = bs.length := by simp [byts]
attribute [simp] length_byts
theorem tU : SlT Try.prog 22 5 (.int .u8 0) := slT_mk (b := 1) (by kernel_rfl) (by kernel_rfl) rfl (by omega)
/-- The cursor, as a row of three cells, and a pointer to it. -/
def cu (g : Nat) : Value := .slice (some ⟨g, 0, none⟩) 3 3
def cp (g : Nat) : Value := .pointer (some ⟨g, 0, none⟩)
theorem Rd.u0 {w : World} {b : Nat} {x y z : Value} (h : Rd w (cu b) [x, y, z]) : w.cell? ⟨b, 0, none⟩ = some x := h.cell 0 (by simp)
theorem Rd.u1 {w : World} {b : Nat} {x y z : Value} (h : Rd w (cu b) [x, y, z]) : w.cell? ⟨b, 1, none⟩ = some y := h.cell 1 (by simp)
theorem Rd.u2 {w : World} {b : Nat} {x y z : Value} (h : Rd w (cu b) [x, y, z]) : w.cell? ⟨b, 2, none⟩ = some z := h.cell 2 (by simp)

/-- A cursor at g over the bytes bs, in w; the rest of what is owned is env. -/
def Cr (w0 w : World) (g : Nat) (vb : Value) (bs : List Int) (env : List Ent) : Prop :=
  Rd w0 vb (byts bs) ∧ ∃ (i : Nat) (h : Int), i ≤ bs.length ∧ St w0 w (⟨cu g, 101, [vb, .int .i64 i, .int .i64 h]⟩ :: env)

theorem i64_and255 (n : Int) : bits .and .i64 n 255 = n % 256 := by
  have h127 : (BitVec.ofInt 64 255).toNat = 2 ^ 8 - 1 := by decide
  have key : (BitVec.ofInt 64 n &&& BitVec.ofInt 64 255).toNat = (n % ((2 ^ 64 : Nat) : Int)).toNat % 2 ^ 8 := by
    rw [BitVec.toNat_and, BitVec.toNat_ofInt, h127, Nat.and_two_pow_sub_one_eq_mod]
  show IntKind.i64.wrap ((BitVec.ofInt 64 n &&& BitVec.ofInt 64 255).toNat : Nat) = n % 256
  rw [key, IntKind.wrap_i64]
  omega
theorem and255_rng (n : Int) : 0 ≤ bits .and .i64 n 255 ∧ bits .and .i64 n 255 ≤ 255 := by rw [i64_and255]; omega

set_option maxHeartbeats 1000000 in
set_option maxRecDepth 100000 in
theorem l1New_c (vb : Value) (bs : List Int) (w0 w : World) (env : List Ent) (hS : St w0 w env) (hb : Rd w0 vb (byts bs)) : Calls Try.prog 96 #[vb] w fun e w' => ∃ g, e = .returned (cp g) ∧ Cr w0 w' g vb bs env := by
  have hb' := hS.old hb
  obtain ⟨pb, lb, kb, rfl⟩ := hb.form
  have la := hb'.ln tU
  rw [length_byts] at la
  have ll : bs.length ≤ 9223372036854775807 := by have := hb.le; simp [maxLen] at this; omega
  have HS := hid hS
  clear hS
  go_enter Try.func96, Try.ntmps96
  go_wp2_with fail
  go_loop [3, 4] (fun h i => ∃ (j : Nat) (z : Int), j ≤ bs.length ∧ i = .int .i64 j ∧ h = .int .i64 z) (fun _ i => bs.length - (intOf i).toNat)
  case atStart => exact ⟨0, _, Nat.zero_le _, rfl, rfl⟩
  case round =>
    obtain ⟨j, z, hj, rfl, rfl⟩ := hrel
    by_cases hlt : j < bs.length
    · by_cases h4 : (j : Int) < 4000
      · have f1 := hb'.ix tU j (by simpa using hlt)
        have f2 := hb'.cell j (by simpa using hlt)
        have f3 : (byts bs)[j]? = some (.int .u8 (gi bs j)) := by simp [byts, gi, List.getD, hlt]
        rw [f3] at f2
        clear f3
        go_wp2_with fail
        go_round
        case rel => exact ⟨j + 1, _, by omega, by go_num, rfl⟩
        case measure => simp [intOf]; omega
      · have h4' : decide ((j : Int) < 4000) = false := decide_eq_false h4
        go_wp2_with fail
        go_ret
        exact ⟨_, rfl, hb, 0, _, Nat.zero_le _, HS.out.newAt #[.slice pb lb kb, .int .i64 0, .int .i64 z] _ (by simp [maxLen]) rfl⟩
    · go_wp2_with fail
      go_ret
      exact ⟨_, rfl, hb, 0, _, Nat.zero_le _, HS.out.newAt #[.slice pb lb kb, .int .i64 0, .int .i64 z] _ (by simp [maxLen]) rfl⟩

set_option maxHeartbeats 2000000 in
set_option maxRecDepth 100000 in
theorem l1Byte_c (g : Nat) (vb : Value) (bs : List Int) (w0 w : World) (env : List Ent) (hC : Cr w0 w g vb bs env) : Calls Try.prog 156 #[cp g] w fun e w' => ∃ x, e = .returned (.int .i64 x) ∧ (0 ≤ x ∧ x ≤ 255) ∧ Cr w0 w' g vb bs env := by
  obtain ⟨hb, i, h, hi, hS⟩ := hC
  obtain ⟨pb, lb, kb, rfl⟩ := hb.form
  have ll : bs.length ≤ 9223372036854775807 := by have := hb.le; simp [maxLen] at this; omega
  have u2 := hS.hd.u2
  have s2 : w.frozen? ⟨g, 2, none⟩ = false := hS.own.free (v := cu g) (.head _) 2 (by simp)
  have HS := hid hS
  clear hS
  unfold cp
  go_enter Try.func156, Try.ntmps156
  go_wp2_with fail
  have hS1 : St w0 (w.setCell ⟨g, 2, none⟩ (.int .i64 (wrap64 (wrap64 (h * 6364136223846793005) + 1442695040888963407)))) _ := HS.out.set 2 (by simp) (.int .i64 (wrap64 (wrap64 (h * 6364136223846793005) + 1442695040888963407)))
  have k0 := hS1.hd.u0
  have k1 := hS1.hd.u1
  have k2 := hS1.hd.u2
  have s1 := hS1.own.free (v := cu g) (.head _) 1 (by simp)
  have s1' : (w.setCell ⟨g, 2, none⟩ (.int .i64 (wrap64 (wrap64 (h * 6364136223846793005) + 1442695040888963407)))).frozen? ⟨g, 1, none⟩ = false := s1
  have HS1 := hid hS1
  clear hS1 u2 s2 HS s1
  generalize wrap64 (wrap64 (h * 6364136223846793005) + 1442695040888963407) = h1 at *
  generalize w.setCell ⟨g, 2, none⟩ (.int .i64 h1) = w1 at *
  have la := (HS1.out.old hb).ln tU
  rw [length_byts] at la
  by_cases hlt : i < bs.length
  · have f1 := (HS1.out.old hb).ix tU i (by simpa using hlt)
    have f2 := (HS1.out.old hb).cell i (by simpa using hlt)
    have f3 : (byts bs)[i]? = some (.int .u8 (gi bs i)) := by simp [byts, gi, List.getD, hlt]
    rw [f3] at f2
    clear f3
    have hlt' : (i : Int) < (bs.length : Int) := by omega
    go_region
    go_wp2_with fail
    go_region
    go_wp2_with fail
    go_region
    go_wp2_with fail
    go_ret
    have hS2 := (HS1.out.drewN 3).set 1 (by simp) (.int .i64 ((i + 1 : Nat) : Int))
    exact ⟨_, rfl, and255_rng _, hb, i + 1, h1, by omega, hS2⟩
  · have hlt' : decide ((i : Int) < (bs.length : Int)) = false := decide_eq_false (by omega)
    go_region
    go_wp2_with fail
    go_region
    go_wp2_with fail
    go_ret
    exact ⟨_, rfl, and255_rng _, hb, i, h1, hi, HS1.out.drewN 2⟩

def belowP (n x : Int) : Prop := (n ≤ 0 ∧ x = 0) ∨ (0 < n ∧ 0 ≤ x ∧ x < n)
theorem belowP.rng {n x : Int} (h : belowP n x) (hn : 0 < n) : 0 ≤ x ∧ x < n := by
  rcases h with h | h
  · omega
  · exact h.2
set_option maxHeartbeats 1000000 in
set_option maxRecDepth 100000 in
theorem l1Below_c (n : Int) (g : Nat) (vb : Value) (bs : List Int) (w0 w : World) (env : List Ent) (hC : Cr w0 w g vb bs env) : Calls Try.prog 98 #[cp g, .int .i64 n] w fun e w' => ∃ x, e = .returned (.int .i64 x) ∧ belowP n x ∧ Cr w0 w' g vb bs env := by
  have HC := hid hC
  clear hC
  have HK : Hid (∀ w, Cr w0 w g vb bs env → Calls Try.prog 156 #[cp g] w fun e w' => ∃ x, e = .returned (.int .i64 x) ∧ (0 ≤ x ∧ x ≤ 255) ∧ Cr w0 w' g vb bs env) := fun w h => l1Byte_c g vb bs w0 w env h
  unfold cp at HK ⊢
  by_cases h0 : n ≤ 0
  · go_enter Try.func98, Try.ntmps98
    go_wp2_with fail
    go_ret
    exact ⟨_, rfl, .inl ⟨h0, rfl⟩, HC.out⟩
  · have hn0 : (n == 0) = false := by simp; omega
    by_cases h1 : n ≤ 256
    · go_enter Try.func98, Try.ntmps98
      go_wp2_with fail
      refine (HK.out _ HC.out).mono ?_
      rintro e w1 ⟨x, rfl, hx, hC1⟩
      have HC1 := hid hC1
      have HX := hid hx
      obtain ⟨x0, x1⟩ := hx
      clear hC1
      go_wp2_with fail
      go_ret
      refine ⟨_, rfl, .inr ⟨by omega, ?_⟩, HC1.out⟩
      exact ⟨Int.emod_nonneg _ (by omega), Int.emod_lt_of_pos _ (by omega)⟩
    · go_enter Try.func98, Try.ntmps98
      go_wp2_with fail
      refine (HK.out _ HC.out).mono ?_
      rintro e w1 ⟨x, rfl, ⟨x0, x1⟩, hC1⟩
      have HC1 := hid hC1
      clear hC1
      go_wp2_with fail
      refine (HK.out _ HC1.out).mono ?_
      rintro e w2 ⟨y, rfl, ⟨y0, y1⟩, hC2⟩
      have HC2 := hid hC2
      clear hC2
      go_wp2_with fail
      refine (HK.out _ HC2.out).mono ?_
      rintro e w3 ⟨z, rfl, ⟨z0, z1⟩, hC3⟩
      have HC3 := hid hC3
      clear hC3
      go_wp2_with fail
      refine (HK.out _ HC3.out).mono ?_
      rintro e w4 ⟨t, rfl, ⟨t0, t1⟩, hC4⟩
      have HC4 := hid hC4
      clear hC4
      go_wp2_with fail
      go_ret
      refine ⟨_, rfl, .inr ⟨by omega, ?_⟩, HC4.out⟩
      try rw [Int.tmod_eq_emod_of_nonneg (by omega)]
      exact ⟨Int.emod_nonneg _ (by omega), Int.emod_lt_of_pos _ (by omega)⟩

set_option maxHeartbeats 1000000 in
set_option maxRecDepth 100000 in
theorem l1Once_c (n : Int) (g : Nat) (vb : Value) (bs : List Int) (w0 w : World) (env : List Ent) (hC : Cr w0 w g vb bs env) : Calls Try.prog 118 #[cp g, .int .i64 n] w fun e w' => ∃ b, e = .returned (.bool b) ∧ Cr w0 w' g vb bs env := by
  have HK := hid (l1Below_c n g vb bs w0 w env hC)
  clear hC
  unfold cp at HK ⊢
  go_enter Try.func118, Try.ntmps118
  go_wp2_with fail
  refine HK.out.mono ?_
  rintro e w1 ⟨x, rfl, _, hC1⟩
  have HC1 := hid hC1
  clear hC1
  go_wp2_with fail
  go_ret
  exact ⟨_, rfl, HC1.out⟩

/-- An entry of what is owned beside a cursor. -/
theorem Cr.rd {w0 w : World} {g : Nat} {vb : Value} {bs : List Int} {env : List Ent} (h : Cr w0 w g vb bs env) {v : Value} {e : TypeId} {L : List Value} (hv : ⟨v, e, L⟩ ∈ env) : Rd w v L := by
  obtain ⟨_, i, z, _, hS⟩ := h
  exact hS.own.rd (List.mem_cons_of_mem _ hv)
/-- What stands beside the cursor goes on by a lemma on 'St'. -/
theorem Cr.map {w0 w w' : World} {g : Nat} {vb : Value} {bs : List Int} {env env' : List Ent} (h : Cr w0 w g vb bs env) (f : ∀ x : Ent, St w0 w (x :: env) → St w0 w' (x :: env')) : Cr w0 w' g vb bs env' := by
  obtain ⟨hb, i, z, hi, hS⟩ := h
  exact ⟨hb, i, z, hi, f _ hS⟩
set_option maxHeartbeats 1000000 in
set_option maxRecDepth 100000 in
theorem l1PickInt_c (vl : Value) (xs : List Int) (g : Nat) (vb : Value) (bs : List Int) (w0 w : World) (env : List Ent) (hv : ⟨vl, 3, ints xs⟩ ∈ env) (hx : 0 < xs.length) (hC : Cr w0 w g vb bs env) :
    Calls Try.prog 97 #[cp g, vl] w fun e w' => ∃ x, e = .returned (.int .i64 x) ∧ x ∈ xs ∧ Cr w0 w' g vb bs env := by
  have HK := hid (l1Below_c xs.length g vb bs w0 w env hC)
  have la := (hC.rd hv).iln tI
  clear hC
  unfold cp at HK ⊢
  go_enter Try.func97, Try.ntmps97
  go_wp2_with fail
  refine HK.out.mono ?_
  rintro e w1 ⟨x, rfl, hb, hC1⟩
  obtain ⟨b0, b1⟩ := hb.rng (by omega)
  obtain ⟨j, rfl⟩ : ∃ j : Nat, x = j := ⟨x.toNat, by omega⟩
  have hj : j < xs.length := by omega
  have f1 := (hC1.rd hv).iix tI j hj
  have f2 := (hC1.rd hv).intCell j hj
  have HC1 := hid hC1
  clear hC1 hb
  go_wp2_with fail
  go_ret
  exact ⟨_, rfl, by rw [gi_eq xs j hj]; exact List.getElem_mem _, HC1.out⟩

end Go.Proofs.Ytjaofbdfhcgmeaa
