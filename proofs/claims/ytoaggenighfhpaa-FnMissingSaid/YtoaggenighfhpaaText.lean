/-
  Complexes written as texts.
-/
import Derived.Test.YtoaggenighfhpaaOrd
import Derived.Lib.AppendStr
import Derived.Deep.RegionHeld3
namespace Go.Proofs.Ytoaggenighfhpaa
open Go.RowKit

/-! ### A set -/

def letT (i : Nat) : ByteArray := (⟨#[97, 98, 99, 100, 101, 102]⟩ : ByteArray).extract i (i + 1)
def stTo (s : Int) : Nat → ByteArray
  | 0 => ⟨#[]⟩
  | i + 1 => if bitP s i = true then stTo s i ++ letT i else stTo s i
def setT (s : Int) : ByteArray := if 0 ≤ s ∧ s ≤ 63 then (if s = 0 then ⟨#[45]⟩ else stTo s 6) else ⟨#[]⟩
theorem letT_size (i : Nat) : (letT i).size ≤ 1 := by rw [letT, ByteArray.size_extract]; omega
theorem stTo_size (s : Int) (i : Nat) : (stTo s i).size ≤ i := by
  induction i with
  | zero => exact Nat.le_refl _
  | succ i ih =>
    rw [stTo]
    split
    · rw [ByteArray.size_append]; have := letT_size i; omega
    · omega
theorem setT_size (s : Int) : (setT s).size ≤ 6 := by
  unfold setT
  split
  · split
    · exact (by decide : (1 : Nat) ≤ 6)
    · exact stTo_size s 6
  · exact Nat.zero_le _

set_option maxHeartbeats 1000000 in
set_option maxRecDepth 100000 in
theorem SetText_c (s : Int) (w : World) : Calls Try.prog 116 #[.int .i64 s] w fun e w' => e = .returned (.string (setT s)) ∧ w = w' := by
  by_cases hr : 0 ≤ s ∧ s ≤ 63
  · have HI := hid (inB_t hr.1 hr.2)
    by_cases hz : s = 0
    · subst hz
      have E : Hid (setT 0 = ⟨#[45]⟩) := rfl
      go_enter Try.func116, Try.ntmps116
      go_wp2_with (go_at_call 64; refine (l1In_c _ _ _ _).mono ?_; rw [HI.out]; rintro e w' ⟨rfl, rfl⟩)
      go_ret
      exact ⟨by rw [E.out]; rfl, rfl⟩
    · have E : Hid (setT s = stTo s 6) := by show _ = _; rw [setT, if_pos hr, if_neg hz]
      have q0 : (s == 0) = false := by rw [beq_eq_false_iff_ne]; exact hz
      obtain ⟨r0, r1⟩ := hr
      clear hz
      go_enter Try.func116, Try.ntmps116
      go_wp2_with (go_at_call 64; refine (l1In_c _ _ _ _).mono ?_; rw [HI.out]; rintro e w' ⟨rfl, rfl⟩)
      go_loop [3, 4] (fun o c => ∃ i : Nat, i ≤ 6 ∧ c = .int .i64 i ∧ o = .string (stTo s i)) (fun _ c => 6 - (intOf c).toNat)
      case atStart => exact ⟨0, by omega, rfl, rfl⟩
      case round =>
        obtain ⟨i, hi, rfl, rfl⟩ := hrel
        by_cases hlt : i < 6
        · have hsz := stTo_size s i
          cases hb : bitP s i with
          | true =>
            have hb' : (bits BinOp.and IntKind.i64 (s / 2 ^ i) 1 == 1) = true := hb
            have hcut : ∀ w : World, (Instr.slice 9 (.string ⟨#[97, 98, 99, 100, 101, 102]⟩) (some (.int .i64 (i : Int))) (some (.int .i64 ((i : Int) + 1))) none).run Try.prog w = .ok (.string (letT i)) w := fun w => run_cut _ i (i + 1) (by omega) (by show i + 1 ≤ 6; omega) w
            have hadd := fun w' => run_string_add_sum (P := Try.prog) w' (stTo s i) (letT i) (by have := letT_size i; omega)
            obtain ⟨y, hy⟩ : ∃ y, stTo s i ++ letT i = y := ⟨_, rfl⟩
            have EK : Hid (stTo s (i + 1) = y) := by show _ = _; rw [stTo, if_pos hb, hy]
            rw [hy] at hadd
            obtain ⟨t, ht⟩ : ∃ t, stTo s i = t := ⟨_, rfl⟩
            rw [ht] at hadd ⊢
            clear hb hy ht hsz
            go_wp2_with fail
            go_round
            case rel => exact ⟨i + 1, by omega, by go_num, by rw [EK.out]⟩
            case measure => simp [intOf]; omega
          | false =>
            have hb' : (bits BinOp.and IntKind.i64 (s / 2 ^ i) 1 == 1) = false := hb
            have EK : Hid (stTo s (i + 1) = stTo s i) := by show _ = _; rw [stTo, if_neg (by simp [hb])]
            clear hb
            go_wp2_with fail
            go_round
            case rel => exact ⟨i + 1, by omega, by go_num, by rw [EK.out]⟩
            case measure => simp [intOf]; omega
        · have e : i = 6 := by omega
          subst e
          go_wp2_with fail
          go_ret
          exact ⟨by rw [E.out]; rfl, rfl⟩
  · have HI := hid (inB_f hr)
    have E : Hid (setT s = ⟨#[]⟩) := if_neg hr
    clear hr
    go_enter Try.func116, Try.ntmps116
    go_wp2_with (go_at_call 64; refine (l1In_c _ _ _ _).mono ?_; rw [HI.out]; rintro e w' ⟨rfl, rfl⟩)
    go_ret
    exact ⟨by rw [E.out]; rfl, rfl⟩

/-! ### Texts joined -/

def nums (s : ByteArray) : List Int := s.data.toList.map fun b => (b.toNat : Int)
theorem nums_cells (s : ByteArray) : Go.Lib.strCells s = byts (nums s) := by simp [Go.Lib.strCells, byts, nums, List.map_map, Function.comp_def]
theorem nums_len (s : ByteArray) : (nums s).length = s.size := by rw [nums, List.length_map, Array.length_toList]; rfl
def joinTo (sep : ByteArray) (ts : List ByteArray) : Nat → List Int
  | 0 => []
  | j + 1 => (if 0 < j then joinTo sep ts j ++ nums sep else joinTo sep ts j) ++ nums (gs ts j)
theorem joinTo_len {sep : ByteArray} {ts : List ByteArray} (h1 : sep.size ≤ 10) (h2 : ∀ t ∈ ts, t.size ≤ 10) (j : Nat) (hj : j ≤ ts.length) : (joinTo sep ts j).length ≤ 20 * j := by
  induction j with
  | zero => simp [joinTo]
  | succ j ih =>
    have := ih (by omega)
    have := h2 _ (gs_mem (show j < ts.length by omega))
    rw [joinTo]
    split <;> simp only [List.length_append, nums_len] <;> omega

theorem wpList_appS {P : Program} {w : World} {ops : Array Oper} {rest : List Oper} {o : Oper} {a : Act} {Q : Exit → Act → World → Prop} (hgd : o.guard = none) (sl x : Operand) {t u e : TypeId}
    (ho : o.op = .call { callee := .builtin .append, args := #[sl, x], argTypes := #[t, u] }) (ht : P.underlying t = some (.slice e)) (hu : P.underlying u = some .string)
    (hi : (P.info? e).map (fun i => (i.zero, i.size, i.bytes)) = some (some (.int .u8 0), 1, 1)) {B : Nat} {v : Value} {ns : List Int} (hO : Owns B w [⟨v, e, byts ns⟩]) (s : ByteArray)
    (hlen : ns.length + s.size ≤ 1000000) (hv : a.eval sl = v) (hx : a.eval x = .string s)
    (h : ∀ v' w', Owns B w' [⟨v', e, byts (ns ++ nums s)⟩] → Below B w w' → wpList P ops Q rest (a.put o.dst v') w') : wpList P ops Q (o :: rest) a w := by
  obtain ⟨i, hi0, hz, hs, hb⟩ := info_parts hi
  have hown := hO.own _ (List.mem_cons_self ..)
  refine Go.Lib.wpList_append_own_string w hgd sl x t u ho B e i ht hu hi0 hz hs hb v _ _ hv hown s hx (by simp [maxLen]; omega) (by simp; omega) hO.base fun v' w' h1 h2 _ => ?_
  rw [nums_cells] at h1
  have h3 : byts ns ++ byts (nums s) = byts (ns ++ nums s) := by simp [byts]
  rw [h3] at h1
  have hbel := below_of_grown hO h2
  refine h v' w' ⟨Nat.le_trans hO.base hbel.size, fun y hy => ?_, List.pairwise_singleton _ _⟩ hbel
  rw [List.mem_singleton] at hy
  subst hy
  have e : (byts (ns ++ nums s)).length = (byts ns).length + s.size := by simp [nums_len]
  rw [e]; exact h1

end Go.Proofs.Ytoaggenighfhpaa
