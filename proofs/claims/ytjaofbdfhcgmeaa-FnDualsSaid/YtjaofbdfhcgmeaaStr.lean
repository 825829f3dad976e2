/-
  Texts: cut at a byte, read as a set.
-/
import Derived.Test.YtjaofbdfhcgmeaaDraw4
import Derived.Laws.Strings2
import Derived.Laws.Concat
import Derived.Laws.BytesArg
namespace Go.Proofs.Ytjaofbdfhcgmeaa
open Go.RowKit

def strs (ts : List ByteArray) : List Value := ts.map Value.string
theorem length_strs (ts : List ByteArray) : (strs ts).length = ts.length := by simp [strs]
attribute [simp] length_strs
theorem strs_snoc (ts : List ByteArray) (t : ByteArray) : strs ts ++ [.string t] = strs (ts ++ [t]) := by simp [strs]
def gs (ts : List ByteArray) (k : Nat) : ByteArray := ts.getD k ⟨#[]⟩
theorem gs_mem {ts : List ByteArray} {k : Nat} (h : k < ts.length) : gs ts k ∈ ts := by simp [gs, List.getD, h]
theorem strs_get {ts : List ByteArray} {k : Nat} (h : k < ts.length) : (strs ts)[k]? = some (.string (gs ts k)) := by simp [strs, gs, List.getD, h]
theorem tT : SlT Try.prog 106 9 (.string ⟨#[]⟩) := slT_mk (b := 16) (by kernel_rfl) (by kernel_rfl) rfl (by omega)
theorem uT : Try.prog.underlying 9 = some .string := by kernel_rfl
theorem run_cut (s : ByteArray) (i j : Nat) (h1 : i ≤ j) (h2 : j ≤ s.size) (w : World) : (Instr.slice 9 (.string s) (some (.int .i64 (i : Int))) (some (.int .i64 (j : Int))) none).run Try.prog w = .ok (.string (s.extract i j)) w := by
  have := run_slice_string (P := Try.prog) (w := w) 9 s .i64 .i64 (i : Int) (j : Int) uT (by omega) (by omega) (by omega)
  simpa using this
theorem cut_size (s : ByteArray) (i j : Nat) : (s.extract i j).size ≤ s.size := by rw [ByteArray.size_extract]; omega

set_option maxHeartbeats 2000000 in
set_option maxRecDepth 100000 in
theorem SplitByte_c (s : ByteArray) (hs : s.size ≤ 1000) (b : Int) (w : World) : Calls Try.prog 165 #[.string s, .int .u8 b] w fun e w' => ∃ v ts, e = .returned v ∧ (ts.length ≤ s.size + 1 ∧ ∀ t ∈ ts, t.size ≤ s.size) ∧ St w w' [⟨v, 9, strs ts⟩] := by
  have HS := hid ((St.start w).newAt #[] 9 (by simp) (H := w.heap.size) rfl)
  go_enter Try.func165, Try.ntmps165
  go_wp2_with fail
  go_loopw [5, 6, 7] (fun o f c wr => ∃ (i k : Nat) (v : Value) (ts : List ByteArray), i ≤ s.size + 1 ∧ k ≤ i ∧ c = .int .i64 i ∧ f = .int .i64 k ∧ o = v ∧ ts.length ≤ i ∧ (∀ t ∈ ts, t.size ≤ s.size) ∧ St w wr [⟨v, 9, strs ts⟩]) (fun _ _ c _ => s.size + 1 - (intOf c).toNat)
  case atStart => exact ⟨0, 0, _, [], Nat.zero_le _, Nat.le_refl _, rfl, rfl, rfl, Nat.zero_le _, by simp, HS.out⟩
  case round =>
    obtain ⟨i, k, v, ts, hi, hk, rfl, rfl, rfl, hl, ht, hS⟩ := hrel
    have HS2 := hid hS
    have HT := hid ht
    clear hS ht
    by_cases hlt : i ≤ s.size
    · have hcut := run_cut s k i hk hlt
      obtain ⟨y, hy⟩ : ∃ y, y = s.extract k i := ⟨_, rfl⟩
      rw [← hy] at hcut
      have HY : Hid (y.size ≤ s.size) := by show _; rw [hy]; exact cut_size s k i
      have HN : Hid (∀ t ∈ ts ++ [y], t.size ≤ s.size) := by
        intro t h
        rcases List.mem_append.1 h with h | h
        · exact HT.out t h
        · rw [List.mem_singleton] at h; subst h; exact HY.out
      clear hy
      by_cases he : i = s.size
      · subst he
        have q : ((s.size : Int) == (s.size : Int)) = true := beq_self_eq_true _
        go_wp2_with (at_builtin; refine wpList_push rfl _ _ rfl tT HS2.out.own (.string y) rfl (by simp; omega) rfl rfl ?_)
        intro v4 w4 hO4 hb4
        rw [strs_snoc] at hO4
        have HS4 := hid (HS2.out.mut hO4 hb4)
        clear hO4 hb4
        go_wp2_with fail
        go_roundw
        case rel => exact ⟨s.size + 1, s.size + 1, v4, ts ++ [y], by omega, by omega, by go_num, by go_num, rfl, by simp; omega, HN.out, HS4.out⟩
        case measure => simp [intOf] <;> omega
      · have hlt2 : i < s.size := by omega
        have q : ((i : Int) == (s.size : Int)) = false := by rw [beq_eq_false_iff_ne]; omega
        by_cases hb : ((s[i].toNat : Nat) : Int) = b
        · have q2 : (((s[i].toNat : Nat) : Int) == b) = true := by simp [hb]
          clear hb
          go_wp2_with (at_builtin; refine wpList_push rfl _ _ rfl tT HS2.out.own (.string y) rfl (by simp; omega) rfl rfl ?_)
          intro v4 w4 hO4 hb4
          rw [strs_snoc] at hO4
          have HS4 := hid (HS2.out.mut hO4 hb4)
          clear hO4 hb4
          go_wp2_with fail
          go_roundw
          case rel => exact ⟨i + 1, i + 1, v4, ts ++ [y], by omega, by omega, by go_num, by go_num, rfl, by simp; omega, HN.out, HS4.out⟩
          case measure => simp [intOf]; omega
        · have q2 : (((s[i].toNat : Nat) : Int) == b) = false := by simp [hb]
          clear hb
          go_wp2_with fail
          go_roundw
          case rel => exact ⟨i + 1, k, _, ts, by omega, by omega, by go_num, rfl, rfl, by omega, HT.out, HS2.out⟩
          case measure => simp [intOf]; omega
    · go_wp2_with fail
      go_ret
      exact ⟨_, ts, rfl, ⟨by omega, HT.out⟩, HS2.out⟩

/-- A number below 64, and whether it was fine. -/
def setRet (e : Ending) : Prop := ∃ x b, e = .returned (.tuple #[.int .i64 x, .bool b]) ∧ (0 ≤ x ∧ x < 64)
theorem shl_room_fin : ∀ s : Fin 64, ∀ i : Fin 6, (s.val : Int) / 2 ^ i.val = 0 → 0 ≤ wrap64 ((s.val : Int) + wrap64 (2 ^ i.val)) ∧ wrap64 ((s.val : Int) + wrap64 (2 ^ i.val)) < 64 := by decide +kernel
theorem shl_room {s : Int} (s0 : 0 ≤ s) (s1 : s < 64) {i : Nat} (hi : i < 6) (h : s / 2 ^ i = 0) : 0 ≤ wrap64 (s + wrap64 (2 ^ i)) ∧ wrap64 (s + wrap64 (2 ^ i)) < 64 := by
  obtain ⟨a, rfl⟩ := fin64 s0 s1
  exact shl_room_fin a ⟨i, hi⟩ h

set_option maxHeartbeats 2000000 in
set_option maxRecDepth 100000 in
theorem ParseSet_c (s : ByteArray) (hs : s.size ≤ 1000) (w : World) : Calls Try.prog 167 #[.string s] w fun e w' => setRet e ∧ w = w' := by
  go_enter Try.func167, Try.ntmps167
  go_wp2_with fail
  go_loop [4, 5] (fun o c => ∃ (k : Nat) (x : Int), k ≤ s.size ∧ c = .int .i64 k ∧ o = .int .i64 x ∧ (0 ≤ x ∧ x < 64)) (fun _ c => s.size - (intOf c).toNat)
  case atStart => exact ⟨0, 0, Nat.zero_le _, rfl, rfl, by omega⟩
  case round =>
    obtain ⟨k, x, hk, rfl, rfl, hx⟩ := hrel
    have HX := hid hx
    clear hx
    cases hd : (!(s.toList == [45])) with
    | false =>
      go_wp2_with fail
      all_goals
        go_ret2
        exact ⟨⟨x, _, rfl, HX.out⟩, rfl⟩
    | true =>
      by_cases hlt : k < s.size
      · obtain ⟨c, hc⟩ : ∃ c : Int, c = (s[k].toNat : Int) - 97 := ⟨_, rfl⟩
        have c0 : -97 ≤ c := by omega
        have c1 : c ≤ 158 := by have := s[k].toNat_lt; omega
        have g1 : IntKind.i64.wrap ((s[k].toNat : Int) - 97) = c := by rw [← hc]; exact IntWalk.i64_in _ (by omega)
        have g2 : wrap64 ((s[k].toNat : Int) - 97) = c := by rw [← hc]; exact IntWalk.wrap64_in _ (by omega)
        have g3 : (s[k].toNat : Int) - 97 = c := hc.symm
        clear hc
        go_wp2_with fail
        by_cases hi : 0 ≤ c ∧ c ≤ 5
        · have q1 : inB c 0 5 = true := inB_t hi.1 hi.2
          have Q1 := hid q1
          obtain ⟨c2, c3⟩ := hi
          obtain ⟨C, rfl⟩ : ∃ C : Nat, c = C := ⟨c.toNat, by omega⟩
          clear q1 g1 g2 g3
          by_cases hz : x / 2 ^ C = 0
          · have q2 : (x / 2 ^ C != 0) = false := by simp [hz]
            have HR := hid (shl_room HX.out.1 HX.out.2 (i := C) (by omega) hz)
            clear hz
            refine (l1In_c _ _ _ _).mono ?_
            rw [Q1.out]
            rintro e w' ⟨rfl, rfl⟩
            go_wp2_with fail
            go_round
            case rel => exact ⟨k + 1, _, by omega, by go_num, rfl, HR.out⟩
            case measure => simp [intOf]; omega
          · have q2 : (x / 2 ^ C != 0) = true := by simp [hz]
            clear hz
            refine (l1In_c _ _ _ _).mono ?_
            rw [Q1.out]
            rintro e w' ⟨rfl, rfl⟩
            go_wp2_with fail
            go_ret2
            exact ⟨⟨0, _, rfl, by omega⟩, rfl⟩
        · have Q1 := hid (inB_f hi)
          clear hi g1 g2 g3
          refine (l1In_c _ _ _ _).mono ?_
          rw [Q1.out]
          rintro e w' ⟨rfl, rfl⟩
          go_wp2_with fail
          go_ret2
          exact ⟨⟨0, _, rfl, by omega⟩, rfl⟩
      · go_wp2_with fail
        go_ret2
        exact ⟨⟨x, _, rfl, HX.out⟩, rfl⟩

end Go.Proofs.Ytjaofbdfhcgmeaa
