/-
  Numbers written as texts.
-/
import Derived.Test.YtjaofbdfhcgmeaaStr
namespace Go.Proofs.Ytjaofbdfhcgmeaa
open Go.RowKit

def fmtD : Nat → Int → ByteArray → ByteArray
  | 0, _, t => t
  | f + 1, m, t => if m = 0 then t else fmtD f (m.tdiv 10) (strOfNums [48 + ((m.tmod 10).natAbs : Int)] ++ t)
def fmtI (n : Int) : ByteArray := if n = 0 then ⟨#[48]⟩ else if n < 0 then ⟨#[45]⟩ ++ fmtD n.natAbs n ⟨#[]⟩ else fmtD n.natAbs n ⟨#[]⟩
theorem fmtD_zero (f : Nat) (t : ByteArray) : fmtD f 0 t = t := by cases f <;> rfl
theorem size_num (x : Int) : (strOfNums [x]).size = 1 := rfl
theorem fmtD_size (f : Nat) : ∀ (m : Int) (t : ByteArray), (fmtD f m t).size ≤ t.size + f := by
  induction f with
  | zero => intro m t; exact Nat.le_refl _
  | succ f ih =>
    intro m t
    rw [fmtD]
    split
    · omega
    · have := ih (m.tdiv 10) (strOfNums [48 + ((m.tmod 10).natAbs : Int)] ++ t)
      rw [ByteArray.size_append, size_num] at this
      omega
theorem uB : Try.prog.underlying 22 = some (.slice 5) := by kernel_rfl
theorem uU : Try.prog.underlying 5 = some (.int .u8) := by kernel_rfl
/-- 'string([]byte{x})'. -/
theorem run_str1 (w : World) (x : Int) : (convert 22 9 (.slice (some ⟨w.heap.size, 0, none⟩) 1 1)).run Try.prog (w.alloc (.cells #[.int .u8 x] 5)) = .ok (.string (strOfNums [x])) (w.alloc (.cells #[.int .u8 x] 5)) :=
  run_convert_bytes_arg (P := Try.prog) _ 22 5 uB uU w.heap.size 0 1 1 [x] rfl (fun i hi => by
    have : i = 0 := by omega
    subst this
    exact ((St.start w).newAt #[.int .u8 x] 5 (by simp [maxLen]) (H := w.heap.size) rfl).hd.cell 0 (by simp)) _ uT

set_option maxHeartbeats 2000000 in
set_option maxRecDepth 100000 in
theorem FormatInt_c (n : Int) (h0 : -1000000000000000 ≤ n) (h1 : n ≤ 1000000000000000) (w : World) : Calls Try.prog 188 #[.int .i64 n] w fun e w' => e = .returned (.string (fmtI n)) ∧ Below w.heap.size w w' := by
  by_cases hz : n = 0
  · subst hz
    go_enter Try.func188, Try.ntmps188
    go_wp2_with fail
    go_ret
    exact ⟨rfl, Below.refl _ _⟩
  · have q0 : (n == 0) = false := by rw [beq_eq_false_iff_ne]; exact hz
    have HS := hid (St.start w)
    have E : Hid (fmtI n = if n < 0 then ⟨#[45]⟩ ++ fmtD n.natAbs n ⟨#[]⟩ else fmtD n.natAbs n ⟨#[]⟩) := if_neg hz
    obtain ⟨r, hr⟩ : ∃ r, r = fmtD n.natAbs n ⟨#[]⟩ := ⟨_, rfl⟩
    rw [← hr] at E
    have HR := hid hr
    have HRS : Hid (r.size ≤ n.natAbs) := by have h := fmtD_size n.natAbs n ⟨#[]⟩; rw [← hr] at h; have e : (⟨#[]⟩ : ByteArray).size = 0 := rfl; rw [e, Nat.zero_add] at h; exact h
    clear hr hz
    obtain ⟨sg, hsg⟩ : ∃ sg : Bool, sg = decide (n < 0) := ⟨_, rfl⟩
    have HSG := hid hsg
    go_enter Try.func188, Try.ntmps188
    go_wp2_with fail
    rw [← hsg]
    clear hsg
    go_loopw [0, 4] (fun a o wr => ∃ (m : Int) (t : ByteArray) (f : Nat), a = .int .i64 m ∧ o = .string t ∧ (m.natAbs ≤ f ∧ f + t.size ≤ n.natAbs ∧ fmtD f m t = r) ∧ St w wr []) (fun a _ _ => (intOf a).natAbs)
    case atStart => exact ⟨n, ⟨#[]⟩, n.natAbs, rfl, rfl, ⟨Nat.le_refl _, Nat.le_refl _, HR.out.symm⟩, HS.out⟩
    case round =>
      obtain ⟨m, t, f, rfl, rfl, hm, hS⟩ := hrel
      have HS2 := hid hS
      clear hS
      by_cases hz : m = 0
      · subst hz
        have e : t = r := by rw [← hm.2.2, fmtD_zero]
        subst e
        clear hm
        have ht : t.size + 1 ≤ 9223372036854775807 := by have := HRS.out; omega
        cases sg with
        | true =>
          have E2 : Hid (fmtI n = ⟨#[45]⟩ ++ t) := by show _ = _; rw [E.out, if_pos (of_decide_eq_true HSG.out.symm)]
          have hadd := run_string_add_sum (P := Try.prog) wr ⟨#[45]⟩ t (by have e : (⟨#[45]⟩ : ByteArray).size = 1 := rfl; omega)
          obtain ⟨y, hy⟩ : ∃ y, ⟨#[45]⟩ ++ t = y := ⟨_, rfl⟩
          rw [hy] at hadd E2
          clear hy
          go_wp2_with fail
          go_ret
          exact ⟨by rw [E2.out]; rfl, HS2.out.bel⟩
        | false =>
          have E2 : Hid (fmtI n = t) := by show _ = _; rw [E.out, if_neg (of_decide_eq_false HSG.out.symm)]
          go_wp2_with fail
          go_ret
          exact ⟨by rw [E2.out]; rfl, HS2.out.bel⟩
      · obtain ⟨f1, f2, f3⟩ := hm
        have qz : (m != 0) = true := by simp [hz]
        obtain ⟨d, hd⟩ : ∃ d, m.tmod 10 = d := ⟨_, rfl⟩
        obtain ⟨m', hm'⟩ : ∃ m', m.tdiv 10 = m' := ⟨_, rfl⟩
        have HD := hid hd
        have HM := hid hm'
        have hd9 : -9 ≤ d ∧ d ≤ 9 := by have h1 := Int.tmod_lt_of_pos m (show (0:Int) < 10 by omega); have h2 := Int.lt_tmod_of_pos m (show (0:Int) < 10 by omega); omega
        have hmm : m'.natAbs + 1 ≤ m.natAbs := by
          rw [← hm', Int.natAbs_tdiv]
          have : m.natAbs ≠ 0 := by omega
          exact Nat.div_lt_self (by omega) (by decide)
        by_cases hneg : d < 0
        · skip
          have hx : ((m.tmod 10).natAbs : Int) = -d := by rw [hd]; omega
          have hcv := run_str1 wr (48 + -d)
          obtain ⟨z, hz'⟩ : ∃ z, strOfNums [48 + -d] = z := ⟨_, rfl⟩
          have hzs : z.size = 1 := by rw [← hz']; rfl
          rw [hz'] at hcv
          have htz : t.size + 1 ≤ 9223372036854775807 := by omega
          have hadd := fun w' => run_string_add_sum (P := Try.prog) w' z t (by omega)
          obtain ⟨y, hy⟩ : ∃ y, z ++ t = y := ⟨_, rfl⟩
          have HYS : Hid (y.size = t.size + 1) := by show _ = _; rw [← hy, ByteArray.size_append, hzs]; omega
          rw [hy] at hadd
          obtain ⟨f', rfl⟩ : ∃ f', f = f' + 1 := ⟨f - 1, by omega⟩
          have HF : Hid (fmtD f' m' y = r) := by show _ = _; rw [← f3, fmtD, if_neg hz, hm', hx, hz', hy]
          clear hx hz' hy f3 hzs hz
          go_wp2_with fail
          go_roundw
          case rel => exact ⟨m', y, f', rfl, rfl, ⟨by omega, by have := HYS.out; omega, HF.out⟩, HS2.out.alloc _⟩
          case measure => simp [intOf]; omega
        · skip
          have hx : ((m.tmod 10).natAbs : Int) = d := by rw [hd]; omega
          have hcv := run_str1 wr (48 + d)
          obtain ⟨z, hz'⟩ : ∃ z, strOfNums [48 + d] = z := ⟨_, rfl⟩
          have hzs : z.size = 1 := by rw [← hz']; rfl
          rw [hz'] at hcv
          have htz : t.size + 1 ≤ 9223372036854775807 := by omega
          have hadd := fun w' => run_string_add_sum (P := Try.prog) w' z t (by omega)
          obtain ⟨y, hy⟩ : ∃ y, z ++ t = y := ⟨_, rfl⟩
          have HYS : Hid (y.size = t.size + 1) := by show _ = _; rw [← hy, ByteArray.size_append, hzs]; omega
          rw [hy] at hadd
          obtain ⟨f', rfl⟩ : ∃ f', f = f' + 1 := ⟨f - 1, by omega⟩
          have HF : Hid (fmtD f' m' y = r) := by show _ = _; rw [← f3, fmtD, if_neg hz, hm', hx, hz', hy]
          clear hx hz' hy f3 hzs hz
          go_wp2_with fail
          go_roundw
          case rel => exact ⟨m', y, f', rfl, rfl, ⟨by omega, by have := HYS.out; omega, HF.out⟩, HS2.out.alloc _⟩
          case measure => simp [intOf]; omega

end Go.Proofs.Ytjaofbdfhcgmeaa
