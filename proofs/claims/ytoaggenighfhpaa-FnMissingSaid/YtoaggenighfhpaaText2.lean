/-
  Texts joined; complexes written as texts.
-/
import Derived.Test.YtoaggenighfhpaaText
namespace Go.Proofs.Ytoaggenighfhpaa
open Go.RowKit

theorem iB : (Try.prog.info? 5).map (fun i => (i.zero, i.size, i.bytes)) = some (some (.int .u8 0), 1, 1) := by kernel_rfl
/-- 'string(b)'. -/
theorem run_str {w : World} {v : Value} {ns : List Int} (h : Rd w v (byts ns)) : (convert 22 9 v).run Try.prog w = .ok (.string (strOfNums ns)) w := by
  rcases h with ⟨rfl, h⟩ | ⟨a, cap, rfl, _, _, hc⟩
  · have : ns = [] := by simpa [byts] using h
    subst this
    exact run_convert_bytes_nil (P := Try.prog) w 22 5 uB uU 0 0 9 uT
  · by_cases h0 : ns.length = 0
    · have : ns = [] := List.eq_nil_of_length_eq_zero h0
      subst this
      have hl : (loadCells a 0).run Try.prog w = .ok (([] : List Int).map (Value.int .u8)).toArray w := by simpa using run_loadCells_list (P := Try.prog) w a [] (fun j v hj => by simp at hj)
      have := run_bytesToString (P := Try.prog) w a 0 cap [] hl
      have h2 := run_convert_bytes_string (P := Try.prog) w 22 9 5 (some a) 0 cap uB uU uT
      simp only [length_byts, List.length_nil]
      rw [h2, this]
      rfl
    · obtain ⟨hc0, hs0⟩ := hc 0 (by simp; omega)
      have hs : a.spot = none := by simpa [Addr.add] using congrArg Addr.spot hs0
      obtain ⟨b, off, sp⟩ := a
      simp only at hs
      subst hs
      have := run_convert_bytes_arg (P := Try.prog) w 22 5 uB uU b off (byts ns).length cap ns (by simp) (fun i hi => by
        have h1 := (hc i hi).1
        have hi' : i < ns.length := by simpa using hi
        simpa [byts, List.getD, hi'] using h1) 9 uT
      exact this

set_option maxHeartbeats 2000000 in
set_option maxRecDepth 100000 in
theorem Join_c (va : Value) (ts : List ByteArray) (sep : ByteArray) (w : World) (ha : Rd w va (strs ts)) (h1 : sep.size ≤ 10) (h2 : ∀ t ∈ ts, t.size ≤ 10) (hl : ts.length ≤ 10000) : Calls Try.prog 117 #[va, .string sep] w fun e w' => e = .returned (.string (strOfNums (joinTo sep ts ts.length))) ∧ Below w.heap.size w w' := by
  have la := ha.ln tT
  rw [length_strs] at la
  have HJ : Hid (∀ j, j ≤ ts.length → (joinTo sep ts j).length ≤ 20 * j) := fun j hj => joinTo_len h1 h2 j hj
  have H2 := hid h2
  clear h2
  have HS := hid ((St.start w).newAt #[] 5 (by simp) (H := w.heap.size) rfl)
  go_enter Try.func117, Try.ntmps117
  go_wp2_with fail
  go_loopw [5, 6] (fun o c wr => ∃ (j : Nat) (v : Value), j ≤ ts.length ∧ c = .int .i64 j ∧ o = v ∧ St w wr [⟨v, 5, byts (joinTo sep ts j)⟩]) (fun _ c _ => ts.length - (intOf c).toNat)
  case atStart => exact ⟨0, _, Nat.zero_le _, rfl, rfl, HS.out⟩
  case round =>
    obtain ⟨j, v, hj, rfl, rfl, hS⟩ := hrel
    by_cases hlt : j < ts.length
    · have ha' := hS.old ha
      have f1 := ha'.ix tT j (by simpa using hlt)
      have HT := hid (H2.out _ (gs_mem hlt))
      have hjl := HJ.out j hj
      obtain ⟨t, ht⟩ : ∃ t, t = gs ts j := ⟨_, rfl⟩
      rw [← ht] at HT
      by_cases h0 : 0 < j
      · have E : Hid (joinTo sep ts (j + 1) = joinTo sep ts j ++ (nums sep ++ nums t)) := by show _ = _; rw [joinTo, if_pos h0, ht, List.append_assoc]
        have q0 : decide ((0 : Int) < (j : Int)) = true := decide_eq_true (by omega)
        have HS2 := hid hS
        have HA := hid ha
        have HTT := hid ht
        clear hS ha' ht
        go_wp2_with (at_builtin; refine wpList_appS rfl _ _ rfl uB uT iB HS2.out.own sep (by omega) rfl rfl ?_)
        intro v2 w2 hO2 hb2
        have hS3 := HS2.out.mut hO2 hb2
        have f2 := (hS3.old HA.out).cell j (by simpa using hlt)
        rw [strs_get hlt, ← HTT.out] at f2
        have HS3 := hid hS3
        clear hO2 hb2 hS3
        go_wp2_with (at_builtin; refine wpList_appS rfl _ _ rfl uB uT iB HS3.out.own t (by rw [List.length_append, nums_len]; have := HT.out; omega) rfl rfl ?_)
        intro v3 w3 hO3 hb3
        first | rw [← E.out] at hO3 | rw [List.append_assoc, ← E.out] at hO3
        have HS4 := hid (HS3.out.mut hO3 hb3)
        clear hO3 hb3
        go_wp2_with fail
        go_roundw
        case rel => exact ⟨j + 1, v3, by omega, by go_num, rfl, HS4.out⟩
        case measure => simp [intOf]; omega
      · have E : Hid (joinTo sep ts (j + 1) = joinTo sep ts j ++ nums t) := by show _ = _; rw [joinTo, if_neg h0, ht]
        have f2 := ha'.cell j (by simpa using hlt)
        rw [strs_get hlt, ← ht] at f2
        have e0 : j = 0 := by omega
        subst e0
        have g1 : ∀ w' : World, (Instr.indexAt 86 va (.int .i64 0)).run Try.prog w' = .ok (.pointer (some (adr va 0))) w' := f1
        have HS2 := hid hS
        clear hS ha' ht h0 f1
        go_wp2_with (at_builtin; refine wpList_appS rfl _ _ rfl uB uT iB HS2.out.own t (by have := HT.out; omega) rfl rfl ?_)
        intro v3 w3 hO3 hb3
        rw [← E.out] at hO3
        have HS4 := hid (HS2.out.mut hO3 hb3)
        clear hO3 hb3
        go_wp2_with fail
        go_roundw
        case rel => exact ⟨1, v3, by omega, by go_num, rfl, HS4.out⟩
        case measure => simp [intOf]; omega
    · have ej : j = ts.length := by omega
      subst ej
      have hcv := run_str hS.hd
      have HS2 := hid hS
      clear hS
      go_wp2_with fail
      go_ret
      exact ⟨rfl, HS2.out.bel⟩

def stsB (fs : List Int) : ByteArray := strOfNums (joinTo ⟨#[44]⟩ (fs.map setT) fs.length)
theorem stsB_size {fs : List Int} : (stsB fs).size ≤ 20 * fs.length := by
  have := joinTo_len (sep := ⟨#[44]⟩) (ts := fs.map setT) (by decide) (fun t ht => by obtain ⟨x, _, rfl⟩ := List.mem_map.1 ht; have := setT_size x; omega) fs.length (by simp)
  rw [stsB, strOfNums_size]
  exact this
set_option maxHeartbeats 2000000 in
set_option maxRecDepth 100000 in
theorem SetsText_c (va : Value) (fs : List Int) (w : World) (ha : Rd w va (ints fs)) (hl : fs.length ≤ 10000) : Calls Try.prog 92 #[va] w fun e w' => e = .returned (.string (stsB fs)) ∧ Below w.heap.size w w' := by
  have la := ha.iln tI
  have HS := hid ((St.start w).newAt #[] 9 (by simp) (H := w.heap.size) rfl)
  go_enter Try.func92, Try.ntmps92
  go_wp2_with fail
  go_loopw [3, 4] (fun o c wr => ∃ (j : Nat) (v : Value), j ≤ fs.length ∧ c = .int .i64 j ∧ o = v ∧ St w wr [⟨v, 9, strs ((fs.map setT).take j)⟩]) (fun _ c _ => fs.length - (intOf c).toNat)
  case atStart => exact ⟨0, _, Nat.zero_le _, rfl, rfl, HS.out⟩
  case round =>
    obtain ⟨j, v, hj, rfl, rfl, hS⟩ := hrel
    by_cases hlt : j < fs.length
    · have ha' := hS.old ha
      have f1 := ha'.iix tI j hlt
      have f2 := ha'.intCell j hlt
      have E : Hid (strs ((fs.map setT).take (j + 1)) = strs ((fs.map setT).take j) ++ [.string (setT (gi fs j))]) := by show _ = _; rw [← List.map_take, take_succ_gi hlt, List.map_append, List.map_take]; simp [strs]
      have HS2 := hid hS
      clear hS ha'
      go_wp2_with (first | (go_at_call 116; refine (SetText_c _ _).mono ?_; rintro e w' ⟨rfl, rfl⟩) | (at_builtin; refine wpList_push rfl _ _ rfl tT HS2.out.own (.string (setT (gi fs j))) rfl (by simp; omega) rfl rfl ?_))
      intro v4 w4 hO4 hb4
      rw [← E.out] at hO4
      have HS4 := hid (HS2.out.mut hO4 hb4)
      clear hO4 hb4
      go_wp2_with fail
      go_roundw
      case rel => exact ⟨j + 1, v4, by omega, by go_num, rfl, HS4.out⟩
      case measure => simp [intOf]; omega
    · have E : (fs.map setT).take j = fs.map setT := List.take_of_length_le (by simp; omega)
      rw [E] at hS
      have HS2 := hid hS
      clear hS E
      go_wp2_with fail
      refine (Join_c _ (fs.map setT) ⟨#[44]⟩ _ HS2.out.hd (by decide) (fun t ht => by obtain ⟨x, _, rfl⟩ := List.mem_map.1 ht; have := setT_size x; omega) (by simp; omega)).mono ?_
      rintro e w3 ⟨rfl, hB⟩
      have HS3 := hid (HS2.out.quiet hB)
      clear hB
      go_wp2_with fail
      go_ret
      exact ⟨rfl, HS3.out.bel⟩

def ctB (n : Int) (fs : List Int) : ByteArray := if isC n fs = true then (fmtI n ++ ⟨#[58]⟩) ++ stsB fs else ⟨#[]⟩
set_option maxHeartbeats 4000000 in
set_option maxRecDepth 100000 in
theorem ComplexText_c (n : Int) (va : Value) (fs : List Int) (w : World) (ha : Rd w va (ints fs)) : Calls Try.prog 46 #[cx n va] w fun e w' => e = .returned (.string (ctB n fs)) ∧ Below w.heap.size w w' := by
  obtain ⟨p1, l1, k1, rfl⟩ := ha.form
  have hS := (St.start w).box n (.slice p1 l1 k1) 26
  have ha' := hS.old ha
  have HS := hid hS
  clear hS
  cases hc : isC n fs with
  | false =>
    have E : Hid (ctB n fs = ⟨#[]⟩) := if_neg (by simp [hc])
    unfold cx
    go_enter Try.func46, Try.ntmps46
    go_wp2_with fail
    refine (sIsComplex_c n _ fs _ ha').mono ?_
    rw [hc]
    rintro e w1 ⟨rfl, hB⟩
    have HS1 := hid (HS.out.quiet hB)
    clear hB
    go_wp2_with fail
    go_ret
    exact ⟨by rw [E.out]; rfl, HS1.out.bel⟩
  | true =>
    have hC := isC_iff.1 hc
    have n1 := hC.1
    have n6 := hC.2.1
    have hle : fs.length ≤ 448 := by
      have e : setsL (mem fs) = fs := setsL_mem hC.rng hC.2.2.2.1
      rw [← e]; exact setsL_len _
    have hf1 : (fmtI n).size ≤ 20 := by
      unfold fmtI
      rw [if_neg (by omega), if_neg (by omega)]
      have := fmtD_size n.natAbs n ⟨#[]⟩
      have e0 : (⟨#[]⟩ : ByteArray).size = 0 := rfl
      omega
    have hf2 := stsB_size (fs := fs)
    obtain ⟨y1, hy1⟩ : ∃ y1, fmtI n = y1 := ⟨_, rfl⟩
    obtain ⟨y2, hy2⟩ : ∃ y2, y1 ++ ⟨#[58]⟩ = y2 := ⟨_, rfl⟩
    obtain ⟨y3, hy3⟩ : ∃ y3, stsB fs = y3 := ⟨_, rfl⟩
    obtain ⟨y4, hy4⟩ : ∃ y4, y2 ++ y3 = y4 := ⟨_, rfl⟩
    have E : Hid (ctB n fs = y4) := by show _ = _; rw [ctB, if_pos hc, hy1, hy2, hy3, hy4]
    have hz1 : (⟨#[58]⟩ : ByteArray).size = 1 := rfl
    have hz2 : y2.size = y1.size + 1 := by rw [← hy2, ByteArray.size_append, hz1]
    rw [hy1] at hf1
    rw [hy3] at hf2
    have ha1 := fun w' => run_string_add_sum (P := Try.prog) w' y1 ⟨#[58]⟩ (by omega)
    have ha2 := fun w' => run_string_add_sum (P := Try.prog) w' y2 y3 (by omega)
    rw [hy2] at ha1
    rw [hy4] at ha2
    have HY1 := hid hy1
    have HY3 := hid hy3
    clear hy1 hy2 hy3 hy4 hz1 hz2 hf1 hf2 hC
    unfold cx
    go_enter Try.func46, Try.ntmps46
    go_wp2_with fail
    refine (sIsComplex_c n _ fs _ ha').mono ?_
    rw [hc]
    rintro e w1 ⟨rfl, hB⟩
    have hS1 := HS.out.quiet hB
    have c0 := hS1.hd.c0
    have c1 := hS1.hd.c1
    have HS1 := hid hS1
    clear hB hS1 hc
    go_wp2_with fail
    go_region_held3 (fun w' => w'.cell? ⟨w.heap.size, 0, none⟩ = some (.int .i64 n) ∧ w'.cell? ⟨w.heap.size, 1, none⟩ = some (.slice p1 l1 k1)) (first | go_keep | exact ⟨k0', k1'⟩)
      (first
        | (go_at_call 92; refine (SetsText_c _ fs _ (HS2.out.old ha) (by omega)).mono ?_; rw [HY3.out]; rintro e w3 ⟨rfl, hB⟩; have hS3 := HS2.out.quiet hB; have k0' := hS3.hd.c0; have k1' := hS3.hd.c1; have HS3 := hid hS3; clear hS3 hB)
        | (go_at_call 91; refine (FormatInt_c n (by omega) (by omega) _).mono ?_; rw [HY1.out]; rintro e w2 ⟨rfl, hB⟩; have hS2 := (HS1.out.drewN 1).quiet hB; have k0' := hS2.hd.c0; have k1' := hS2.hd.c1; have HS2 := hid hS2; clear hS2 hB))
    all_goals
      go_wp2_with fail
      go_ret
      exact ⟨by rw [E.out]; rfl, HS3.out.bel⟩

end Go.Proofs.Ytoaggenighfhpaa
