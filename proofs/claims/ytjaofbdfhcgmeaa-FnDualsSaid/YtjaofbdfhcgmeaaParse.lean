/-
  Complexes read from texts.
-/
import Derived.Test.YtjaofbdfhcgmeaaStr3
import Derived.Test.YtjaofbdfhcgmeaaCy
namespace Go.Proofs.Ytjaofbdfhcgmeaa
open Go.RowKit

set_option maxHeartbeats 1000000 in
set_option maxRecDepth 100000 in
theorem l1Pick_c (vl : Value) (ts : List ByteArray) (g : Nat) (vb : Value) (bs : List Int) (w0 w : World) (env : List Ent) (hv : ⟨vl, 9, strs ts⟩ ∈ env) (hx : 0 < ts.length) (hC : Cr w0 w g vb bs env) :
    Calls Try.prog 180 #[cp g, vl] w fun e w' => ∃ t, e = .returned (.string t) ∧ t ∈ ts ∧ Cr w0 w' g vb bs env := by
  have HK := hid (l1Below_c ts.length g vb bs w0 w env hC)
  have la := (hC.rd hv).ln tT
  rw [length_strs] at la
  clear hC
  unfold cp at HK ⊢
  go_enter Try.func180, Try.ntmps180
  go_wp2_with fail
  refine HK.out.mono ?_
  rintro e w1 ⟨x, rfl, hb, hC1⟩
  obtain ⟨b0, b1⟩ := hb.rng (by omega)
  obtain ⟨j, rfl⟩ : ∃ j : Nat, x = j := ⟨x.toNat, by omega⟩
  have hj : j < ts.length := by omega
  have f1 := (hC1.rd hv).ix tT j (by simpa using hj)
  have f2 := (hC1.rd hv).cell j (by simpa using hj)
  rw [strs_get hj] at f2
  have HC1 := hid hC1
  clear hC1 hb
  go_wp2_with fail
  go_ret
  exact ⟨_, rfl, gs_mem hj, HC1.out⟩

/-- A complex, and whether it was fine; its sets are the call's own. -/
def cxRet (w w' : World) (e : Ending) : Prop := ∃ n v fs b, e = .returned (.tuple #[cx n v, .bool b]) ∧ fs.length ≤ 1001 ∧ St w w' [⟨v, 3, ints fs⟩]

set_option maxHeartbeats 4000000 in
set_option maxRecDepth 100000 in
theorem ParseComplex_c (s : ByteArray) (hs : s.size ≤ 1000) (w : World) : Calls Try.prog 119 #[.string s] w fun e w' => cxRet w w' e := by
  have HS := hid ((St.start w).box 0 (.slice none 0 0) 30)
  have HK := hid (fun s hs b w => SplitByte_c s hs b w)
  go_enter Try.func119, Try.ntmps119
  go_wp2_with fail
  refine (HK.out s hs _ _).mono ?_
  rintro e w1 ⟨v1, ts, rfl, ⟨hl, ht⟩, hS1⟩
  have hS2 := HS.out.call1 hS1
  have la := hS2.hd.ln tT
  rw [length_strs] at la
  have HT := hid ht
  by_cases h2 : ts.length = 2
  · have q2 : ((ts.length : Int) != 2) = false := by simp [h2]
    have f1 : ∀ w' : World, (Instr.indexAt 106 v1 (.int .i64 0)).run Try.prog w' = .ok (.pointer (some (adr v1 0))) w' := hS2.hd.ix tT 0 (by simp; omega)
    have f2 := hS2.hd.cell 0 (by simp; omega)
    rw [strs_get (by omega)] at f2
    have f3 : ∀ w' : World, (Instr.indexAt 106 v1 (.int .i64 1)).run Try.prog w' = .ok (.pointer (some (adr v1 1))) w' := hS2.hd.ix tT 1 (by simp; omega)
    have HT0 := hid (ht _ (gs_mem (show 0 < ts.length by omega)))
    have HT1 := hid (ht _ (gs_mem (show 1 < ts.length by omega)))
    obtain ⟨t0, ht0⟩ : ∃ t0, t0 = gs ts 0 := ⟨_, rfl⟩
    obtain ⟨t1, ht1⟩ : ∃ t1, t1 = gs ts 1 := ⟨_, rfl⟩
    rw [← ht0] at f2 HT0
    rw [← ht1] at HT1
    have HE1 := hid ht1
    have HS2 := hid hS2
    clear ht0 ht1 ht hS2 hS1
    go_wp2_with fail
    refine (ParseInt_c t0 (by have := HT0.out; omega) _).mono ?_
    rintro e w2 ⟨⟨x, ok, rfl⟩, hB⟩
    have hS3 := (HS2.out.quiet hB).boxAt x (.slice none 0 0) 30 (H := w2.heap.size) rfl
    have f4 := hS3.hd2.cell 1 (by simp; omega)
    rw [strs_get (by omega), ← HE1.out] at f4
    have HS3 := hid hS3
    clear hS3 hB f1 f2
    go_wp2_with fail
    refine (HK.out t1 (by have := HT1.out; omega) _ _).mono ?_
    rintro e w3 ⟨v2, us, rfl, ⟨hul, hut⟩, hS4⟩
    have HU : Hid (∀ t ∈ us, t.size ≤ 1000) := fun t h => by have := hut t h; have := HT1.out; omega
    have hul2 : us.length ≤ 1001 := by have := HT1.out; omega
    have hS5 := (HS3.out.call1 hS4).swap.nilRow 3
    have lu := hS5.hd3.ln tT
    rw [length_strs] at lu
    have HS5 := hid hS5
    clear hS5 hS4 hut hul f4
    obtain ⟨C, hC⟩ : ∃ C, C = w2.heap.size := ⟨_, rfl⟩
    rw [← hC] at HS5 ⊢
    clear hC
    go_wp2_with fail
    go_loopw [9] (fun c wr => ∃ (k : Nat) (p : Option Addr) (l q : Nat) (fs : List Int), k ≤ us.length ∧ c = .int .i64 k ∧ fs.length = k ∧ St w wr [⟨.slice p l q, 3, ints fs⟩, ⟨bx C, 30, [.int .i64 x, .slice p l q]⟩, ⟨v2, 9, strs us⟩, ⟨v1, 9, strs ts⟩, ⟨bx w.heap.size, 30, [.int .i64 0, .slice none 0 0]⟩]) (fun c _ => us.length - (intOf c).toNat)
    case atStart => exact ⟨0, none, 0, 0, [], Nat.zero_le _, rfl, rfl, HS5.out⟩
    case round =>
      obtain ⟨k, p, l, q, fs, hk, rfl, hfl, hS⟩ := hrel
      have g4 := hS.hd4.cell 1 (by simp; omega)
      rw [strs_get (by omega), ← HE1.out] at g4
      have HS6 := hid hS
      by_cases hlt : k < us.length
      · cases hd : (!t1.toList.isEmpty) with
        | false =>
          have hrd := hS.hd
          have c0 := hS.hd2.c0
          have c1 := hS.hd2.c1
          have d0 := hS.hd5.c0
          have d1 := hS.hd5.c1
          have s0 : wr.frozen? ⟨w.heap.size, 0, none⟩ = false := hS.own.free (v := bx w.heap.size) (.tail _ (.tail _ (.tail _ (.tail _ (.head _))))) 0 (by simp)
          have s1 : wr.frozen? ⟨w.heap.size, 1, none⟩ = false := hS.own.free (v := bx w.heap.size) (.tail _ (.tail _ (.tail _ (.tail _ (.head _))))) 1 (by simp)
          clear hS
          cases ok with
          | false =>
            go_wp2_with fail
            have hS7 := ((HS6.out.bring (l1 := [_, _, _, _])).set 0 (by simp) (.int .i64 0)).set 1 (by simp) (.slice none 0 0)
            exact bodyPost_ret (ret_cx2 rfl rfl rfl hS7.hd) rfl ⟨_, .slice none 0 0, [], _, rfl, by simp, (hS7.sub (List.nil_sublist _)).nilRow _⟩
          | true =>
            go_wp2_with fail
            refine (sIsComplex_c x _ fs _ hrd).mono ?_
            rintro e w5 ⟨rfl, hB⟩
            have hS7 := HS6.out.quiet hB
            clear c0 c1 d0 d1 s0 s1
            have c0 := hS7.hd2.c0
            have c1 := hS7.hd2.c1
            have d0 := hS7.hd5.c0
            have d1 := hS7.hd5.c1
            have s0 : w5.frozen? ⟨w.heap.size, 0, none⟩ = false := hS7.own.free (v := bx w.heap.size) (.tail _ (.tail _ (.tail _ (.tail _ (.head _))))) 0 (by simp)
            have s1 : w5.frozen? ⟨w.heap.size, 1, none⟩ = false := hS7.own.free (v := bx w.heap.size) (.tail _ (.tail _ (.tail _ (.tail _ (.head _))))) 1 (by simp)
            have HS7 := hid hS7
            clear hS7 hB
            cases hc : isC x fs with
            | false =>
              clear hc
              go_wp2_with fail
              have hS8 := ((HS7.out.bring (l1 := [_, _, _, _])).set 0 (by simp) (.int .i64 0)).set 1 (by simp) (.slice none 0 0)
              exact bodyPost_ret (ret_cx2 rfl rfl rfl hS8.hd) rfl ⟨_, .slice none 0 0, [], _, rfl, by simp, (hS8.sub (List.nil_sublist _)).nilRow _⟩
            | true =>
              clear hc
              go_wp2_with fail
              have hS8 := ((HS7.out.bring (l1 := [_, _, _, _])).set 0 (by simp) (.int .i64 x)).set 1 (by simp) (.slice p l q)
              exact bodyPost_ret (ret_cx2 rfl rfl rfl hS8.hd) rfl ⟨_, _, fs, _, rfl, by omega, hS8.sub (.cons _ (.cons_cons _ (List.nil_sublist _)))⟩
        | true =>
          have f1 := hS.hd3.ix tT k (by simpa using hlt)
          have f2 := hS.hd3.cell k (by simpa using hlt)
          rw [strs_get hlt] at f2
          have HG := hid (HU.out _ (gs_mem hlt))
          clear hS
          go_wp2_with fail
          refine (ParseSet_c _ HG.out _).mono ?_
          rintro e w' ⟨⟨y, b, rfl, hy⟩, rfl⟩
          have HY := hid hy
          clear hy
          cases b with
          | false =>
            have d0 := HS6.out.hd5.c0
            have d1 := HS6.out.hd5.c1
            have s0 : wr.frozen? ⟨w.heap.size, 0, none⟩ = false := HS6.out.own.free (v := bx w.heap.size) (.tail _ (.tail _ (.tail _ (.tail _ (.head _))))) 0 (by simp)
            have s1 : wr.frozen? ⟨w.heap.size, 1, none⟩ = false := HS6.out.own.free (v := bx w.heap.size) (.tail _ (.tail _ (.tail _ (.tail _ (.head _))))) 1 (by simp)
            go_wp2_with fail
            have hS7 := ((HS6.out.bring (l1 := [_, _, _, _])).set 0 (by simp) (.int .i64 0)).set 1 (by simp) (.slice none 0 0)
            exact bodyPost_ret (ret_cx2 rfl rfl rfl hS7.hd) rfl ⟨_, .slice none 0 0, [], _, rfl, by simp, (hS7.sub (List.nil_sublist _)).nilRow _⟩
          | true =>
            have c0 := HS6.out.hd2.c0
            have c1 := HS6.out.hd2.c1
            go_wp2_with (at_builtin; refine wpList_push rfl _ _ rfl tI HS6.out.own (.int .i64 y) rfl (by simp; omega) rfl rfl ?_)
            intro v4 w4 hO4 hb4
            rw [ints_snoc] at hO4
            have hS7 := HS6.out.mut hO4 hb4
            obtain ⟨p', l', q', rfl⟩ := hS7.hd.form
            clear c0 c1
            have c0 := hS7.hd2.c0
            have c1 := hS7.hd2.c1
            have s1 : w4.frozen? ⟨C, 1, none⟩ = false := hS7.own.free (v := bx C) (.tail _ (.head _)) 1 (by simp)
            have HS7 := hid hS7
            clear hO4 hb4 hS7
            go_wp2_with fail
            go_roundw
            case rel =>
              have hS8 := (HS7.out.swap.set 1 (by simp) (.slice p' l' q')).swap
              exact ⟨k + 1, p', l', q', fs ++ [y], by omega, by go_num, by simp; omega, hS8⟩
            case measure => simp [intOf]; omega
      · skip
        have hrd := hS.hd
        have c0 := hS.hd2.c0
        have c1 := hS.hd2.c1
        have d0 := hS.hd5.c0
        have d1 := hS.hd5.c1
        have s0 : wr.frozen? ⟨w.heap.size, 0, none⟩ = false := hS.own.free (v := bx w.heap.size) (.tail _ (.tail _ (.tail _ (.tail _ (.head _))))) 0 (by simp)
        have s1 : wr.frozen? ⟨w.heap.size, 1, none⟩ = false := hS.own.free (v := bx w.heap.size) (.tail _ (.tail _ (.tail _ (.tail _ (.head _))))) 1 (by simp)
        clear hS
        cases ok with
        | false =>
          go_wp2_with fail
          have hS7 := ((HS6.out.bring (l1 := [_, _, _, _])).set 0 (by simp) (.int .i64 0)).set 1 (by simp) (.slice none 0 0)
          exact bodyPost_ret (ret_cx2 rfl rfl rfl hS7.hd) rfl ⟨_, .slice none 0 0, [], _, rfl, by simp, (hS7.sub (List.nil_sublist _)).nilRow _⟩
        | true =>
          go_wp2_with fail
          refine (sIsComplex_c x _ fs _ hrd).mono ?_
          rintro e w5 ⟨rfl, hB⟩
          have hS7 := HS6.out.quiet hB
          clear c0 c1 d0 d1 s0 s1
          have c0 := hS7.hd2.c0
          have c1 := hS7.hd2.c1
          have d0 := hS7.hd5.c0
          have d1 := hS7.hd5.c1
          have s0 : w5.frozen? ⟨w.heap.size, 0, none⟩ = false := hS7.own.free (v := bx w.heap.size) (.tail _ (.tail _ (.tail _ (.tail _ (.head _))))) 0 (by simp)
          have s1 : w5.frozen? ⟨w.heap.size, 1, none⟩ = false := hS7.own.free (v := bx w.heap.size) (.tail _ (.tail _ (.tail _ (.tail _ (.head _))))) 1 (by simp)
          have HS7 := hid hS7
          clear hS7 hB
          cases hc : isC x fs with
          | false =>
            clear hc
            go_wp2_with fail
            have hS8 := ((HS7.out.bring (l1 := [_, _, _, _])).set 0 (by simp) (.int .i64 0)).set 1 (by simp) (.slice none 0 0)
            exact bodyPost_ret (ret_cx2 rfl rfl rfl hS8.hd) rfl ⟨_, .slice none 0 0, [], _, rfl, by simp, (hS8.sub (List.nil_sublist _)).nilRow _⟩
          | true =>
            clear hc
            go_wp2_with fail
            have hS8 := ((HS7.out.bring (l1 := [_, _, _, _])).set 0 (by simp) (.int .i64 x)).set 1 (by simp) (.slice p l q)
            exact bodyPost_ret (ret_cx2 rfl rfl rfl hS8.hd) rfl ⟨_, _, fs, _, rfl, by omega, hS8.sub (.cons _ (.cons_cons _ (List.nil_sublist _)))⟩
  · have q2 : ((ts.length : Int) != 2) = true := by simp; omega
    have d0 := hS2.hd2.c0
    have d1 := hS2.hd2.c1
    have s0 : w1.frozen? ⟨w.heap.size, 0, none⟩ = false := hS2.own.free (v := bx w.heap.size) (.tail _ (.head _)) 0 (by simp)
    have s1 : w1.frozen? ⟨w.heap.size, 1, none⟩ = false := hS2.own.free (v := bx w.heap.size) (.tail _ (.head _)) 1 (by simp)
    have HS2 := hid hS2
    clear hS2 hS1 ht
    go_wp2_with fail
    have hS6 := (HS2.out.swap.set 0 (by simp) (.int .i64 0)).set 1 (by simp) (.slice none 0 0)
    exact bodyPost_ret (ret_cx2 rfl rfl rfl hS6.hd) rfl ⟨_, .slice none 0 0, [], _, rfl, by simp, (hS6.sub (List.nil_sublist _)).nilRow _⟩

end Go.Proofs.Ytjaofbdfhcgmeaa
