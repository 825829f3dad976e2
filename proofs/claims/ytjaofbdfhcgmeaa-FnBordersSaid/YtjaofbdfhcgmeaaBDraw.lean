/-
  What the law of borders draws: matrices, numbers and primes.
-/
import Derived.Test.YtjaofbdfhcgmeaaDraws
import Derived.Test.YtjaofbdfhcgmeaaMLaws
import Derived.Deep.RegionHeld3
namespace Go.Proofs.Ytjaofbdfhcgmeaa
open Go.RowKit

theorem rowsLift2 {c o r : Ent} {vs : List Value} {M : List (List Int)} {Y : List Ent} : (o :: r :: rowsOn vs M (c :: Y)).Perm (c :: o :: r :: rowsOn vs M Y) :=
  (List.Perm.cons _ (rowsLift)).trans (List.Perm.swap _ _ _)
theorem Cr.perm {w0 w : World} {g : Nat} {vb : Value} {bs : List Int} {env env' : List Ent} (h : Cr w0 w g vb bs env) (hp : env.Perm env') : Cr w0 w g vb bs env' := h.map fun _ hS => hS.perm (List.Perm.cons _ hp)
theorem Cr.rdM {w0 w : World} {g : Nat} {vb : Value} {bs : List Int} {v : Value} {t : TypeId} {vs : List Value} {M : List (List Int)} {env : List Ent} (h : Cr w0 w g vb bs (⟨v, t, vs⟩ :: rowsOn vs M env)) (hl : vs.length = M.length) : RdM w v vs M := h.st.rdM hl
theorem Cr.snocRow {w0 w : World} {g : Nat} {vb : Value} {bs : List Int} {v : Value} {t : TypeId} {vs us : List Value} {M : List (List Int)} {env : List Ent} {r : Value} {x : List Int} (h : Cr w0 w g vb bs (⟨v, t, us⟩ :: ⟨r, 3, ints x⟩ :: rowsOn vs M env)) (hl : vs.length = M.length) :
    Cr w0 w g vb bs (⟨v, t, us⟩ :: rowsOn (vs ++ [r]) (M ++ [x]) env) := h.map fun _ hS => ((hS.perm rowsLift2.symm).snocRow hl).perm rowsLift
theorem Cr.setAt {w0 w : World} {g : Nat} {vb : Value} {bs : List Int} {v : Value} {t : TypeId} {vs us : List Value} {M : List (List Int)} {env : List Ent} (h : Cr w0 w g vb bs (⟨v, t, us⟩ :: rowsOn vs M env)) (hl : vs.length = M.length) {k : Nat} (hk : k < M.length) {j : Nat} (hj : j < (gr M k).length) (x : Int) :
    Cr w0 (w.setCell (adr (gv vs k) j) (.int .i64 x)) g vb bs (⟨v, t, us⟩ :: rowsOn vs (M.set k ((gr M k).set j x)) env) := h.map fun _ hS => ((hS.perm rowsLift.symm).setAt hl hk hj x).perm rowsLift
theorem Cr.freeRow {w0 w : World} {g : Nat} {vb : Value} {bs : List Int} {v : Value} {t : TypeId} {vs us : List Value} {M : List (List Int)} {env : List Ent} (h : Cr w0 w g vb bs (⟨v, t, us⟩ :: rowsOn vs M env)) (hl : vs.length = M.length) {k : Nat} (hk : k < M.length) {j : Nat} (hj : j < (gr M k).length) : w.frozen? (adr (gv vs k) j) = false := h.st.freeRow hl hk hj
/-- A row that is new, stored at place k of the list. -/
theorem Cr.newRow {w0 w : World} {g : Nat} {vb : Value} {bs : List Int} {v : Value} {t : TypeId} {vs us : List Value} {M : List (List Int)} {env : List Ent} {r : Value} {x : List Int} (h : Cr w0 w g vb bs (⟨r, 3, ints x⟩ :: ⟨v, t, us⟩ :: rowsOn vs M env)) (hl : vs.length = M.length) {k : Nat} (hk : k < M.length) (hu : us.length = vs.length) :
    Cr w0 (w.setCell (adr v k) r) g vb bs (⟨v, t, us.set k r⟩ :: rowsOn (vs.set k r) (M.set k x) env) := h.map fun c hS => by
  have h1 := (hS.perm (show (c :: ⟨r, 3, ints x⟩ :: ⟨v, t, us⟩ :: rowsOn vs M env).Perm (⟨v, t, us⟩ :: rowsOn vs M (⟨r, 3, ints x⟩ :: c :: env)) from
    ((List.Perm.swap _ _ _).trans (List.Perm.cons _ rowsLift.symm)).trans rowsLift.symm)).set k (by omega) r
  have h2 := (h1.pick hl hk).tail
  have h3 : St w0 _ (⟨r, 3, ints x⟩ :: ⟨v, t, us.set k r⟩ :: rowsOn (vs.eraseIdx k) (M.eraseIdx k) (c :: env)) := h2.perm rowsLift
  exact (h3.unpick hl hk).perm rowsLift

/-- A matrix as it is drawn: few rows, short ones. -/
def smallM (M : List (List Int)) : Prop := M.length ≤ 10 ∧ ∀ k, (gr M k).length ≤ 10
theorem gr_app {M : List (List Int)} {x : List Int} {k : Nat} (h : k < M.length) : gr (M ++ [x]) k = gr M k := by simp [gr, List.getD, List.getElem?_append_left h]
theorem smallM.snoc {M : List (List Int)} {x : List Int} (hM : ∀ k, (gr M k).length ≤ 10) (hx : x.length ≤ 10) : ∀ k, (gr (M ++ [x]) k).length ≤ 10 := fun k => by
  by_cases e : k < M.length
  · have := hM k
    rwa [gr_app e]
  · by_cases e2 : k = M.length
    · subst e2; simpa [gr] using hx
    · rw [gr_nil (by simp; omega)]; simp
theorem smallM.set {M : List (List Int)} {x : List Int} {k : Nat} (hM : smallM M) (hk : k < M.length) (hx : x.length ≤ 10) : smallM (M.set k x) := ⟨by simpa using hM.1, fun i => by
  rw [gr_set hk]
  split
  · exact hx
  · exact hM.2 i⟩
def retM (w0 : World) (g : Nat) (vb : Value) (bs : List Int) (env : List Ent) (e : Ending) (w' : World) : Prop := ∃ v vs M, e = .returned v ∧ smallM M ∧ vs.length = M.length ∧ Cr w0 w' g vb bs (⟨v, 26, vs⟩ :: rowsOn vs M env)

set_option maxHeartbeats 4000000 in
set_option maxRecDepth 100000 in
theorem l13Draw_c (n m : Nat) (hn : n ≤ 9) (hm : m ≤ 9) (g : Nat) (vb : Value) (bs : List Int) (w0 w : World) (env : List Ent) (hC : Cr w0 w g vb bs env) :
    Calls Try.prog 145 #[cp g, .int .i64 n, .int .i64 m] w (retM w0 g vb bs env) := by
  have HC := hid (hC.newAt #[] 26 (by simp) rfl)
  clear hC
  have HK := hid (fun n w env h => l1Below_c n g vb bs w0 w env h)
  have HO := hid (fun n w env h => l1Once_c n g vb bs w0 w env h)
  have HP := hid (fun vl xs w env hv hx h => l1PickInt_c vl xs g vb bs w0 w env hv hx h)
  unfold cp at HK HO HP ⊢
  go_enter Try.func145, Try.ntmps145
  go_wp2_with fail
  go_loopw [7, 8] (fun o i wr => ∃ (i' : Nat) (u : Value) (vs : List Value) (M : List (List Int)), i' ≤ n ∧ i = .int .i64 i' ∧ o = u ∧ vs.length = M.length ∧ M.length = i' ∧ (∀ k, (gr M k).length ≤ 10) ∧ (∀ k, k < i' → (gr M k).length = m) ∧ Cr w0 wr g vb bs (⟨u, 26, vs⟩ :: rowsOn vs M env)) (fun _ i _ => n - (intOf i).toNat)
  case atStart => exact ⟨0, _, [], [], by omega, rfl, rfl, rfl, rfl, fun k => by simp [gr], fun k hk => by omega, HC.out⟩
  case round =>
    obtain ⟨i, u, vs, M, hi, rfl, ho, hvl, hml, hM, hMm, hC⟩ := hrel
    have ho' := ho.symm
    subst ho'
    have HL := hid hvl
    have HML := hid hml
    have HM := hid hM
    have HMm := hid hMm
    have HC1 := hid hC
    clear hC hvl hml hM hMm
    by_cases hlt : i < n
    · have q0 : decide ((i : Int) < (n : Int)) = true := decide_eq_true (by omega)
      go_wp2_with fail
      go_loopw [9, 10] (fun o j' wr => ∃ (j : Nat) (r : Value) (xs : List Int), j ≤ m ∧ j' = .int .i64 j ∧ o = r ∧ xs.length = j ∧ Cr w0 wr g vb bs (⟨r, 3, ints xs⟩ :: ⟨u, 26, vs⟩ :: rowsOn vs M env)) (fun _ j' _ => m - (intOf j').toNat)
      case atStart => exact ⟨0, _, [], by omega, rfl, rfl, rfl, HC1.out.newAt #[] 3 (by simp) rfl⟩
      case round =>
        obtain ⟨j, r, xs, hj, rfl, ho, hxl, hC⟩ := hrel
        have ho' := ho.symm
        subst ho'
        have HXL := hid hxl
        have HC2 := hid hC
        clear hC hxl
        by_cases hjl : j < m
        · have q1 : decide ((j : Int) < (m : Int)) = true := decide_eq_true (by omega)
          go_wp2_with fail
          refine (HK.out _ _ _ HC2.out).mono ?_
          rintro e w3 ⟨x, rfl, _, hC⟩
          have HC3 := hid (hC.newAt #[.int .i64 0, .int .i64 1, .int .i64 (-1), .int .i64 0, .int .i64 2, .int .i64 x] 3 (by simp [maxLen]) (H := w3.heap.size) rfl)
          clear hC
          go_wp2_with fail
          refine (HP.out _ [0, 1, -1, 0, 2, x] _ _ (.head _) (by simp) HC3.out).mono ?_
          rintro e w4 ⟨y, rfl, _, hC⟩
          obtain ⟨c, hS, hback⟩ := hC.tail.open
          have HS := hid hS.swap
          have HBK := hid hback
          have hll := HXL.out
          clear hS hback hC
          go_wp2_with (at_builtin; refine wpList_push rfl _ _ rfl tI HS.out.own (.int .i64 y) rfl (by simp; omega) rfl rfl ?_)
          intro v4 w5 hO4 hb4
          rw [ints_snoc] at hO4
          have HC4 := hid (HBK.out _ _ (HS.out.mut hO4 hb4).swap)
          clear hO4 hb4
          go_wp2_with fail
          go_roundw
          case rel => exact ⟨j + 1, v4, xs ++ [y], by omega, by go_num, rfl, by simp; exact HXL.out, HC4.out⟩
          case measure => simp [intOf]; omega
        · have q1 : decide ((j : Int) < (m : Int)) = false := decide_eq_false (by omega)
          have ejm : Hid (xs.length = m) := by have := HXL.out; show _ = _; omega
          obtain ⟨rp, rl, rc, rfl⟩ := HC2.out.hd.form
          obtain ⟨c, hS, hback⟩ := HC2.out.open
          have HS := hid (hS.perm (show List.Perm (c :: ⟨.slice rp rl rc, 3, ints xs⟩ :: ⟨u, 26, vs⟩ :: rowsOn vs M env) (⟨u, 26, vs⟩ :: c :: ⟨.slice rp rl rc, 3, ints xs⟩ :: rowsOn vs M env) from ((List.Perm.cons _ (List.Perm.swap _ _ _)).trans (List.Perm.swap _ _ _))))
          have HBK := hid hback
          have hll := HL.out
          have hmm := HML.out
          clear hS hback
          go_wp2_with (at_builtin; refine wpList_push rfl _ _ rfl tSS HS.out.own (.slice rp rl rc) rfl (by omega) rfl rfl ?_)
          intro v4 w5 hO4 hb4
          have hC5 := HBK.out _ _ ((HS.out.mut hO4 hb4).perm (List.Perm.swap _ _ _))
          have HC5 := hid (hC5.snocRow HL.out)
          clear hO4 hb4 hC5 hll hmm
          go_wp2_with fail
          go_roundw
          case rel =>
            refine ⟨i + 1, v4, _, _, by omega, by go_num, rfl, by have := HL.out; simp; omega, by have := HML.out; simp; omega, smallM.snoc HM.out (by have := ejm.out; omega), fun k hk => ?_, HC5.out⟩
            have e1 := HML.out
            by_cases e : k < M.length
            · have := HMm.out k (by omega)
              rwa [gr_app e]
            · have e2 : k = M.length := by omega
              subst e2
              have := ejm.out
              simpa [gr] using this
          case measure => simp [intOf]; omega
    · have q0 : decide ((i : Int) < (n : Int)) = false := decide_eq_false (by omega)
      have ein : i = n := by omega
      subst ein
      have HSM : Hid (smallM M) := ⟨by have := HML.out; omega, HM.out⟩
      by_cases h0 : 0 < i
      · have q3 : decide ((0 : Int) < (i : Int)) = true := decide_eq_true (by omega)
        by_cases h1 : 0 < m
        · have q4 : decide ((0 : Int) < (m : Int)) = true := decide_eq_true (by omega)
          go_wp2_with fail
          refine (HO.out _ _ _ HC1.out).mono ?_
          rintro e w7 ⟨b, rfl, hC7⟩
          cases b with
          | false =>
            have HC7 := hid hC7
            clear hC7
            by_cases h2 : 1 < i
            · have q2 : decide ((1 : Int) < (i : Int)) = true := decide_eq_true (by omega)
              go_wp2_with fail
              refine (HO.out _ _ _ HC7.out).mono ?_
              rintro e w8 ⟨b2, rfl, hC8⟩
              cases b2 with
              | false =>
                have HC8 := hid hC8
                clear hC8
                go_wp2_with fail
                go_ret
                exact ⟨_, vs, M, rfl, HSM.out, HL.out, HC8.out⟩
              | true =>
                have hk1 : Hid (1 < M.length) := by have := HML.out; show _ < _; omega
                have f1 : ∀ w' : World, (Instr.indexAt 58 _ (.int .i64 1)).run Try.prog w' = .ok (.pointer (some (adr _ 1))) w' := (hC8.rdM HL.out).ix 1 hk1.out
                have hC9 := hC8.newAt #[.int .i64 1] 3 (by simp [maxLen]) (H := w8.heap.size) rfl
                have f2 := (hC9.tail.rdM HL.out).cell 1 hk1.out
                have f3 := hC9.free (.tail _ (.head _)) 1 (by have := HL.out; have := hk1.out; omega)
                have HC9 := hid hC9
                clear hC8 hC9
                go_wp2_with fail
                go_ret
                exact ⟨_, _, _, rfl, HSM.out.set (x := [1]) hk1.out (by simp), by have := HL.out; simp; omega, HC9.out.newRow (x := [1]) HL.out hk1.out rfl⟩
            · have q2 : decide ((1 : Int) < (i : Int)) = false := decide_eq_false (by omega)
              go_wp2_with fail
              go_ret
              exact ⟨_, vs, M, rfl, HSM.out, HL.out, HC7.out⟩
          | true =>
            have H0 : Hid (0 < M.length) := by have := HML.out; show _ < _; omega
            have H00 : Hid (0 < (gr M 0).length) := by have := HMm.out 0 h0; show _ < _; omega
            have hR := hC7.rdM HL.out
            have k0 := hR.cell 0 H0.out
            have i0 : ∀ w' : World, (Instr.indexAt 58 _ (.int .i64 0)).run Try.prog w' = .ok (.pointer (some (adr _ 0))) w' := hR.ix 0 H0.out
            have i1 : ∀ w' : World, (Instr.indexAt 26 _ (.int .i64 0)).run Try.prog w' = .ok (.pointer (some (adr _ 0))) w' := (hR.row 0 H0.out).iix tI 0 H00.out
            have HA := hid ((hC7.newAt #[.int .i64 1000, .int .i64 1001, .int .i64 (-1001)] 3 (by simp [maxLen]) (H := w7.heap.size) rfl).drewN 1)
            clear hC7 hR
            go_wp2_with fail
            go_region_held3 (fun w' => w'.cell? (adr u 0) = some (gv vs 0)) (first | go_keep | exact k0' | exact k3' | exact k0) (first | (refine (HP.out _ [1000, 1001, -1001] _ _ (.head _) (by simp) HA.out).mono ?_; rintro e w9 ⟨x, rfl, _, hC9⟩; have k0' := (hC9.tail.rdM HL.out).cell 0 H0.out; have k2' := ((hC9.tail.rdM HL.out).row 0 H0.out).intCell 0 H00.out; have s0 : w9.frozen? (adr (gv vs 0) 0) = false := hC9.tail.freeRow HL.out H0.out H00.out; have k3' := ((hC9.tail.setAt HL.out H0.out H00.out x).rdM (by have := HL.out; simpa using this)).cell 0 (by simpa using H0.out); have HC9 := hid hC9.tail; clear hC9))
            have HC10 := hid (HC9.out.setAt HL.out H0.out H00.out x)
            have HSM2 := hid (HSM.out.set (x := (gr M 0).set 0 x) H0.out (by have := HM.out 0; simpa using this))
            have HL2 : Hid (vs.length = (M.set 0 ((gr M 0).set 0 x)).length) := by have := HL.out; show _ = _; simpa using this
            have HML2 : Hid ((M.set 0 ((gr M 0).set 0 x)).length = i) := by have := HML.out; show _ = _; simpa using this
            generalize M.set 0 ((gr M 0).set 0 x) = M2 at *
            clear HC9 k0' k2' k3' s0
            by_cases h2 : 1 < i
            · have q2 : decide ((1 : Int) < (i : Int)) = true := decide_eq_true (by omega)
              go_wp2_with fail
              refine (HO.out _ _ _ HC10.out).mono ?_
              rintro e w8 ⟨b2, rfl, hC8⟩
              cases b2 with
              | false =>
                have HC8 := hid hC8
                clear hC8
                go_wp2_with fail
                go_ret
                exact ⟨_, vs, M2, rfl, HSM2.out, HL2.out, HC8.out⟩
              | true =>
                have hk1 : Hid (1 < M2.length) := by have := HML2.out; show _ < _; omega
                have f1 : ∀ w' : World, (Instr.indexAt 58 _ (.int .i64 1)).run Try.prog w' = .ok (.pointer (some (adr _ 1))) w' := (hC8.rdM HL2.out).ix 1 hk1.out
                have hC9 := hC8.newAt #[.int .i64 1] 3 (by simp [maxLen]) (H := w8.heap.size) rfl
                have f2 := (hC9.tail.rdM HL2.out).cell 1 hk1.out
                have f3 := hC9.free (.tail _ (.head _)) 1 (by have := HL2.out; have := hk1.out; omega)
                have HC9 := hid hC9
                clear hC8 hC9
                go_wp2_with fail
                go_ret
                exact ⟨_, _, _, rfl, HSM2.out.set (x := [1]) hk1.out (by simp), by have := HL2.out; simp; omega, HC9.out.newRow (x := [1]) HL2.out hk1.out rfl⟩
            · have q2 : decide ((1 : Int) < (i : Int)) = false := decide_eq_false (by omega)
              go_wp2_with fail
              go_ret
              exact ⟨_, vs, M2, rfl, HSM2.out, HL2.out, HC10.out⟩
        · have q4 : decide ((0 : Int) < (m : Int)) = false := decide_eq_false (by omega)
          by_cases h2 : 1 < i
          · have q2 : decide ((1 : Int) < (i : Int)) = true := decide_eq_true (by omega)
            go_wp2_with fail
            refine (HO.out _ _ _ HC1.out).mono ?_
            rintro e w8 ⟨b2, rfl, hC8⟩
            cases b2 with
            | false =>
              have HC8 := hid hC8
              clear hC8
              go_wp2_with fail
              go_ret
              exact ⟨_, vs, M, rfl, HSM.out, HL.out, HC8.out⟩
            | true =>
              have hk1 : Hid (1 < M.length) := by have := HML.out; show _ < _; omega
              have f1 : ∀ w' : World, (Instr.indexAt 58 _ (.int .i64 1)).run Try.prog w' = .ok (.pointer (some (adr _ 1))) w' := (hC8.rdM HL.out).ix 1 hk1.out
              have hC9 := hC8.newAt #[.int .i64 1] 3 (by simp [maxLen]) (H := w8.heap.size) rfl
              have f2 := (hC9.tail.rdM HL.out).cell 1 hk1.out
              have f3 := hC9.free (.tail _ (.head _)) 1 (by have := HL.out; have := hk1.out; omega)
              have HC9 := hid hC9
              clear hC8 hC9
              go_wp2_with fail
              go_ret
              exact ⟨_, _, _, rfl, HSM.out.set (x := [1]) hk1.out (by simp), by have := HL.out; simp; omega, HC9.out.newRow (x := [1]) HL.out hk1.out rfl⟩
          · have q2 : decide ((1 : Int) < (i : Int)) = false := decide_eq_false (by omega)
            go_wp2_with fail
            go_ret
            exact ⟨_, vs, M, rfl, HSM.out, HL.out, HC1.out⟩
      · have e0 : i = 0 := by omega
        subst e0
        go_wp2_with fail
        go_ret
        exact ⟨_, vs, M, rfl, HSM.out, HL.out, HC1.out⟩

end Go.Proofs.Ytjaofbdfhcgmeaa
