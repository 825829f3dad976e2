/-
  Counts of faces from h numbers.
-/
import Derived.Test.YtoaggenighfhpaaNum
namespace Go.Proofs.Ytoaggenighfhpaa
open Go.RowKit

theorem quiet_eq {P : Program} {f : FuncId} {args : Array Value} {w : World} {n : Nat} {v : Value}
    (h : Calls P f args (w.drewN n) fun e w' => e = .returned v ∧ w.drewN n = w') : Calls P f args (w.drewN n) fun e w'' => e = .returned v ∧ ∃ m, w'' = w.drewN m :=
  h.mono fun _ _ ⟨he, hm⟩ => ⟨he, n, hm.symm⟩

/-- The sum for place k, after i terms. -/
def cSum (h : List Int) (k : Nat) : Nat → Int
  | 0 => 0
  | i + 1 => wrap64 (cSum h k i + wrap64 (gi h i * chooseB ((h.length : Int) - 1 - (i : Int)) ((k : Int) - (i : Int))))
def cList (h : List Int) (k : Nat) : List Int := (List.range k).map fun j => cSum h j (j + 1)
def cfhOk (h : List Int) : Prop := 1 ≤ h.length ∧ h.length ≤ 7 ∧ ∀ x ∈ h, -1000 ≤ x ∧ x ≤ 1000
instance (h : List Int) : Decidable (cfhOk h) := by unfold cfhOk; exact inferInstance
def cfhB (h : List Int) : List Int := if cfhOk h then cList h h.length else []
theorem cfhB_len (h : List Int) : (cfhB h).length ≤ 1000000 := by
  unfold cfhB
  split
  · rename_i hk
    have := hk.2.1
    simp [cList]; omega
  · simp
theorem cList_succ (h : List Int) (k : Nat) : cList h (k + 1) = cList h k ++ [cSum h k (k + 1)] := by simp [cList, List.range_succ]
theorem gi_mem {xs : List Int} {j : Nat} (h : j < xs.length) : gi xs j ∈ xs := by rw [gi_eq xs j h]; exact List.getElem_mem _
theorem all_gi {xs : List Int} {p : Int → Prop} (h : ∀ j, j < xs.length → p (gi xs j)) : ∀ x ∈ xs, p x := by
  intro x hx
  obtain ⟨j, hj, rfl⟩ := List.getElem_of_mem hx
  rw [← gi_eq xs j hj]
  exact h j hj

set_option maxHeartbeats 2000000 in
set_option maxRecDepth 100000 in
theorem CountsFromH_c (va : Value) (h : List Int) (w : World) (ha : Rd w va (ints h)) : Calls Try.prog 14 #[va] w fun e w' => ∃ v, e = .returned v ∧ St w w' [⟨v, 3, ints (cfhB h)⟩] := by
  have la := ha.iln tI
  have ll := ha.ile
  by_cases h0 : h.length = 0
  · have e : cfhB h = [] := by rw [cfhB, if_neg (fun hk => by have := hk.1; omega)]
    have E := hid e; clear e
    have hq : ((h.length : Int) == 0) = true := by simp [h0]
    clear h0
    go_enter Try.func14, Try.ntmps14
    go_wp2_with fail
    go_ret
    exact ⟨_, rfl, by rw [E.out]; exact (St.start w).nilRow _⟩
  · have hq : ((h.length : Int) == 0) = false := by rw [beq_eq_false_iff_ne]; omega
    by_cases h7 : 7 < h.length
    · have e : cfhB h = [] := by rw [cfhB, if_neg (fun hk => by have := hk.2.1; omega)]
      have E := hid e; clear e
      clear h0
      go_enter Try.func14, Try.ntmps14
      go_wp2_with fail
      go_ret
      exact ⟨_, rfl, by rw [E.out]; exact (St.start w).nilRow _⟩
    · have hpos : 0 < h.length := by omega
      clear h0
      go_enter Try.func14, Try.ntmps14
      go_wp2_with fail
      go_loop [20] (fun i => ∃ j : Nat, j ≤ h.length ∧ i = .int .i64 j ∧ ∀ t, t < j → -1000 ≤ gi h t ∧ gi h t ≤ 1000) (fun i => h.length - (intOf i).toNat)
      case atStart => exact ⟨0, Nat.zero_le _, rfl, fun t ht => by omega⟩
      case round =>
        obtain ⟨j, hj, rfl, hR⟩ := hrel
        have HR := hid hR; clear hR
        by_cases hlt : j < h.length
        · have f1 := ha.iix tI j hlt
          have f2 := ha.intCell j hlt
          by_cases hr : -1000 ≤ gi h j ∧ gi h j ≤ 1000
          · obtain ⟨r0, r1⟩ := hr
            have E : Hid (∀ t, t < j + 1 → -1000 ≤ gi h t ∧ gi h t ≤ 1000) := by
              intro t ht
              rcases Nat.lt_or_ge t j with h' | h'
              · exact HR.out t h'
              · have : t = j := by omega
                subst this
                exact ⟨r0, r1⟩
            go_wp2_with fail
            go_round
            case rel => exact ⟨j + 1, by omega, by go_num, E.out⟩
            case measure => simp [intOf]; omega
          · have e : cfhB h = [] := by rw [cfhB, if_neg (fun hk => hr (hk.2.2 _ (gi_mem hlt)))]
            have E := hid e; clear e
            by_cases r0 : gi h j < -1000
            · clear hr
              go_wp2_with fail
              go_ret
              exact ⟨_, rfl, by rw [E.out]; exact (St.start w).nilRow _⟩
            · have r1 : 1000 < gi h j := by omega
              clear hr
              go_wp2_with fail
              go_ret
              exact ⟨_, rfl, by rw [E.out]; exact (St.start w).nilRow _⟩
        · have e : cfhB h = cList h h.length := by
            rw [cfhB, if_pos ⟨hpos, by omega, all_gi (fun t ht => HR.out t (by omega))⟩]
          have E := hid e; clear e
          go_wp2_with fail
          go_loopw [6, 7] (fun o i wr => ∃ (k : Nat) (v : Value), k ≤ h.length ∧ i = .int .i64 k ∧ o = v ∧ St w wr [⟨v, 3, ints (cList h k)⟩]) (fun _ i _ => h.length - (intOf i).toNat)
          case atStart => exact ⟨0, _, Nat.zero_le _, rfl, rfl, (St.start w).nilRow _⟩
          case round =>
            obtain ⟨k, v, hk, rfl, rfl, hS⟩ := hrel
            have HS := hid hS
            have ha1 := hS.old ha
            clear hS
            by_cases hlt2 : k < h.length
            · go_wp2_with fail
              obtain ⟨wo, rfl⟩ : ∃ wo : World, wo = wr := ⟨_, rfl⟩
              go_loopw [8, 9] (fun s i wr => ∃ (t m : Nat), t ≤ k + 1 ∧ i = .int .i64 t ∧ s = .int .i64 (cSum h k t) ∧ wr = wo.drewN m) (fun _ i _ => k + 1 - (intOf i).toNat)
              case atStart => exact ⟨0, 0, Nat.zero_le _, rfl, rfl, rfl⟩
              case round =>
                obtain ⟨t, m, ht, rfl, rfl, hw⟩ := hrel
                have HW := hid hw
                have ha2 : Rd wr va (ints h) := by rw [hw]; exact ha1.drew m
                clear hw
                by_cases hlt3 : t ≤ k
                · have f1 := ha2.iix tI t (by omega)
                  have f2 := ha2.intCell t (by omega)
                  have g1 : IntKind.i64.wrap ((h.length : Int) - 1 - (t : Int)) = (h.length : Int) - 1 - (t : Int) := IntWalk.i64_in _ (by omega)
                  have g2 : IntKind.i64.wrap ((k : Int) - (t : Int)) = (k : Int) - (t : Int) := IntWalk.i64_in _ (by omega)
                  go_wp2_with fail
                  go_quiet ((go_at_call 16; exact quiet_eq (Choose_c _ _ _)))
                  clear g1 g2
                  go_wp2_with fail
                  go_roundw
                  case rel => exact ⟨t + 1, m + nq, by omega, by go_num, rfl, by rw [HW.out, World.drewN_drewN]⟩
                  case measure => simp [intOf]; omega
                · have et : t = k + 1 := by omega
                  subst et
                  have HS2 := HS.out.drewN m
                  rw [← HW.out] at HS2
                  have e2 := cList_succ h k
                  have E2 := hid e2; clear e2
                  go_wp2_with (at_builtin; refine wpList_push rfl _ _ rfl tI HS2.own (.int .i64 (cSum h k (k + 1))) rfl (by simp [cList]; omega) rfl rfl ?_)
                  intro v2 w2 hO2 hb2
                  go_wp2_with fail
                  go_roundw
                  case rel => exact ⟨k + 1, v2, by omega, by go_num, rfl, by rw [E2.out, ints_append]; exact HS2.mut hO2 hb2⟩
                  case measure => simp [intOf]; omega
            · have ek : k = h.length := by omega
              subst ek
              go_wp2_with fail
              go_ret
              exact ⟨_, rfl, by rw [E.out]; exact HS.out⟩

set_option maxHeartbeats 2000000 in
set_option maxRecDepth 100000 in
theorem sCountsFromH_c (va : Value) (h : List Int) (w : World) (ha : Rd w va (ints h)) : Calls Try.prog 15 #[va] w fun e w' => ∃ v, e = .returned v ∧ St w w' [⟨v, 3, ints (cfhB h)⟩] := by
  have la := ha.iln tI
  have ll := ha.ile
  go_enter Try.func15, Try.ntmps15
  go_wp2_with fail
  go_loopw [3, 5] (fun o i wr => ∃ (k : Nat) (v : Value), k ≤ h.length ∧ i = .int .i64 k ∧ o = v ∧ St w wr [⟨v, 3, ints (cList h k)⟩] ∧ (∀ t, t < k → -1000 ≤ gi h t ∧ gi h t ≤ 1000) ∧ (0 < k → h.length ≤ 7)) (fun _ i _ => h.length - (intOf i).toNat)
  case atStart => exact ⟨0, _, Nat.zero_le _, rfl, rfl, (St.start w).new #[] _ (by simp), fun t ht => by omega, fun h => by omega⟩
  case round =>
    obtain ⟨k, v, hk, rfl, rfl, hS, hR, h7⟩ := hrel
    have HS := hid hS
    have ha1 := hS.old ha
    have HR := hid hR
    have H7 := hid h7
    clear hS hR h7
    by_cases hlt : k < h.length
    · have f1 := ha1.iix tI k hlt
      have f2 := ha1.intCell k hlt
      by_cases hr : -1000 ≤ gi h k ∧ gi h k ≤ 1000
      · have q1 := inB_t hr.1 hr.2
        by_cases h7 : h.length ≤ 7
        · have E : Hid (∀ t, t < k + 1 → -1000 ≤ gi h t ∧ gi h t ≤ 1000) := by
            intro t ht
            rcases Nat.lt_or_ge t k with h' | h'
            · exact HR.out t h'
            · have : t = k := by omega
              subst this
              exact hr
          have hd6 : (h.length : Int) - 1 ≤ 6 := by omega
          clear hr
          go_wp2_with (go_at_call 64; refine (l1In_c _ _ _ _).mono ?_; rintro e w' ⟨rfl, rfl⟩)
          obtain ⟨wo, rfl⟩ : ∃ wo : World, wo = wr := ⟨_, rfl⟩
          go_loopw [6, 7] (fun s i wr => ∃ (t m : Nat), t ≤ k + 1 ∧ i = .int .i64 t ∧ s = .int .i64 (cSum h k t) ∧ wr = wo.drewN m) (fun _ i _ => k + 1 - (intOf i).toNat)
          case atStart => exact ⟨0, 0, Nat.zero_le _, rfl, rfl, rfl⟩
          case round =>
            obtain ⟨t, m, ht, rfl, rfl, hw⟩ := hrel
            have HW := hid hw
            have ha2 : Rd wr va (ints h) := by rw [hw]; exact ha1.drew m
            clear hw
            by_cases hlt3 : t ≤ k
            · have f1 := ha2.iix tI t (by omega)
              have f2 := ha2.intCell t (by omega)
              have g1 : IntKind.i64.wrap ((h.length : Int) - 1 - (t : Int)) = (h.length : Int) - 1 - (t : Int) := IntWalk.i64_in _ (by omega)
              have g2 : IntKind.i64.wrap ((k : Int) - (t : Int)) = (k : Int) - (t : Int) := IntWalk.i64_in _ (by omega)
              go_wp2_with fail
              go_quiet ((go_at_call 17; exact quiet_eq (sChoose_c _ _ _)))
              clear g1 g2
              go_wp2_with fail
              go_roundw
              case rel => exact ⟨t + 1, m + nq, by omega, by go_num, rfl, by rw [HW.out, World.drewN_drewN]⟩
              case measure => simp [intOf]; omega
            · have et : t = k + 1 := by omega
              subst et
              have HS2 := HS.out.drewN m
              rw [← HW.out] at HS2
              have e2 := cList_succ h k
              have E2 := hid e2; clear e2
              go_wp2_with (at_builtin; refine wpList_push rfl _ _ rfl tI HS2.own (.int .i64 (cSum h k (k + 1))) rfl (by simp [cList]; omega) rfl rfl ?_)
              intro v2 w2 hO2 hb2
              go_wp2_with fail
              go_roundw
              case rel => exact ⟨k + 1, v2, by omega, by go_num, rfl, by rw [E2.out, ints_append]; exact HS2.mut hO2 hb2, E.out, fun _ => h7⟩
              case measure => simp [intOf]; omega
        · have e : cfhB h = [] := by rw [cfhB, if_neg (fun hk => h7 hk.2.1)]
          have E := hid e; clear e
          have hd6 : 6 < (h.length : Int) - 1 := by omega
          clear hr
          go_wp2_with (go_at_call 64; refine (l1In_c _ _ _ _).mono ?_; rintro e w' ⟨rfl, rfl⟩)
          go_ret
          exact ⟨_, rfl, by rw [E.out]; exact (HS.out.new #[] _ (by simp)).sub (List.Sublist.cons_cons _ (List.nil_sublist _))⟩
      · have q1 := inB_f hr
        have e : cfhB h = [] := by rw [cfhB, if_neg (fun hk => hr (hk.2.2 _ (gi_mem hlt)))]
        have E := hid e; clear e
        clear hr
        go_wp2_with (go_at_call 64; refine (l1In_c _ _ _ _).mono ?_; rintro e w' ⟨rfl, rfl⟩)
        go_ret
        exact ⟨_, rfl, by rw [E.out]; exact (HS.out.new #[] _ (by simp)).sub (List.Sublist.cons_cons _ (List.nil_sublist _))⟩
    · have ek : k = h.length := by omega
      subst ek
      have e : cfhB h = cList h h.length := by
        by_cases h0 : h.length = 0
        · rw [cfhB, if_neg (fun hk => by have := hk.1; omega), h0]
          rfl
        · rw [cfhB, if_pos ⟨by omega, H7.out (by omega), all_gi HR.out⟩]
      have E := hid e; clear e
      go_wp2_with fail
      go_ret
      exact ⟨_, rfl, by rw [E.out]; exact HS.out⟩

end Go.Proofs.Ytoaggenighfhpaa
