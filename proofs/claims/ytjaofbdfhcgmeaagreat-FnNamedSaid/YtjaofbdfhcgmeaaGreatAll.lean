/-
  All lists of names: the program's and the reference's.
-/
import Derived.Test.YtjaofbdfhcgmeaaGreatRen
import Derived.Test.YtjaofbdfhcgmeaaGreatZMono
namespace Go.Proofs.YtjaofbdfhcgmeaaGreat
open Go.RowKit

/-- A list with one number more that it has not, of the numbers less than k. -/
def extTo (l : List Int) : Nat → List (List Int)
  | 0 => []
  | k + 1 => if hasB l (k : Int) = true then extTo l k else extTo l k ++ [l ++ [(k : Int)]]
def lvl (n : Nat) : Nat → List (List Int)
  | 0 => [[]]
  | k + 1 => (lvl n k).flatMap fun l => extTo l n
def dfs (n : Nat) : Nat → List Int → List (List Int)
  | 0, h => [h]
  | r + 1, h => (extTo h n).flatMap (dfs n r)
theorem dfs_lvl (n r : Nat) : ∀ k, (lvl n k).flatMap (dfs n r) = lvl n (k + r) := by
  induction r with
  | zero =>
    intro k
    show (lvl n k).flatMap (fun h => [h]) = _
    simp
  | succ r ih =>
    intro k
    rw [show k + (r + 1) = (k + 1) + r by omega, ← ih (k + 1), lvl, List.flatMap_assoc]
    rfl
theorem dfs_all (n : Nat) : dfs n n [] = lvl n n := by
  have := dfs_lvl n n 0
  simpa [lvl] using this
theorem mem_extTo {l r : List Int} {k : Nat} : r ∈ extTo l k ↔ ∃ x : Nat, x < k ∧ ¬ (x : Int) ∈ l ∧ r = l ++ [(x : Int)] := by
  induction k with
  | zero => simp [extTo]
  | succ k ih =>
    rw [extTo]
    by_cases h : hasB l (k : Int) = true
    · rw [if_pos h, ih]
      have hk : (k : Int) ∈ l := by simpa [hasB] using h
      constructor
      · rintro ⟨x, a, b, c⟩; exact ⟨x, by omega, b, c⟩
      · rintro ⟨x, a, b, c⟩
        by_cases e : x = k
        · subst e; exact absurd hk b
        · exact ⟨x, by omega, b, c⟩
    · rw [if_neg h, List.mem_append, ih, List.mem_singleton]
      have hk : ¬ (k : Int) ∈ l := by simpa [hasB] using h
      constructor
      · rintro (⟨x, a, b, c⟩ | rfl)
        · exact ⟨x, by omega, b, c⟩
        · exact ⟨k, by omega, hk, rfl⟩
      · rintro ⟨x, a, b, c⟩
        by_cases e : x = k
        · subst e; exact .inr c
        · exact .inl ⟨x, by omega, b, c⟩
theorem lvl_rows {n k : Nat} : ∀ {r : List Int}, r ∈ lvl n k → r.length = k ∧ (∀ x ∈ r, 0 ≤ x ∧ x < (n : Int)) ∧ r.Nodup := by
  induction k with
  | zero =>
    intro r h
    rw [lvl, List.mem_singleton] at h
    subst h
    exact ⟨rfl, by simp, List.nodup_nil⟩
  | succ k ih =>
    intro r h
    rw [lvl, List.mem_flatMap] at h
    obtain ⟨l, hl, hr⟩ := h
    obtain ⟨x, a, b, rfl⟩ := mem_extTo.1 hr
    obtain ⟨h1, h2, h3⟩ := ih hl
    refine ⟨by simp [h1], fun y hy => ?_, nodup_snoc h3 b⟩
    rw [List.mem_append, List.mem_singleton] at hy
    rcases hy with hy | rfl
    · exact h2 y hy
    · omega
theorem lvl_names {n : Nat} (h1 : 1 ≤ n) (h6 : n ≤ 6) {r : List Int} (h : r ∈ lvl n n) : Names (n : Int) r := by
  obtain ⟨a, b, c⟩ := lvl_rows h
  exact ⟨by omega, by omega, by omega, b, c⟩
theorem extTo_len (l : List Int) (k : Nat) : (extTo l k).length ≤ k := by
  induction k with
  | zero => simp [extTo]
  | succ k ih => rw [extTo]; split <;> (try simp) <;> omega
theorem flatMap_len {α β : Type} {f : α → List β} {b : Nat} (h : ∀ x, (f x).length ≤ b) (l : List α) : (l.flatMap f).length ≤ l.length * b := by
  induction l with
  | nil => simp
  | cons x l ih =>
    rw [List.flatMap_cons, List.length_append, List.length_cons, Nat.add_mul]
    have := h x
    omega
theorem lvl_len {n : Nat} (h6 : n ≤ 6) (k : Nat) : (lvl n k).length ≤ 6 ^ k := by
  induction k with
  | zero => simp [lvl]
  | succ k ih =>
    rw [lvl, Nat.pow_succ]
    have h := flatMap_len (f := fun l => extTo l n) (b := 6) (fun l => by have := extTo_len l n; omega) (lvl n k)
    have := Nat.mul_le_mul_right 6 ih
    omega
theorem dfs_len {n : Nat} (h6 : n ≤ 6) (r : Nat) : ∀ h : List Int, (dfs n r h).length ≤ 6 ^ r := by
  induction r with
  | zero => intro h; simp [dfs]
  | succ r ih =>
    intro h
    rw [dfs, Nat.pow_succ]
    have h1 := flatMap_len ih (extTo h n)
    have h2 := Nat.mul_le_mul_right (6 ^ r) (show (extTo h n).length ≤ 6 by have := extTo_len h n; omega)
    omega
theorem dfs_part {n : Nat} (h6 : n ≤ 6) (r : Nat) (h : List Int) {k : Nat} (hk : k < n) : ((extTo h k).flatMap (dfs n r)).length + 6 ^ r ≤ 6 ^ (r + 1) := by
  have h1 := flatMap_len (dfs_len h6 r) (extTo h k)
  have h2 := Nat.mul_le_mul_right (6 ^ r) (show (extTo h k).length ≤ 5 by have := extTo_len h k; omega)
  rw [Nat.pow_succ]
  omega
theorem ext_t {l : List Int} {k : Nat} (h : hasB l (k : Int) = true) : extTo l (k + 1) = extTo l k := by rw [extTo, if_pos h]
theorem ext_f {l : List Int} {k : Nat} (h : hasB l (k : Int) = false) : extTo l (k + 1) = extTo l k ++ [l ++ [(k : Int)]] := by rw [extTo, if_neg (by simp [h])]
theorem lvl_pos_fin : ∀ n : Fin 7, ∀ k : Fin 7, k.val ≤ n.val → 0 < (lvl n.val k.val).length := by decide +kernel
theorem lvl_pos {n k : Nat} (h6 : n ≤ 6) (h : k ≤ n) : 0 < (lvl n k).length := lvl_pos_fin ⟨n, by omega⟩ ⟨k, by omega⟩ h
theorem flat_succ {n : Nat} {M : List (List Int)} {j : Nat} (h : j < M.length) : ((M.take (j + 1)).flatMap fun l => extTo l n) = ((M.take j).flatMap fun l => extTo l n) ++ extTo (gr M j) n := by
  rw [take_succ_gr h, List.flatMap_append]; simp

set_option maxHeartbeats 2000000 in
theorem l9All_c (n : Nat) (hn6 : n ≤ 6) (r : Nat) : ∀ (u hv : Value) (vs : List Value) (M : List (List Int)) (h : List Int) (w0 w : World) (env : List Ent), h.length + r = n → vs.length = M.length → M.length + 6 ^ r ≤ 100000 → St w0 w (⟨u, 24, vs⟩ :: rowsOn vs M (⟨hv, 3, ints h⟩ :: env)) →
    Calls Tryz.prog 51 #[.int .i64 (n : Int), hv, u] w fun e w' => ∃ u' vs', e = .returned u' ∧ vs'.length = (M ++ dfs n r h).length ∧ St w0 w' (⟨u', 24, vs'⟩ :: rowsOn vs' (M ++ dfs n r h) env) := by
  induction r with
  | zero =>
    intro u hv vs M h w0 w env hr hl hb hS
    have ls := hS.dropRows.hd.iln tI
    obtain ⟨rp, rl, rc, rfl⟩ := hS.dropRows.hd.form
    have qn : ((h.length : Int) == (n : Int)) = true := by rw [beq_iff_eq]; omega
    have E : Hid (rowsOn (vs ++ [.slice rp rl rc]) (M ++ [h]) env = rowsOn vs M (⟨.slice rp rl rc, 3, ints h⟩ :: env)) := by
      show _ = _
      simp only [rowsOn]
      rw [rows_snoc hl, List.append_assoc]; rfl
    have hl9 : vs.length ≤ 100000 := by omega
    have HS := hid hS
    have HL := hid hl
    clear hS hl
    go_enter Tryz.func51, Tryz.ntmps51
    go_wp2_with (at_builtin; refine wpList_push rfl _ _ rfl tSS HS.out.own (.slice rp rl rc) rfl (by omega) rfl rfl ?_)
    intro v2 w2 hO2 hb2
    have hS2 := HS.out.mut hO2 hb2
    rw [← E.out] at hS2
    have HS2 := hid hS2
    clear hS2 hO2 hb2
    go_wp2_with fail
    go_ret
    have h9 : (vs ++ [Value.slice rp rl rc]).length = (M ++ dfs n 0 h).length := by simp [dfs, HL.out]
    have h9' : (vs ++ [Value.slice rp rl rc]).length = M.length + (dfs n 0 h).length := by rw [h9, List.length_append]
    first | exact ⟨_, _, rfl, h9, HS2.out⟩ | exact ⟨_, rfl, _, h9, HS2.out⟩ | exact ⟨_, _, rfl, h9', HS2.out⟩ | exact ⟨_, rfl, _, h9', HS2.out⟩
  | succ r ih =>
    intro u hv vs M h w0 w env hr hl hb hS
    have ls := hS.dropRows.hd.iln tI
    have qn : ((h.length : Int) == (n : Int)) = false := by rw [beq_eq_false_iff_ne]; omega
    have hh6 : h.length ≤ 6 := by omega
    have HT0 : Hid (M ++ (extTo h 0).flatMap (dfs n r) = M) := by show _ = _; simp [extTo]
    have HP : Hid (∀ k, k < n → ((extTo h k).flatMap (dfs n r)).length + 6 ^ r ≤ 6 ^ (r + 1)) := fun k hk => dfs_part hn6 r h hk
    have HIH := hid ih
    have HS0 := hid hS
    have HL := hid hl
    have HB := hid hb
    clear ih hS hl hb
    go_enter Tryz.func51, Tryz.ntmps51
    go_wp2_with fail
    go_loopw [2, 7] (fun o c wr => ∃ (k : Nat) (u : Value) (vs : List Value), k ≤ n ∧ c = .int .i64 k ∧ o = u ∧ vs.length = (M ++ (extTo h k).flatMap (dfs n r)).length ∧ St w0 wr (⟨u, 24, vs⟩ :: rowsOn vs (M ++ (extTo h k).flatMap (dfs n r)) (⟨hv, 3, ints h⟩ :: env))) (fun _ c _ => n - (intOf c).toNat)
    case atStart => exact ⟨0, u, vs, by omega, rfl, rfl, by rw [HT0.out]; exact HL.out, by rw [HT0.out]; exact HS0.out⟩
    case round =>
      obtain ⟨k, u, vs, hk, rfl, ho, hvl, hS⟩ := hrel
      have ho' := ho.symm
      subst ho'
      have HS := hid hS
      have HVL := hid hvl
      by_cases hlt : k < n
      · have q1 : decide ((k : Int) < (n : Int)) = true := decide_eq_true (by omega)
        have HR := hid hS.dropRows.hd
        cases hb : hasB h (k : Int) with
        | true =>
          have E := hid (ext_t hb)
          have HHB := hid hb
          clear hS hvl hb
          go_wp2_with (go_at_call 71; refine (l2Has_c _ _ _ _ HR.out).mono ?_; rw [HHB.out]; rintro e w' ⟨rfl, rfl⟩)
          go_roundw
          case rel => exact ⟨k + 1, _, vs, by omega, by go_num, rfl, by rw [E.out]; exact HVL.out, by rw [E.out]; exact HS.out⟩
          case measure => simp [intOf]; omega
        | false =>
          have E : Hid ((extTo h (k + 1)).flatMap (dfs n r) = (extTo h k).flatMap (dfs n r) ++ dfs n r (h ++ [(k : Int)])) := by
            show _ = _
            rw [ext_f hb, List.flatMap_append]; simp
          have HHB := hid hb
          have HA := hid (hS.newAt #[] 3 (by simp) rfl)
          clear hS hvl hb
          go_wp2_with (first | (go_at_call 71; refine (l2Has_c _ _ _ _ HR.out).mono ?_; rw [HHB.out]; rintro e w' ⟨rfl, rfl⟩) | (at_builtin; refine wpList_app rfl _ _ rfl tI HA.out.own HA.out.tail.dropRows.hd (ints_ones _) (by simp; omega) rfl rfl ?_))
          intro v1 w1 hO1 hb1
          have HS1 := hid (HA.out.mut hO1 hb1)
          clear hO1 hb1
          go_wp2_with (at_builtin; refine wpList_push rfl _ _ rfl tI HS1.out.own (.int .i64 (k : Int)) rfl (by simp; omega) rfl rfl ?_)
          intro v2 w2 hO2 hb2
          have hS2 := HS1.out.mut hO2 hb2
          first | rw [ints_snoc] at hS2 | (rw [show (#[] : Array Value).toList = [] from rfl, List.nil_append, ints_snoc] at hS2)
          have HS2 := hid (hS2.perm rowsLift.symm)
          clear hS2 hO2 hb2
          go_wp2_with fail
          refine (HIH.out _ v2 vs (M ++ (extTo h k).flatMap (dfs n r)) (h ++ [(k : Int)]) w0 _ _ (by simp; omega) HVL.out (by have := HP.out k hlt; have := HB.out; rw [List.length_append]; omega) HS2.out).mono ?_
          rintro e w3 ⟨u', vs', rfl, hl3, hS3⟩
          rw [List.append_assoc, ← E.out] at hl3 hS3
          have HS4 := hid hS3
          have HL4 := hid hl3
          clear hS3 hl3
          go_wp2_with fail
          go_roundw
          case rel => exact ⟨k + 1, u', vs', by omega, by go_num, rfl, HL4.out, HS4.out⟩
          case measure => simp [intOf]; omega
      · have ek : Hid (k = n) := by show _ = _; omega
        have q1 : decide ((k : Int) < (n : Int)) = false := decide_eq_false (by omega)
        clear hS hvl
        go_wp2_with fail
        go_ret
        have h8 := HS.out
        have h9 := HVL.out
        rw [ek.out] at h8 h9
        have h7 : St w0 wr (⟨_, 24, vs⟩ :: rowsOn vs (M ++ dfs n (r + 1) h) env) := h8.sub (.cons_cons _ (List.Sublist.append_left (.cons _ (List.Sublist.refl _)) _))
        have h9' : vs.length = (M ++ dfs n (r + 1) h).length := h9
        have h9'' : vs.length = M.length + (dfs n (r + 1) h).length := by rw [h9', List.length_append]
        first | exact ⟨_, _, rfl, h9', h7⟩ | exact ⟨_, rfl, _, h9', h7⟩ | exact ⟨_, _, rfl, h9'', h7⟩ | exact ⟨_, rfl, _, h9'', h7⟩

set_option maxHeartbeats 400000 in
theorem index_c (va : Value) (xs : List Int) (n : Int) (w : World) (ha : Rd w va (ints xs)) : Calls Tryz.prog 92 #[va, .int .i64 n] w fun e w' => (∃ k : Int, e = .returned (.int .i64 k) ∧ decide (k ≥ 0) = hasB xs n) ∧ w = w' := by
  have la := ha.iln tI
  have ll := ha.ile
  go_enter Tryz.func92, Tryz.ntmps92
  go_wp2_with fail
  go_loop [8] (fun i => ∃ j : Nat, j ≤ xs.length ∧ i = .int .i64 j ∧ ¬ n ∈ xs.take j) (fun i => xs.length - (intOf i).toNat)
  case atStart => exact ⟨0, Nat.zero_le _, rfl, by simp⟩
  case round =>
    obtain ⟨j, hj, rfl, hn⟩ := hrel
    have HN := hid hn; clear hn
    by_cases hlt : j < xs.length
    · have f1 := ha.iix tI j hlt
      have f2 := ha.intCell j hlt
      by_cases he : gi xs j = n
      · have e1 : (n == gi xs j) = true := by simp [he]
        have e2 : hasB xs n = true := by
          have : n ∈ xs := by rw [← he]; exact gi_mem hlt
          simpa [hasB] using this
        have E := hid e2; clear e2 he
        go_wp2_with fail
        go_ret
        exact ⟨⟨_, rfl, by rw [E.out]; simp⟩, rfl⟩
      · have e1 : (n == gi xs j) = false := by simp [Ne.symm he]
        have e2 : ¬ n ∈ xs.take (j + 1) := by
          rw [take_succ_gi hlt, List.mem_append, List.mem_singleton]
          rintro (h | h)
          · exact HN.out h
          · exact he h.symm
        have E := hid e2; clear e2 he
        go_wp2_with fail
        go_round
        case rel => exact ⟨j + 1, by omega, by go_num, E.out⟩
        case measure => simp [intOf]; omega
    · have e2 : hasB xs n = false := by
        have := HN.out
        rw [List.take_of_length_le (by omega)] at this
        simpa [hasB] using this
      have E := hid e2; clear e2
      go_wp2_with fail
      go_ret
      exact ⟨⟨_, rfl, by rw [E.out]; simp⟩, rfl⟩
set_option maxHeartbeats 400000 in
theorem contains_c (va : Value) (xs : List Int) (n : Int) (w : World) (ha : Rd w va (ints xs)) : Calls Tryz.prog 75 #[va, .int .i64 n] w fun e w' => e = .returned (.bool (hasB xs n)) ∧ w = w' := by
  go_enter Tryz.func75, Tryz.ntmps75
  go_wp2_with fail
  refine (index_c _ _ _ _ ha).mono ?_
  rintro e w' ⟨⟨k, rfl, hk⟩, rfl⟩
  have HK := hid hk
  clear hk
  go_wp2_with fail
  go_ret
  exact ⟨ret_bool HK.out, rfl⟩

/-- The length of the first row. -/
def len0 (w : World) (v : Value) : Nat :=
  match w.cell? (adr v 0) with
  | some (.slice _ n _) => n
  | _ => 0
theorem len0_is {w : World} {v : Value} {vs : List Value} {M : List (List Int)} (h : RdM w v vs M) (hp : 0 < M.length) : len0 w v = (gr M 0).length := by
  unfold len0
  rw [h.cell 0 hp]
  rcases h.row 0 hp with ⟨e, h0⟩ | ⟨a, cap, e, _⟩
  · rw [e]
    have : (ints (gr M 0)).length = 0 := by rw [h0]; rfl
    simpa using this.symm
  · rw [e]; simp

set_option maxHeartbeats 4000000 in
set_option maxRecDepth 100000 in
theorem allNames_c (n : Nat) (hn6 : n ≤ 6) (w : World) : Calls Tryz.prog 48 #[.int .i64 (n : Int)] w fun e w' => ∃ v vs, e = .returned v ∧ vs.length = (lvl n n).length ∧ St w w' (⟨v, 24, vs⟩ :: rowsOn vs (lvl n n) []) := by
  have HP : Hid (∀ k, k ≤ n → 0 < (lvl n k).length ∧ (lvl n k).length ≤ 46656) := fun k hk => ⟨lvl_pos hn6 hk, Nat.le_trans (lvl_len hn6 k) (Nat.le_trans (Nat.pow_le_pow_right (by omega) (show k ≤ 6 by omega)) (by decide))⟩
  have H00 : Hid (lvl n 0 = [[]]) := rfl
  go_enter Tryz.func48, Tryz.ntmps48
  go_wp2_with fail
  go_loopw [3] (fun l wr => ∃ (k : Nat) (u : Value) (vs : List Value), k ≤ n ∧ l = u ∧ vs.length = (lvl n k).length ∧ St w wr (⟨u, 24, vs⟩ :: rowsOn vs (lvl n k) [])) (fun l wr => n - len0 wr l)
  case atStart =>
    refine ⟨0, _, [.slice none 0 0], by omega, rfl, by rw [H00.out]; rfl, ?_⟩
    rw [H00.out]
    exact ((St.start w).newAt #[.slice none 0 0] 24 (by simp [maxLen]) rfl).nilRows 1
  case round =>
    obtain ⟨k, u, vs, hk, ho, hvl, hS⟩ := hrel
    have ho' := ho.symm
    subst ho'
    obtain ⟨hp, hle⟩ := HP.out k hk
    have HS := hid hS
    have HVL := hid hvl
    have hM := hS.rdM hvl
    have L1 := hid (len0_is hM hp)
    have R0 := (lvl_rows (gr_mem hp)).1
    have f1 := hM.ix 0 hp
    have f2 := hM.cell 0 hp
    have f3 := (hM.row 0 hp).iln tI
    rw [R0] at f3
    obtain ⟨zp, zl, zc, hz⟩ := (hM.row 0 hp).form
    rw [hz] at f2 f3
    have LN := hM.ln
    have HR0 := hid R0
    rw [show ((0 : Nat) : Int) = 0 from rfl] at f1
    clear hS hvl hM R0 hz
    by_cases hlt : k < n
    · have q1 : decide ((k : Int) < (n : Int)) = true := decide_eq_true (by omega)
      have HN := hid (HS.out.nilRow 24)
      have HROW : Hid (∀ j, j < (lvl n k).length → (gr (lvl n k) j).length ≤ 6) := fun j hj => by rw [(lvl_rows (gr_mem hj)).1]; omega
      have EL : Hid (((lvl n k).take (lvl n k).length).flatMap (fun l => extTo l n) = lvl n (k + 1)) := by show _ = _; rw [List.take_length]; rfl
      have HFL : Hid (∀ j, (((lvl n k).take j).flatMap fun l => extTo l n).length ≤ 300000) := fun j => by
        have h1 := flatMap_len (f := fun l => extTo l n) (b := 6) (fun l => by have := extTo_len l n; omega) ((lvl n k).take j)
        have h2 : ((lvl n k).take j).length ≤ (lvl n k).length := by rw [List.length_take]; omega
        omega
      obtain ⟨K, hK⟩ : ∃ K, K = lvl n k := ⟨_, rfl⟩
      rw [← hK] at HS HVL LN HN HROW EL HFL hp hle
      have HKK := hid hK
      clear hK
      go_wp2_with fail
      go_loopw [4, 17] (fun o c wr => ∃ (j : Nat) (nu : Value) (nvs : List Value), j ≤ K.length ∧ c = .int .i64 j ∧ o = nu ∧ nvs.length = ((K.take j).flatMap fun l => extTo l n).length ∧ St w wr (⟨nu, 24, nvs⟩ :: rowsOn nvs ((K.take j).flatMap fun l => extTo l n) (⟨u, 24, vs⟩ :: rowsOn vs K []))) (fun _ c _ => K.length - (intOf c).toNat)
      case atStart => exact ⟨0, _, [], Nat.zero_le _, rfl, rfl, rfl, HN.out⟩
      case round =>
        obtain ⟨j, nu, nvs, hj, rfl, ho, hnl, hS⟩ := hrel
        have ho' := ho.symm
        subst ho'
        have HS2 := hid hS
        have HNL := hid hnl
        have hM := hS.dropRows.rdM HVL.out
        by_cases hjl : j < K.length
        · have f1 := hM.ix j hjl
          have f2 := hM.cell j hjl
          have hr6 := HROW.out j hjl
          obtain ⟨rp, rl, rc, hp'⟩ := (hM.row j hjl).form
          have HGV := hid hp'
          rw [hp'] at f2
          have EF := hid (flat_succ (n := n) hjl)
          have HF := HFL.out j
          have E0 : Hid (((K.take j).flatMap fun l => extTo l n) ++ extTo (gr K j) 0 = ((K.take j).flatMap fun l => extTo l n)) := by show _ = _; simp [extTo]
          clear hS hnl hM hp' LN
          go_wp2_with fail
          go_loopw [4, 7] (fun o c wr => ∃ (x : Nat) (nu : Value) (nvs : List Value), x ≤ n ∧ c = .int .i64 x ∧ o = nu ∧ nvs.length = (((K.take j).flatMap fun l => extTo l n) ++ extTo (gr K j) x).length ∧ St w wr (⟨nu, 24, nvs⟩ :: rowsOn nvs (((K.take j).flatMap fun l => extTo l n) ++ extTo (gr K j) x) (⟨u, 24, vs⟩ :: rowsOn vs K []))) (fun _ c _ => n - (intOf c).toNat)
          case atStart => exact ⟨0, _, nvs, Nat.zero_le _, rfl, rfl, by rw [E0.out]; exact HNL.out, by rw [E0.out]; exact HS2.out⟩
          case round =>
            obtain ⟨x, nu, nvs, hx, rfl, ho, hnl, hS⟩ := hrel
            have ho' := ho.symm
            subst ho'
            have HS3 := hid hS
            have HNL3 := hid hnl
            have hRR := (hS.dropRows.rdM HVL.out).row j hjl
            rw [HGV.out] at hRR
            have HR := hid hRR
            by_cases hxn : x < n
            · have q2 : decide ((x : Int) < (n : Int)) = true := decide_eq_true (by omega)
              cases hb : hasB (gr K j) (x : Int) with
              | true =>
                have E := hid (ext_t hb)
                have HHB := hid hb
                clear hS hnl hb hRR
                go_wp2_with (go_at_call 75; refine (contains_c _ _ _ _ HR.out).mono ?_; rw [HHB.out]; rintro e w' ⟨rfl, rfl⟩)
                go_roundw
                case rel => exact ⟨x + 1, _, nvs, by omega, by go_num, rfl, by rw [E.out]; exact HNL3.out, by rw [E.out]; exact HS3.out⟩
                case measure => simp [intOf]; omega
              | false =>
                have E := hid (ext_f hb)
                have HHB := hid hb
                have hex := extTo_len (gr K j) x
                have hnb : nvs.length ≤ 400000 := by rw [hnl, List.length_append]; omega
                clear hS hnl hb hRR
                go_wp2_with (go_at_call 75; refine (contains_c _ _ _ _ HR.out).mono ?_; rw [HHB.out]; rintro e w' ⟨rfl, rfl⟩)
                refine (cloneAny_c _ (gr K j) _ HR.out (by omega)).mono ?_
                rintro e w1 ⟨c, rfl, hS1⟩
                have HS4 := hid (HS3.out.call1 hS1)
                clear hS1
                go_wp2_with (at_builtin; refine wpList_push rfl _ _ rfl tI HS4.out.own (.int .i64 (x : Int)) rfl (by simp; omega) rfl rfl ?_)
                intro v2 w2 hO2 hb2
                have hS5 := HS4.out.mut hO2 hb2
                rw [ints_snoc] at hS5
                obtain ⟨tp, tl, tc, rfl⟩ := hS5.hd.form
                have HS5 := hid hS5.swap
                clear hS5 hO2 hb2
                go_wp2_with (at_builtin; refine wpList_push rfl _ _ rfl tSS HS5.out.own (.slice tp tl tc) rfl (by omega) rfl rfl ?_)
                intro v3 w3 hO3 hb3
                have hS6 := (HS5.out.mut hO3 hb3).snocRow HNL3.out
                rw [List.append_assoc, ← E.out] at hS6
                have HS6 := hid hS6
                have HL6 : Hid ((nvs ++ [Value.slice tp tl tc]).length = (((K.take j).flatMap fun l => extTo l n) ++ extTo (gr K j) (x + 1)).length) := by
                  show _ = _
                  rw [E.out, ← List.append_assoc, List.length_append, HNL3.out, List.length_append (bs := [_ ++ _])]; rfl
                clear hS6 hO3 hb3
                go_wp2_with fail
                go_roundw
                case rel => exact ⟨x + 1, _, _, by omega, by go_num, rfl, HL6.out, HS6.out⟩
                case measure => simp [intOf]; omega
            · have ex : Hid (x = n) := by show _ = _; omega
              have q2 : decide ((x : Int) < (n : Int)) = false := decide_eq_false (by omega)
              clear hS hnl hRR
              go_wp2_with fail
              go_roundw
              case rel => exact ⟨j + 1, _, nvs, by omega, by go_num, rfl, by have h := HNL3.out; rw [ex.out] at h; rw [EF.out]; exact h, by have h := HS3.out; rw [ex.out] at h; rw [EF.out]; exact h⟩
              case measure => simp [intOf]; omega
        · have ej : Hid (j = K.length) := by show _ = _; omega
          clear hS hnl hM
          go_wp2_with fail
          have h8 := HS2.out
          have h9 := HNL.out
          rw [ej.out, EL.out] at h8 h9
          have h7 : St w wr (⟨_, 24, nvs⟩ :: rowsOn nvs (lvl n (k + 1)) []) := h8.sub (.cons_cons _ (List.Sublist.append_left (List.nil_sublist _) _))
          have HS7 := hid h7
          have HL7 := hid h9
          have L2 := hid (len0_is (h7.rdM h9) (HP.out (k + 1) (by omega)).1)
          have L3 := hid ((lvl_rows (gr_mem (HP.out (k + 1) (by omega)).1)).1)
          clear h8 h9 h7
          go_roundw
          case rel => exact ⟨k + 1, _, nvs, by omega, rfl, HL7.out, HS7.out⟩
          case measure =>
            have l1 := L1.out; have l2 := L2.out; have l3 := L3.out; have l4 := HR0.out
            show n - len0 _ _ < n - len0 _ _
            rw [l2, l3, l1, l4]; omega
    · have ek : Hid (k = n) := by show _ = _; omega
      have q1 : decide ((k : Int) < (n : Int)) = false := decide_eq_false (by omega)
      go_wp2_with fail
      go_ret
      have h8 := HS.out
      have h9 := HVL.out
      rw [ek.out] at h8 h9
      first | exact ⟨_, _, rfl, h9, h8⟩ | exact ⟨_, rfl, _, h9, h8⟩

end Go.Proofs.YtjaofbdfhcgmeaaGreat
