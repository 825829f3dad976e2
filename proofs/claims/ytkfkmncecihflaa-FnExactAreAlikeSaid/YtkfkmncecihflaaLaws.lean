/-
  The laws' own helpers: copying, comparing, marking and asking slices of integers.
-/
import Derived.Test.YtkfkmncecihflaaLib
namespace Go.Proofs.Ytkfkmncecihflaa
open Go.RowKit


theorem take_eq_take_succ (xs ys : List Int) (k : Nat) (h : k < xs.length) (h' : k < ys.length) (hp : xs.take k = ys.take k) (he : gi xs k = gi ys k) : xs.take (k + 1) = ys.take (k + 1) := by
  rw [List.take_succ_eq_append_getElem h, List.take_succ_eq_append_getElem h', hp, ← gi_eq xs k h, ← gi_eq ys k h', he]

set_option maxHeartbeats 400000 in
theorem eqIntS_c (va vb : Value) (xs ys : List Int) (w : World) (ha : Rd w va (ints xs)) (hb : Rd w vb (ints ys)) :
    Calls Try.prog 34 #[va, vb] w fun e w' => e = .returned (.bool (decide (xs = ys))) ∧ ∃ n, w' = w.drewN n := by
  have la := ha.iln tI
  have lb := hb.iln tI
  have ba := ha.ile
  by_cases hlen : xs.length = ys.length
  · have hl1 : ((xs.length : Int) != (ys.length : Int)) = false := by simp [hlen]
    have HL := hid hlen
    clear hlen
    go_enter Try.func34, Try.ntmps34
    go_wp2_with fail
    go_loopw [5] (fun i wr => ∃ k n : Nat, k ≤ xs.length ∧ i = .int .i64 k ∧ wr = w.drewN n ∧ xs.take k = ys.take k) (fun i _ => xs.length - (intOf i).toNat)
    case atStart => exact ⟨0, 0, Nat.zero_le _, rfl, rfl, by simp⟩
    case round =>
      obtain ⟨k, n, hk, rfl, rfl, hpre⟩ := hrel
      have HP := hid hpre
      clear hpre
      by_cases hlt : k < xs.length
      · have h1 := ha.iix tI k hlt
        have h2 := ha.intCell k hlt
        have hlt' : k < ys.length := by have := HL.out; omega
        have h3 := hb.iix tI k hlt'
        have h4 := hb.intCell k hlt'
        go_wp2_with fail
        go_quiet (fail)
        by_cases hne : gi xs k = gi ys k
        · have hn : (gi xs k != gi ys k) = false := by simp [hne]
          have HN := hid hne
          clear hne
          go_wp2_with fail
          go_roundw
          case rel => exact ⟨k + 1, n + nq, by omega, by go_num, rfl, take_eq_take_succ xs ys k hlt hlt' HP.out HN.out⟩
          case measure => simp [intOf]; omega
        · have hn : (gi xs k != gi ys k) = true := by simp [hne]
          have hd : decide (xs = ys) = false := by simp; rintro rfl; exact hne rfl
          have HD := hid hd
          clear hd hne
          go_wp2_with fail
          go_ret
          exact ⟨by rw [HD.out]; rfl, n + nq, by simp⟩
      · have hd : decide (xs = ys) = true := by
          have e1 : xs.take k = xs := List.take_of_length_le (by omega)
          have e2 : ys.take k = ys := List.take_of_length_le (by have := HL.out; omega)
          have := HP.out
          rw [e1, e2] at this
          simpa using this
        have HD := hid hd
        clear hd
        go_wp2_with fail
        go_ret
        exact ⟨by rw [HD.out]; rfl, n, rfl⟩
  · have hl1 : ((xs.length : Int) != (ys.length : Int)) = true := by simp; omega
    have hd : decide (xs = ys) = false := by simp; intro h; exact hlen (by rw [h])
    have HD := hid hd
    clear hlen hd
    go_enter Try.func34, Try.ntmps34
    go_wp2_with fail
    go_ret
    exact ⟨by rw [HD.out]; rfl, 0, rfl⟩

theorem copy_step (xs : List Int) (k : Nat) (h : k < xs.length) :
    (ints (xs.take k ++ List.replicate (xs.length - k) 0)).set k (.int .i64 (gi xs k)) = ints (xs.take (k + 1) ++ List.replicate (xs.length - (k + 1)) 0) := by
  rw [ints_set]
  congr 1
  rw [List.set_append_right _ _ (by simp; omega)]
  have e : xs.length - k = (xs.length - (k + 1)) + 1 := by omega
  rw [e, List.replicate_succ, List.length_take, Nat.min_eq_left (by omega), Nat.sub_self, List.set_cons_zero, List.take_succ_eq_append_getElem h, gi_eq xs k h, List.append_assoc]
  rfl

set_option maxHeartbeats 400000 in
theorem toIntS_c (va : Value) (xs : List Int) (w : World) (ha : Rd w va (ints xs)) (hlen : xs.length ≤ 1099511627776) :
    Calls Try.prog 31 #[va] w fun e w' => ∃ v, e = .returned v ∧ St w w' [⟨v, 3, ints xs⟩] := by
  have la := ha.iln tI
  go_enter Try.func31, Try.ntmps31
  go_wp2_with (at_make; refine wpList_mk rfl _ _ rfl tI (Owns.start w) xs.length hlen rfl rfl ?_)
  intro v w1 hO hb
  have e0 : List.replicate xs.length (Value.int .i64 0) = ints (xs.take 0 ++ List.replicate (xs.length - 0) 0) := by simp [ints]
  rw [e0] at hO
  clear e0
  go_wp2_with fail
  go_loopw [4] (fun i wr => ∃ k : Nat, k ≤ xs.length ∧ i = .int .i64 k ∧ Owns w.heap.size wr [⟨v, 3, ints (xs.take k ++ List.replicate (xs.length - k) 0)⟩] ∧ Below w.heap.size w wr) (fun i _ => xs.length - (intOf i).toNat)
  case atStart => exact ⟨0, Nat.zero_le _, rfl, hO, hb⟩
  case round =>
    obtain ⟨k, hk, rfl, hO, hb⟩ := hrel
    by_cases hlt : k < xs.length
    · have h1 := ha.iix tI k hlt
      have h2 := (ha.below hb).intCell k hlt
      have hL : k < (xs.take k ++ List.replicate (xs.length - k) 0).length := by simp; omega
      have h3 := hO.hd.iix tI k hL
      have h4 := hO.hd.intCell k hL
      have h5 := hO.free (List.mem_cons_self ..) k (by simpa using hL)
      have hO' := hO.set k (by simpa using hL) (.int .i64 (gi xs k))
      rw [copy_step xs k hlt] at hO'
      have hb' := hb.setCell (hO.adrBase k (by simpa using hL)) (.int .i64 (gi xs k))
      go_wp2_with fail
      go_roundw
      case rel => exact ⟨k + 1, by omega, by go_num, hO', hb'⟩
      case measure => simp [intOf]; omega
    · go_wp2_with fail
      go_ret
      have e1 : xs.take k ++ List.replicate (xs.length - k) 0 = xs := by
        rw [List.take_of_length_le (by omega), show xs.length - k = 0 by omega]; simp
      rw [e1] at hO
      exact ⟨_, rfl, hO, hb⟩

def marks (k : Int) (n : Nat) : List Int := (List.range n).map fun j : Nat => k + (j : Int)
theorem length_marks (k : Int) (n : Nat) : (marks k n).length = n := by simp [marks]
attribute [simp] length_marks
theorem gi_marks (k : Int) (n j : Nat) (h : j < n) : gi (marks k n) j = k + j := by simp [gi, marks, List.getD, h]
theorem mark_step (L : List Value) (k : Int) (j : Nat) (h : j < L.length) :
    (ints (marks k j) ++ L.drop j).set j (.int .i64 (k + j)) = ints (marks k (j + 1)) ++ L.drop (j + 1) := by
  rw [List.set_append_right _ _ (by simp)]
  have e : L.drop j = L[j] :: L.drop (j + 1) := List.drop_eq_getElem_cons h
  rw [e, length_ints, length_marks, Nat.sub_self, List.set_cons_zero]
  simp [ints, marks, List.range_succ, -List.getElem_cons_drop]

set_option maxHeartbeats 400000 in
theorem markIntS_c (va : Value) (L : List Value) (k : Int) (B : Nat) (env : List Ent) (w : World) (hO : Owns B w (⟨va, 3, L⟩ :: env)) (hL : ∀ j, j < L.length → ∃ n, L[j]? = some (.int .i64 n)) (h0 : 0 ≤ k) (hk : k + L.length ≤ 1099511627776) :
    Calls Try.prog 36 #[va, .int .i64 k] w fun e w' => e = .returned (.int .i64 (k + L.length)) ∧ Owns B w' (⟨va, 3, ints (marks k L.length)⟩ :: env) ∧ Below B w w' := by
  have la := hO.hd.ln tI
  have HL := hid hL
  clear hL
  go_enter Try.func36, Try.ntmps36
  go_wp2_with fail
  go_loopw [1, 5] (fun c i wr => ∃ j : Nat, j ≤ L.length ∧ i = .int .i64 j ∧ c = .int .i64 (k + j) ∧ Owns B wr (⟨va, 3, ints (marks k j) ++ L.drop j⟩ :: env) ∧ Below B w wr) (fun _ i _ => L.length - (intOf i).toNat)
  case atStart => exact ⟨0, Nat.zero_le _, rfl, by simp, by simpa [ints, marks] using hO, Below.refl _ _⟩
  case round =>
    obtain ⟨j, hj, rfl, rfl, hO, hb⟩ := hrel
    by_cases hlt : j < L.length
    · have hl : j < (ints (marks k j) ++ L.drop j).length := by simp; omega
      have h3 := hO.hd.ix tI j hl
      obtain ⟨n0, hn0⟩ := HL.out j hlt
      have h4 : wr.cell? (adr va j) = some (.int .i64 n0) := by
        rw [hO.hd.cell j hl, List.getElem?_append_right (by simp)]
        simpa using hn0
      have h5 := hO.free (List.mem_cons_self ..) j hl
      have hO' := hO.set j hl (.int .i64 (k + j))
      rw [mark_step L k j hlt] at hO'
      have hb' := hb.setCell (hO.adrBase j hl) (.int .i64 (k + j))
      clear hn0
      go_wp2_with fail
      go_roundw
      case rel => exact ⟨j + 1, by omega, by go_num, by go_num, hO', hb'⟩
      case measure => simp [intOf]; omega
    · have e : j = L.length := by omega
      subst e
      go_wp2_with fail
      go_ret
      exact ⟨rfl, by simpa using hO, hb⟩

set_option maxHeartbeats 400000 in
theorem heldIntS_c (va : Value) (k : Int) (n : Nat) (w : World) (ha : Rd w va (ints (marks k n))) (h0 : 0 ≤ k) (hk : k + n ≤ 1099511627776) :
    Calls Try.prog 42 #[va, .int .i64 k] w fun e w' => e = .returned (.int .i64 (k + n)) ∧ ∃ m, w' = w.drewN m := by
  have la := ha.iln tI
  simp only [length_marks] at la
  go_enter Try.func42, Try.ntmps42
  go_wp2_with fail
  go_loopw [1, 5] (fun c i wr => ∃ j m : Nat, j ≤ n ∧ i = .int .i64 j ∧ c = .int .i64 (k + j) ∧ wr = w.drewN m) (fun _ i _ => n - (intOf i).toNat)
  case atStart => exact ⟨0, 0, Nat.zero_le _, rfl, by simp, rfl⟩
  case round =>
    obtain ⟨j, m, hj, rfl, rfl, rfl⟩ := hrel
    by_cases hlt : j < n
    · have h3 := ha.iix tI j (by simpa using hlt)
      have h4 := ha.intCell j (by simpa using hlt)
      rw [gi_marks k n j hlt] at h4
      go_wp2_with fail
      go_roundw
      case rel => exact ⟨j + 1, _, by omega, by go_num, by go_num, rfl⟩
      case measure => simp [intOf]; omega
    · have e : j = n := by omega
      subst e
      go_wp2_with fail
      go_ret
      exact ⟨rfl, m, rfl⟩

theorem ints_cells (xs : List Int) : ∀ j, j < (ints xs).length → ∃ n, (ints xs)[j]? = some (.int .i64 n) :=
  fun j hj => ⟨_, ints_get xs j (by simpa using hj)⟩

end Go.Proofs.Ytkfkmncecihflaa
