/- A3: texts T1 T2 T3 T4 T5 T6 T7 T8 T9 T10 T11 T12, joined. -/
import Derived.Test.YtenngchidlfaeaaA1
import Derived.Test.YtenngchidlfaeaaA2
import Derived.Test.YtenngchidlfaeaaRows
import Derived.WalkKit
import Derived.BigQuiet
import Derived.WalkLawsBesides
import Derived.WalkSpells
import Derived.Lib.Hide
import Derived.Deep.RegionHeld3
namespace Go.Proofs.Ytenngchidlfaeaa
open Go.RowKit

theorem within93 (n m : Int) (w : World) : Calls Try.prog 93 #[.int .i64 n, .int .i64 m] w fun e w' => e = .returned (.bool (decide (0 ≤ n ∧ n < m))) ∧ w = w' := by
  by_cases h1 : 0 ≤ n
  · by_cases h2 : n < m
    · go_enter Try.func93, Try.ntmps93
      go_wp2
      go_ret
      exact ⟨by simp [h1, h2], rfl⟩
    · go_enter Try.func93, Try.ntmps93
      go_wp2
      go_ret
      exact ⟨by simp; omega, rfl⟩
  · go_enter Try.func93, Try.ntmps93
    go_wp2
    go_ret
    exact ⟨by simp; omega, rfl⟩

theorem within_t (n m : Int) (w : World) (h1 : 0 ≤ n) (h2 : n < m) : Calls Try.prog 93 #[.int .i64 n, .int .i64 m] w fun e w' => e = .returned (.bool true) ∧ w = w' :=
  (within93 n m w).mono fun _ _ ⟨he, hw⟩ => ⟨by rw [he, decide_eq_true ⟨h1, h2⟩], hw⟩
theorem within_f (n m : Int) (w : World) (h : n < 0 ∨ m ≤ n) : Calls Try.prog 93 #[.int .i64 n, .int .i64 m] w fun e w' => e = .returned (.bool false) ∧ w = w' :=
  (within93 n m w).mono fun _ _ ⟨he, hw⟩ => ⟨by rw [he, decide_eq_false (by omega)], hw⟩

theorem times_rel {x y z r x' y' z' : Nat} (hx : x < 256) (hy : y < 256) (hz : z < 256) (h : z ^^^ Rad.gm x y = r)
    (e1 : x' = Rad.tstep x) (e2 : y' = y / 2) (e3 : z' = if y % 2 = 1 then z ^^^ x else z) : x' < 256 ∧ y' < 256 ∧ z' < 256 ∧ z' ^^^ Rad.gm x' y' = r := by
  subst e1; subst e2; subst e3
  refine ⟨Rad.tstep_lt hx, by omega, ?_, ?_⟩
  · split
    · exact Rad.xor_lt hz hx
    · exact hz
  · rw [← h, Rad.gm_step hy]
    split
    · rw [Nat.xor_assoc]
    · rw [Nat.zero_xor]

set_option maxRecDepth 100000 in
theorem times95 (a b : Nat) (w : World) (ha : a < 256) (hb : b < 256) : Calls Try.prog 95 #[.int .i64 a, .int .i64 b] w fun e w' => e = .returned (.int .i64 (Rad.gm a b)) ∧ w = w' := by
  go_enter Try.func95, Try.ntmps95
  go_wp2
  go_loop [0, 1, 4] (fun u v c => ∃ x y z : Nat, x < 256 ∧ y < 256 ∧ z < 256 ∧ u = .int .i64 x ∧ v = .int .i64 y ∧ c = .int .i64 z ∧ Hid (z ^^^ Rad.gm x y = Rad.gm a b)) (fun _ v _ => (intOf v).toNat)
  case atStart => exact ⟨a, b, 0, ha, hb, by omega, rfl, rfl, rfl, Lib.hid (by rw [Nat.zero_xor])⟩
  case round =>
    obtain ⟨x, y, z, hx, hy, hz, rfl, rfl, rfl, H⟩ := hrel
    have hB := band1 y (by omega)
    have hX : bits .xor .i64 ((x : Int) * 2) 285 = ((x * 2 ^^^ 285 : Nat) : Int) := bxor (x * 2) 285 (by omega) (by omega)
    have hZ := bxor z x (by omega) (by omega)
    by_cases h1 : y % 2 = 1
    · have hB' : (bits .and .i64 (y : Int) 1 == 1) = true := by rw [hB, h1]; rfl
      clear hB
      have R := times_rel (x' := Rad.tstep x) (y' := y / 2) (z' := z ^^^ x) hx hy hz H.out rfl rfl (by rw [if_pos h1])
      have HR := Lib.hid R
      clear R
      have HX := Lib.hid hX
      have HZ := Lib.hid hZ
      clear hX hZ h1
      go_wp2
      · go_round
        case rel =>
          obtain ⟨r1, r2, r3, r4⟩ := HR.out
          exact ⟨_, _, _, r1, r2, r3, valInt (by rw [HX.out, tstep_ge ‹_›]), valInt (by omega), valInt HZ.out, r4⟩
        case measure => simp [intOf]; omega
      · go_round
        case rel =>
          obtain ⟨r1, r2, r3, r4⟩ := HR.out
          exact ⟨_, _, _, r1, r2, r3, valInt (by rw [tstep_lo ‹_›]; omega), valInt (by omega), valInt HZ.out, r4⟩
        case measure => simp [intOf]; omega
      · go_ret
        have hy0 : y = 0 := by omega
        subst hy0
        have h := H.out
        rw [Rad.gm_zero_right, Nat.xor_zero] at h
        exact ⟨retInt (by omega), rfl⟩
    · have hB' : (bits .and .i64 (y : Int) 1 == 1) = false := by
        rw [hB, show y % 2 = 0 from by omega]; rfl
      clear hB
      have R := times_rel (x' := Rad.tstep x) (y' := y / 2) (z' := z) hx hy hz H.out rfl rfl (by rw [if_neg h1])
      have HR := Lib.hid R
      clear R
      have HX := Lib.hid hX
      clear hX hZ h1
      go_wp2
      · go_round
        case rel =>
          obtain ⟨r1, r2, r3, r4⟩ := HR.out
          exact ⟨_, _, _, r1, r2, r3, valInt (by rw [HX.out, tstep_ge ‹_›]), valInt (by omega), rfl, r4⟩
        case measure => simp [intOf]; omega
      · go_round
        case rel =>
          obtain ⟨r1, r2, r3, r4⟩ := HR.out
          exact ⟨_, _, _, r1, r2, r3, valInt (by rw [tstep_lo ‹_›]; omega), valInt (by omega), rfl, r4⟩
        case measure => simp [intOf]; omega
      · go_ret
        have hy0 : y = 0 := by omega
        subst hy0
        have h := H.out
        rw [Rad.gm_zero_right, Nat.xor_zero] at h
        exact ⟨retInt (by omega), rfl⟩
end Go.Proofs.Ytenngchidlfaeaa
namespace Go.Proofs.Ytenngchidlfaeaa
open Go.RowKit

set_option maxRecDepth 100000 in
theorem power149 (a n : Nat) (w : World) (ha : a < 256) (hn : n < 1000) : Calls Try.prog 149 #[.int .i64 a, .int .i64 n] w fun e w' => e = .returned (.int .i64 (Rad.gpow a n)) ∧ w = w' := by
  go_enter Try.func149, Try.ntmps149
  go_wp2
  go_loop [5, 7] (fun u v => ∃ x k : Nat, x < 256 ∧ k ≤ n ∧ u = .int .i64 x ∧ v = .int .i64 k ∧ Hid (x = Rad.gpow a k)) (fun _ v => n - (intOf v).toNat)
  case atStart => exact ⟨1, 0, by omega, by omega, rfl, rfl, Lib.hid rfl⟩
  case round =>
    obtain ⟨x, k, hx, hk, rfl, rfl, H⟩ := hrel
    by_cases hlt : k < n
    · have hl := Rad.gm_lt hx a
      go_wp2_with (go_at_call 95; refine (times95 _ _ _ (by omega) (by omega)).mono ?_; rintro e w' ⟨rfl, rfl⟩)
      go_round
      case rel => exact ⟨_, k + 1, hl, by omega, rfl, by go_num, Lib.hid (by rw [H.out]; rfl)⟩
      case measure => simp [intOf]; omega
    · go_wp2
      go_ret
      have : k = n := by omega
      subst this
      exact ⟨retInt (by rw [H.out]), rfl⟩

set_option maxRecDepth 100000 in
theorem inverse96 (a : Nat) (w : World) (ha : a < 256) : Calls Try.prog 96 #[.int .i64 a] w fun e w' => e = .returned (.int .i64 (Rad.ginv a)) ∧ w = w' := by
  go_enter Try.func96, Try.ntmps96
  go_wp2_with (go_at_call 149; refine (power149 a 254 _ (by omega) (by omega)).mono ?_; rintro e w' ⟨rfl, rfl⟩)
  go_ret
  exact ⟨rfl, rfl⟩

set_option maxRecDepth 100000 in
theorem Times25_ok (a b : Nat) (w : World) (ha : a < 256) (hb : b < 256) : Calls Try.prog 25 #[.int .i64 a, .int .i64 b] w fun e w' => e = .returned (.tuple #[.int .i64 (Rad.gm a b), .int .i64 0]) ∧ w = w' := by
  go_enter Try.func25, Try.ntmps25
  go_wp2_with (first | (go_at_call 93; refine (within_t _ _ _ (by omega) (by omega)).mono ?_; rintro e w' ⟨rfl, rfl⟩) | (go_at_call 95; refine (times95 _ _ _ (by omega) (by omega)).mono ?_; rintro e w' ⟨rfl, rfl⟩))
  go_ret2
  exact ⟨rfl, rfl⟩
set_option maxRecDepth 100000 in
theorem Times25_no (a b : Int) (w : World) (h : ¬ (0 ≤ a ∧ a < 256) ∨ ¬ (0 ≤ b ∧ b < 256)) : Calls Try.prog 25 #[.int .i64 a, .int .i64 b] w fun e w' => e = .returned (.tuple #[.int .i64 0, .int .i64 1]) ∧ w = w' := by
  by_cases h1 : 0 ≤ a ∧ a < 256
  · have k1 : 0 ≤ a := h1.1
    have k2 : a < 256 := h1.2
    have k3 : b < 0 ∨ 256 ≤ b := by omega
    clear h h1
    go_enter Try.func25, Try.ntmps25
    go_wp2_with (first | (go_at_call 93; refine (within_t _ _ _ (by omega) (by omega)).mono ?_; rintro e w' ⟨rfl, rfl⟩) | (go_at_call 93; refine (within_f _ _ _ (by omega)).mono ?_; rintro e w' ⟨rfl, rfl⟩))
    go_ret2
    exact ⟨rfl, rfl⟩
  · have k3 : a < 0 ∨ 256 ≤ a := by omega
    clear h h1
    go_enter Try.func25, Try.ntmps25
    go_wp2_with (first | (go_at_call 93; refine (within_f _ _ _ (by omega)).mono ?_; rintro e w' ⟨rfl, rfl⟩))
    go_ret2
    exact ⟨rfl, rfl⟩
set_option maxRecDepth 100000 in
theorem Inverse26_ok (a : Nat) (w : World) (ha : a < 256) (h0 : 0 < a) : Calls Try.prog 26 #[.int .i64 a] w fun e w' => e = .returned (.tuple #[.int .i64 (Rad.ginv a), .int .i64 0]) ∧ w = w' := by
  go_enter Try.func26, Try.ntmps26
  go_wp2_with (first | (go_at_call 93; refine (within_t _ _ _ (by omega) (by omega)).mono ?_; rintro e w' ⟨rfl, rfl⟩) | (go_at_call 96; refine (inverse96 _ _ (by omega)).mono ?_; rintro e w' ⟨rfl, rfl⟩))
  go_ret2
  exact ⟨rfl, rfl⟩
set_option maxRecDepth 100000 in
theorem Inverse26_no (a : Int) (w : World) (h : a ≤ 0 ∨ 256 ≤ a) : Calls Try.prog 26 #[.int .i64 a] w fun e w' => e = .returned (.tuple #[.int .i64 0, .int .i64 1]) ∧ w = w' := by
  by_cases h1 : a = 0
  · subst h1
    clear h
    go_enter Try.func26, Try.ntmps26
    go_wp2_with (first | (go_at_call 93; refine (within_f _ _ _ (by omega)).mono ?_; rintro e w' ⟨rfl, rfl⟩))
    go_ret2
    exact ⟨rfl, rfl⟩
  · have k3 : a < 0 ∨ 256 ≤ a := by omega
    have d0 : (a == 0) = false := by simpa using h1
    clear h h1
    go_enter Try.func26, Try.ntmps26
    go_wp2_with (first | (go_at_call 93; refine (within_f _ _ _ (by omega)).mono ?_; rintro e w' ⟨rfl, rfl⟩))
    go_ret2
    exact ⟨rfl, rfl⟩
end Go.Proofs.Ytenngchidlfaeaa
/- The reference's functions on the field, walked. -/
namespace Go.Proofs.Ytenngchidlfaeaa
open Go.RowKit

theorem rwithin_t (n a b : Int) (w : World) (h1 : a ≤ n) (h2 : n ≤ b) : Calls Try.prog 94 #[.int .i64 n, .int .i64 a, .int .i64 b] w fun e w' => e = .returned (.bool true) ∧ w = w' := by
  go_enter Try.func94, Try.ntmps94
  go_wp2
  go_ret
  exact ⟨by simp, rfl⟩
theorem rwithin_f (n a b : Int) (w : World) (h : n < a ∨ b < n) : Calls Try.prog 94 #[.int .i64 n, .int .i64 a, .int .i64 b] w fun e w' => e = .returned (.bool false) ∧ w = w' := by
  by_cases h1 : a ≤ n
  · have h2 : b < n := by omega
    clear h
    go_enter Try.func94, Try.ntmps94
    go_wp2
    go_ret
    exact ⟨by simp; omega, rfl⟩
  · clear h
    go_enter Try.func94, Try.ntmps94
    go_wp2
    go_ret
    exact ⟨by simp, rfl⟩
theorem element_t (n : Int) (w : World) (h1 : 0 ≤ n) (h2 : n < 256) : Calls Try.prog 97 #[.int .i64 n] w fun e w' => e = .returned (.bool true) ∧ w = w' := by
  go_enter Try.func97, Try.ntmps97
  go_wp2
  go_ret
  exact ⟨by simp; omega, rfl⟩
theorem element_f (n : Int) (w : World) (h : n < 0 ∨ 256 ≤ n) : Calls Try.prog 97 #[.int .i64 n] w fun e w' => e = .returned (.bool false) ∧ w = w' := by
  by_cases h1 : 0 ≤ n
  · have h2 : 256 ≤ n := by omega
    clear h
    go_enter Try.func97, Try.ntmps97
    go_wp2
    go_ret
    exact ⟨by simp; omega, rfl⟩
  · clear h
    go_enter Try.func97, Try.ntmps97
    go_wp2
    go_ret
    exact ⟨by simp, rfl⟩

set_option maxRecDepth 100000 in
theorem rtimes98 (a b : Nat) (w : World) (ha : a < 256) (hb : b < 256) : Calls Try.prog 98 #[.int .i64 a, .int .i64 b] w fun e w' => e = .returned (.int .i64 (Rad.gm a b)) ∧ w = w' := by
  go_enter Try.func98, Try.ntmps98
  go_wp2
  go_loop [5, 6] (fun u v => ∃ n k : Nat, n < 32768 ∧ k ≤ 8 ∧ u = .int .i64 n ∧ v = .int .i64 k ∧ Hid (n = Rad.clmul a b k)) (fun _ v => 8 - (intOf v).toNat)
  case atStart => exact ⟨0, 0, by omega, by omega, rfl, rfl, Lib.hid rfl⟩
  case round =>
    obtain ⟨n, k, hn, hk, rfl, rfl, H⟩ := hrel
    by_cases hlt : k < 8
    · have hb0 := band_bit b k (by omega)
      have hsm : a * 2 ^ k < 32768 := by
        have : 2 ^ k ≤ 2 ^ 7 := Nat.pow_le_pow_right (by omega) (by omega)
        have := Nat.mul_le_mul (show a ≤ 255 by omega) this
        omega
      have HS := Lib.hid (shl_cast a k (by omega))
      have hl : a <<< k < 32768 := by rw [Nat.shiftLeft_eq]; exact hsm
      have HX := Lib.hid (bxor n (a <<< k) (by omega) (by omega))
      have HN := Lib.hid (Rad.clmul_lt ha b (k + 1) (by omega))
      clear hsm hl
      cases hbit : b.testBit k with
      | true =>
        have hb' : (bits .and .i64 ((b : Int) / 2 ^ k) 1 == 1) = true := hb0.trans hbit
        have HB := Lib.hid hbit
        clear hb0 hbit
        go_wp2
        go_round
        case rel =>
          refine ⟨_, k + 1, HN.out, by omega, valInt ?_, by go_num, Lib.hid rfl⟩
          rw [HS.out, HX.out, H.out]
          show _ = ((Rad.clmul a b k ^^^ Rad.sel b k (a <<< k) : Nat) : Int)
          rw [Rad.sel, if_pos HB.out]
        case measure => simp [intOf]; omega
      | false =>
        have hb' : (bits .and .i64 ((b : Int) / 2 ^ k) 1 == 1) = false := hb0.trans hbit
        have HB := Lib.hid hbit
        clear hb0 hbit
        go_wp2
        go_round
        case rel =>
          refine ⟨_, k + 1, HN.out, by omega, valInt ?_, by go_num, Lib.hid rfl⟩
          rw [H.out]
          show _ = ((Rad.clmul a b k ^^^ Rad.sel b k (a <<< k) : Nat) : Int)
          rw [Rad.sel, if_neg (by rw [HB.out]; simp), Nat.xor_zero]
        case measure => simp [intOf]; omega
    · obtain ⟨m, hm⟩ : ∃ m, m = k := ⟨_, rfl⟩
      have HM : Hid (Rad.redFrom 7 n = Rad.gm a b) := Lib.hid (by rw [H.out, show k = 8 from by omega, Rad.red_clmul ha])
      clear hm m
      go_wp2
      go_loop [5, 7] (fun u v => ∃ n k : Nat, n < 32768 ∧ k ≤ 7 ∧ u = .int .i64 n ∧ v = .int .i64 (7 + k) ∧ Hid (Rad.redFrom k n = Rad.gm a b)) (fun _ v => (intOf v).toNat)
      case atStart => exact ⟨n, 7, hn, by omega, rfl, rfl, HM⟩
      case round =>
        clear HM H
        obtain ⟨n, k, hn, hk, rfl, rfl, H⟩ := hrel
        cases k with
        | zero =>
          go_wp2
          go_ret
          exact ⟨retInt (congrArg Nat.cast H.out), rfl⟩
        | succ k =>
          have hb0 := band_bit n (8 + k) (by omega)
          have e1 : ((7 : Int) + ((k + 1 : Nat) : Int)) = 8 + (k : Int) := by omega
          have E2 : Hid (7 + (k + 1) = 8 + k) := Lib.hid (by omega)
          have hsm : 285 * 2 ^ k < 32768 := by
            have : 2 ^ k ≤ 2 ^ 6 := Nat.pow_le_pow_right (by omega) (by omega)
            omega
          have HS := Lib.hid (shl_cast 285 k (by omega))
          have hl : 285 <<< k < 32768 := by rw [Nat.shiftLeft_eq]; exact hsm
          have HX := Lib.hid (bxor n (285 <<< k) (by omega) (by omega))
          have HN : Hid (n ^^^ 285 <<< k < 32768) := Lib.hid (Nat.xor_lt_two_pow (n := 15) hn hl)
          clear hsm hl
          rw [e1]
          clear e1
          have hk8 : (8 : Int) ≤ 8 + (k : Int) := by omega
          cases hbit : n.testBit (8 + k) with
          | true =>
            have hb' : (bits .and .i64 ((n : Int) / 2 ^ (8 + k)) 1 == 1) = true := hb0.trans hbit
            have HB := Lib.hid hbit
            clear hb0 hbit
            go_wp2
            go_round
            case rel =>
              refine ⟨n ^^^ 285 <<< k, k, HN.out, by omega, valInt ?_, valInt (by omega), Lib.hid ?_⟩
              · rw [← HX.out, ← HS.out]; rfl
              · rw [← H.out]
                show _ = Rad.redFrom k (Rad.rstep (8 + k) n)
                rw [Rad.rstep, if_pos HB.out, show 8 + k - 8 = k from by omega]
            case measure => simp [intOf]; omega
          | false =>
            have hb' : (bits .and .i64 ((n : Int) / 2 ^ (8 + k)) 1 == 1) = false := hb0.trans hbit
            have HB := Lib.hid hbit
            clear hb0 hbit
            go_wp2
            go_round
            case rel =>
              refine ⟨n, k, hn, by omega, rfl, valInt (by omega), Lib.hid ?_⟩
              rw [← H.out]
              show _ = Rad.redFrom k (Rad.rstep (8 + k) n)
              rw [Rad.rstep, if_neg (by rw [HB.out]; simp)]
            case measure => simp [intOf]; omega

set_option maxRecDepth 100000 in
theorem rpower151 (n : Nat) (w : World) (hn : n < 1000) : Calls Try.prog 151 #[.int .i64 n] w fun e w' => e = .returned (.int .i64 (Rad.gpow 2 n)) ∧ w = w' := by
  go_enter Try.func151, Try.ntmps151
  go_wp2
  go_loop [3, 4] (fun u v => ∃ x k : Nat, x < 256 ∧ k ≤ n ∧ u = .int .i64 x ∧ v = .int .i64 k ∧ Hid (x = Rad.gpow 2 k)) (fun _ v => n - (intOf v).toNat)
  case atStart => exact ⟨1, 0, by omega, by omega, rfl, rfl, Lib.hid rfl⟩
  case round =>
    obtain ⟨x, k, hx, hk, rfl, rfl, H⟩ := hrel
    by_cases hlt : k < n
    · have hl := Rad.gm_lt hx 2
      go_wp2_with (go_at_call 98; refine (rtimes98 x 2 _ (by omega) (by omega)).mono ?_; rintro e w' ⟨rfl, rfl⟩)
      go_round
      case rel => exact ⟨_, k + 1, hl, by omega, rfl, by go_num, Lib.hid (by rw [H.out]; rfl)⟩
      case measure => simp [intOf]; omega
    · go_wp2
      go_ret
      have : k = n := by omega
      subst this
      exact ⟨retInt (by rw [H.out]), rfl⟩

set_option maxRecDepth 100000 in
theorem rinverse99 (a : Nat) (w : World) (ha : a < 256) (h0 : 0 < a) : Calls Try.prog 99 #[.int .i64 a] w fun e w' => e = .returned (.int .i64 (Rad.ginv a)) ∧ w = w' := by
  have hl := Rad.ginv_lt ha
  have hp : 0 < Rad.ginv a := Nat.pos_of_ne_zero (Rad.ginv_ne_zero ha (by omega))
  go_enter Try.func99, Try.ntmps99
  go_wp2
  go_loop [3] (fun v => ∃ k : Nat, 1 ≤ k ∧ k ≤ Rad.ginv a ∧ v = .int .i64 k) (fun v => 256 - (intOf v).toNat)
  case atStart => exact ⟨1, by omega, by omega, rfl⟩
  case round =>
    obtain ⟨k, hk1, hk, rfl⟩ := hrel
    by_cases he : k = Rad.ginv a
    · have hg : ((Rad.gm a k : Nat) : Int) = 1 := by rw [he, Rad.gm_ginv ha (by omega)]; rfl
      have hb : (((Rad.gm a k : Nat) : Int) == 1) = true := by rw [hg]; rfl
      have HE := Lib.hid he
      clear he hg
      go_wp2_with (go_at_call 98; refine (rtimes98 a k _ (by omega) (by omega)).mono ?_; rintro e w' ⟨rfl, rfl⟩)
      go_ret
      exact ⟨retInt (by rw [← HE.out]), rfl⟩
    · have hg : ((Rad.gm a k : Nat) : Int) ≠ 1 := by
        intro h
        exact he (Rad.inv_unique ha (by omega) (by omega))
      have hb : (((Rad.gm a k : Nat) : Int) == 1) = false := by simpa using hg
      have hk2 : k < Rad.ginv a := by omega
      clear he hg
      go_wp2_with (go_at_call 98; refine (rtimes98 a k _ (by omega) (by omega)).mono ?_; rintro e w' ⟨rfl, rfl⟩)
      go_round
      case rel => exact ⟨k + 1, by omega, by omega, by go_num⟩
      case measure => simp [intOf]; omega

set_option maxRecDepth 100000 in
theorem RTimes_ok (a b : Nat) (w : World) (ha : a < 256) (hb : b < 256) : Calls Try.prog 27 #[.int .i64 a, .int .i64 b] w fun e w' => e = .returned (.tuple #[.int .i64 (Rad.gm a b), .int .i64 0]) ∧ w = w' := by
  go_enter Try.func27, Try.ntmps27
  go_wp2_with (first | (go_at_call 97; refine (element_t _ _ (by omega) (by omega)).mono ?_; rintro e w' ⟨rfl, rfl⟩) | (go_at_call 98; refine (rtimes98 _ _ _ (by omega) (by omega)).mono ?_; rintro e w' ⟨rfl, rfl⟩))
  go_ret2
  exact ⟨rfl, rfl⟩
set_option maxRecDepth 100000 in
theorem RTimes_no (a b : Int) (w : World) (h : ¬ (0 ≤ a ∧ a < 256) ∨ ¬ (0 ≤ b ∧ b < 256)) : Calls Try.prog 27 #[.int .i64 a, .int .i64 b] w fun e w' => e = .returned (.tuple #[.int .i64 0, .int .i64 1]) ∧ w = w' := by
  by_cases h1 : 0 ≤ a ∧ a < 256
  · have k1 : 0 ≤ a := h1.1
    have k2 : a < 256 := h1.2
    have k3 : b < 0 ∨ 256 ≤ b := by omega
    clear h h1
    go_enter Try.func27, Try.ntmps27
    go_wp2_with (first | (go_at_call 97; refine (element_t _ _ (by omega) (by omega)).mono ?_; rintro e w' ⟨rfl, rfl⟩) | (go_at_call 97; refine (element_f _ _ (by omega)).mono ?_; rintro e w' ⟨rfl, rfl⟩))
    go_ret2
    exact ⟨rfl, rfl⟩
  · have k3 : a < 0 ∨ 256 ≤ a := by omega
    clear h h1
    go_enter Try.func27, Try.ntmps27
    go_wp2_with (first | (go_at_call 97; refine (element_f _ _ (by omega)).mono ?_; rintro e w' ⟨rfl, rfl⟩))
    go_ret2
    exact ⟨rfl, rfl⟩
set_option maxRecDepth 100000 in
theorem RInverse_ok (a : Nat) (w : World) (ha : a < 256) (h0 : 0 < a) : Calls Try.prog 28 #[.int .i64 a] w fun e w' => e = .returned (.tuple #[.int .i64 (Rad.ginv a), .int .i64 0]) ∧ w = w' := by
  go_enter Try.func28, Try.ntmps28
  go_wp2_with (first | (go_at_call 97; refine (element_t _ _ (by omega) (by omega)).mono ?_; rintro e w' ⟨rfl, rfl⟩) | (go_at_call 99; refine (rinverse99 _ _ (by omega) (by omega)).mono ?_; rintro e w' ⟨rfl, rfl⟩))
  go_ret2
  exact ⟨rfl, rfl⟩
set_option maxRecDepth 100000 in
theorem RInverse_no (a : Int) (w : World) (h : a ≤ 0 ∨ 256 ≤ a) : Calls Try.prog 28 #[.int .i64 a] w fun e w' => e = .returned (.tuple #[.int .i64 0, .int .i64 1]) ∧ w = w' := by
  by_cases h1 : a = 0
  · subst h1
    clear h
    go_enter Try.func28, Try.ntmps28
    go_wp2_with (first | (go_at_call 97; refine (element_t _ _ (by omega) (by omega)).mono ?_; rintro e w' ⟨rfl, rfl⟩))
    go_ret2
    exact ⟨rfl, rfl⟩
  · have k3 : a < 0 ∨ 256 ≤ a := by omega
    clear h h1
    go_enter Try.func28, Try.ntmps28
    go_wp2_with (first | (go_at_call 97; refine (element_f _ _ (by omega)).mono ?_; rintro e w' ⟨rfl, rfl⟩))
    go_ret2
    exact ⟨rfl, rfl⟩
end Go.Proofs.Ytenngchidlfaeaa
namespace Go.Proofs.Ytenngchidlfaeaa
open Go.RowKit


set_option maxRecDepth 100000 in
theorem generator145 (w : World) : Calls Try.prog 145 #[] w fun e w' => ∃ b, e = .returned (.slice (some ⟨b, 0, none⟩) 7 7) ∧ w.heap.size ≤ b ∧ Blk w' b 3 (is (Rad.gens 6)) ∧ Onl non w w' := by
  go_enter Try.func145, Try.ntmps145
  go_wp2
  go_loopw [1, 7] (fun u v wr => ∃ j n g : Nat, j ≤ 6 ∧ u = .slice (some ⟨g, 0, none⟩) n n ∧ v = .int .i64 j ∧ n ≤ 7 ∧ Hid (n = j + 1) ∧ Hid (w.heap.size ≤ g) ∧ Hid (Blk wr g 3 (is (Rad.gens j))) ∧ Hid (Onl non w wr)) (fun _ v _ => 6 - (intOf v).toNat)
  case atStart => exact ⟨0, 1, w.heap.size, by omega, rfl, rfl, by omega, Lib.hid rfl, Lib.hid (Nat.le_refl _), Lib.hid (Blk.new w 3 _), Lib.hid ((Onl.refl _ _).alloc _)⟩
  case round =>
    obtain ⟨wo, rfl⟩ : ∃ wo : World, wo = wr := ⟨_, rfl⟩
    obtain ⟨j, n, g, hj, rfl, rfl, hn, Hn, Hg, HB, HO⟩ := hrel
    by_cases hlt : j < 6
    · have hmk := run_make_row' (P := Try.prog) 49 3 (.int .i64 0) 8 Try.underlying49 info3 rfl .i64 .i64 (n + 1) (by omega) (by omega)
      have ec : ((n + 1 : Nat) : Int) = (n : Int) + 1 := by omega
      rw [ec] at hmk
      clear ec
      go_wp2
      clear hmk
      go_loopw [16] (fun x wr => ∃ k : Nat, k ≤ n ∧ x = .int .i64 k ∧ Hid (Blk wr g 3 (is (Rad.gens j))) ∧ Hid (Blk wr wo.heap.size 3 (is (Rad.gpart (Rad.gens j) (Rad.gpow 2 j) k))) ∧ Hid (Onl non w wr)) (fun x _ => n - (intOf x).toNat)
      case atStart =>
        refine ⟨0, by omega, rfl, Lib.hid (HB.out.alloc _), Lib.hid ?_, Lib.hid (HO.out.alloc _)⟩
        have h := Blk.new wo 3 (List.replicate (n + 1) (.int .i64 0))
        rw [← made_replicate] at h
        rw [Rad.gpart, Rad.gens_length, ← Hn.out]
        simpa [is] using h
      case round =>
        obtain ⟨k, hk, rfl, HG, HH, HI⟩ := hrel
        have hlg : (Rad.gens j).length = n := by rw [Rad.gens_length, Hn.out]
        by_cases hlt2 : k < n
        · have gb := Rad.gens_bytes j
          have pb := Rad.gpart_bytes (a := Rad.gpow 2 j) gb k
          have pl := Rad.gpart_length (Rad.gens j) (Rad.gpow 2 j) k
          obtain ⟨c, hc⟩ : ∃ c, c = (Rad.gens j).getD k 0 := ⟨_, rfl⟩
          obtain ⟨x, hx⟩ : ∃ x, x = (Rad.gpart (Rad.gens j) (Rad.gpow 2 j) k).getD k 0 := ⟨_, rfl⟩
          obtain ⟨y, hy⟩ : ∃ y, y = (Rad.gpart (Rad.gens j) (Rad.gpow 2 j) k).getD (k + 1) 0 := ⟨_, rfl⟩
          have hcl : c < 256 := by rw [hc]; exact gb.getD k
          have hxl : x < 256 := by rw [hx]; exact pb.getD k
          have hyl : y < 256 := by rw [hy]; exact pb.getD (k + 1)
          have hcg : wr.cell? ⟨g, k, none⟩ = some (.int .i64 (c : Int)) := HG.out.cell' (by rw [hc]; exact is_get (get_getD (by omega)))
          have hch : wr.cell? ⟨wo.heap.size, k, none⟩ = some (.int .i64 (x : Int)) := HH.out.cell' (by rw [hx]; exact is_get (get_getD (by omega)))
          have hch2 : wr.cell? ⟨wo.heap.size, k + 1, none⟩ = some (.int .i64 (y : Int)) := HH.out.cell' (by rw [hy]; exact is_get (get_getD (by omega)))
          have hfh := HH.out.free k
          have hfh2 := HH.out.free (k + 1)
          have hX := bxor x c (by omega) (by omega)
          have hP := Rad.gpow_lt (a := 2) (by omega) j
          have hM := Rad.gm_lt hcl (Rad.gpow 2 j)
          have hY := bxor y (Rad.gm c (Rad.gpow 2 j)) (by omega) (by omega)
          have HC := Lib.hid hc
          have HX := Lib.hid hx
          have HY := Lib.hid hy
          have HL := Lib.hid hlg
          clear hc hx hy gb pb pl hlg
          go_wp2
          have s1 : IntKind.i64.wrap ((k : Int) + 1) = (k : Int) + 1 := IntWalk.i64_in _ (by omega)
          have s2 : 0 ≤ (k : Int) + 1 := by omega
          have s3 : ((k : Int) + 1).toNat = k + 1 := by omega
          refine wp_region_qt 11 (by kernel_rfl) (by kernel_rfl) ?_
          simp only [List.take_succ_cons, List.take_zero, List.drop_succ_cons, List.drop_zero]
          repeat (go_big_quiet_step (first | (go_at_call 149; exact qsame (power149 2 j _ (by omega) (by omega))) | (go_at_call 95; exact qsame (times95 c _ _ (by omega) (by omega)))))
          refine wpQuiet_nil ?_
          intro _ hw'
          obtain ⟨nq, rfl⟩ := hw'
          clear s1 s2 s3
          go_wp2
          go_roundw
          case rel =>
            have hne : g ≠ wo.heap.size := by have := HB.out.lt; omega
            refine ⟨k + 1, by omega, by go_num, Lib.hid ?_, Lib.hid ?_, Lib.hid ?_⟩
            · exact ((HG.out.set_ne hne _).set_ne hne _)
            · have h2 := (HH.out.set k (.int .i64 ((x ^^^ c : Nat) : Int))).set (k + 1) (.int .i64 ((y ^^^ Rad.gm c (Rad.gpow 2 j) : Nat) : Int))
              rw [is_set, is_set] at h2
              have e : ((Rad.gpart (Rad.gens j) (Rad.gpow 2 j) k).set k (x ^^^ c)).set (k + 1) (y ^^^ Rad.gm c (Rad.gpow 2 j)) = Rad.gpart (Rad.gens j) (Rad.gpow 2 j) (k + 1) := by
                rw [HX.out, HY.out, HC.out]
                show _ = Rad.gput _ _ _ _
                simp only [Rad.gput]
                congr 2
                simp [List.getD_eq_getElem?_getD]
              rw [e] at h2
              exact h2
            · exact ((HI.out.set _ _ (fun h => absurd h (by have := HO.out.size; simp; omega))).set _ _ (fun h => absurd h (by have := HO.out.size; simp; omega))).drewN _
          case measure => simp [intOf]; omega
        · go_wp2
          go_roundw
          case rel =>
            have hkn : k = n := by omega
            refine ⟨j + 1, n + 1, wo.heap.size, by omega, rfl, by go_num, by have := Hn.out; omega, Lib.hid (by rw [Hn.out]), Lib.hid (by have := HO.out.size; omega), Lib.hid ?_, HI⟩
            have h := HH.out
            rw [hkn] at h
            show Blk _ _ _ (is (Rad.gpart (Rad.gens j) (Rad.gpow 2 j) (Rad.gens j).length))
            rw [hlg]
            exact h
          case measure => simp [intOf]; omega
    · go_wp2
      have hj6 : j = 6 := by omega
      have hn7 : n = 7 := by rw [Hn.out, hj6]
      subst hj6
      subst hn7
      go_ret
      exact ⟨g, rfl, Hg.out, HB.out, HO.out⟩
end Go.Proofs.Ytenngchidlfaeaa
namespace Go.Proofs.Ytenngchidlfaeaa
open Go.RowKit

set_option maxRecDepth 100000 in
theorem check88 (s : ByteArray) (w : World) (hs : s.size < 1000) : Calls Try.prog 88 #[.string s] w fun e w' => e = .returned (.string (sb (Rad.chk (bl s)))) ∧ Onl non w w' := by
  obtain ⟨n, hn⟩ : ∃ n, n = s.size := ⟨_, rfl⟩
  have hmk := run_make_row' (P := Try.prog) 57 5 (.int .u8 0) 1 Try.underlying57 info5 rfl .i64 .i64 (n + 6) (by omega) (by omega)
  have ec : ((n + 6 : Nat) : Int) = (n : Int) + 6 := by omega
  rw [ec, hn] at hmk
  clear ec
  have hb0 := Blk.new w 5 (List.replicate (s.size + 6) (.int .u8 0))
  rw [← made_replicate] at hb0
  obtain ⟨w2, hrun, HB2, HO2⟩ := hb0.copy_string 57 9 3 Try.underlying57 (s.size + 6) (s.size + 6) s (by omega) (by simp)
  have HR := Lib.hid hrun
  have HB2 := Lib.hid HB2
  have HO2 := Lib.hid HO2
  clear hrun hb0
  go_enter Try.func88, Try.ntmps88
  go_wp2_with (refine Lib.wpList_copy_run (o := ⟨some 15, _, _, _, _, _⟩) _ rfl (.tmp 13) (.tmp 14) 57 9 rfl _ _ rfl rfl HR.out ?_)
  refine (generator145 _).mono ?_
  rintro e w3 ⟨b, rfl, hb1, hb2, hb3⟩
  have hg0 : w.heap.size < w2.heap.size := by have := HO2.out.size; simp at this; omega
  have HB : Hid (Blk w3 b 3 (is (Rad.gens 6))) := Lib.hid hb2
  have HR0 : Hid (Blk w3 w.heap.size 5 (bs (bl s ++ List.replicate 6 0))) := by
    have h := HB2.out.onl hb3 (fun h => h)
    refine Lib.hid ?_
    rw [List.drop_replicate, show s.size + 6 - s.size = 6 from by omega] at h
    simpa [bs] using h
  have HO3 : Hid (Onl non w w3) := Lib.hid (((Onl.refl non w).alloc _).trans (HO2.out.trans (S := fun k => k = w.heap.size) hb3 (fun _ _ h => h.elim)) (fun i hi h => absurd h (by omega)))
  have hgb : w.heap.size ≠ b := by omega
  have HGB := Lib.hid hgb
  clear hb2 hb3 hgb hb1 HB2 HO2 HR hmk hg0
  have gl : (Rad.gens 6).length = 7 := rfl
  have GL := Lib.hid gl
  clear gl
  go_wp2
  go_loopw [19] (fun x wr => ∃ i : Nat, i ≤ s.size ∧ x = .int .i64 i ∧ Hid (Blk wr b 3 (is (Rad.gens 6))) ∧ Hid (Blk wr w.heap.size 5 (bs (Rad.drounds (Rad.gens 6) (bl s ++ List.replicate 6 0) i))) ∧ Hid (Onl non w wr)) (fun x _ => s.size - (intOf x).toNat)
  case atStart => exact ⟨0, by omega, rfl, HB, HR0, HO3⟩
  case round =>
    obtain ⟨wo, rfl⟩ : ∃ wo : World, wo = wr := ⟨_, rfl⟩
    clear HB HR0 HO3
    obtain ⟨i, hi, rfl, HG, HH, HI⟩ := hrel
    have LB : Rad.Bytes (bl s ++ List.replicate 6 0) := (bl_bytes s).append (Rad.Bytes.replicate 6)
    have LL : (bl s ++ List.replicate 6 0).length = s.size + 6 := by simp [bl_length]
    have LL2 := Lib.hid LL
    have LB2 := Lib.hid LB
    clear LL LB
    by_cases hlt : i < s.size
    · have D1 := Rad.drounds_bytes (g := Rad.gens 6) LB2.out i
      obtain ⟨c, hc⟩ : ∃ c, c = (Rad.drounds (Rad.gens 6) (bl s ++ List.replicate 6 0) i).getD i 0 := ⟨_, rfl⟩
      have hcl : c < 256 := by rw [hc]; exact D1.getD i
      have hch : wo.cell? ⟨w.heap.size, i, none⟩ = some (.int .u8 (c : Int)) := HH.out.cell' (by rw [hc]; exact bs_get (get_getD (by rw [Rad.drounds_length, LL2.out]; omega)))
      have HC := Lib.hid hc
      have HD1 := Lib.hid D1
      clear hc D1
      go_wp2
      clear hch
      go_loopw [29] (fun x wr => ∃ k : Nat, k ≤ 7 ∧ x = .int .i64 k ∧ Hid (Blk wr b 3 (is (Rad.gens 6))) ∧ Hid (Blk wr w.heap.size 5 (bs (Rad.dpart (Rad.gens 6) c i (Rad.drounds (Rad.gens 6) (bl s ++ List.replicate 6 0) i) k))) ∧ Hid (Onl non w wr)) (fun x _ => 7 - (intOf x).toNat)
      case atStart => exact ⟨0, by omega, rfl, HG, HH, HI⟩
      case round =>
        clear HG HH HI
        obtain ⟨k, hk, rfl, HG, HH, HI⟩ := hrel
        by_cases hlt2 : k < 7
        · have P1 := Rad.dpart_bytes (g := Rad.gens 6) HD1.out hcl i k
          have P2 : (Rad.dpart (Rad.gens 6) c i (Rad.drounds (Rad.gens 6) (bl s ++ List.replicate 6 0) i) k).length = s.size + 6 := by rw [Rad.dpart_length, Rad.drounds_length, LL2.out]
          have G1 := Rad.gens_bytes 6
          obtain ⟨x, hx⟩ : ∃ x, x = (Rad.gens 6).getD k 0 := ⟨_, rfl⟩
          obtain ⟨y, hy⟩ : ∃ y, y = (Rad.dpart (Rad.gens 6) c i (Rad.drounds (Rad.gens 6) (bl s ++ List.replicate 6 0) i) k).getD (i + k) 0 := ⟨_, rfl⟩
          have hxl : x < 256 := by rw [hx]; exact G1.getD k
          have hyl : y < 256 := by rw [hy]; exact P1.getD _
          have hcg : wr.cell? ⟨b, k, none⟩ = some (.int .i64 (x : Int)) := HG.out.cell' (by rw [hx]; exact is_get (get_getD (by rw [GL.out]; omega)))
          have hch : wr.cell? ⟨w.heap.size, i + k, none⟩ = some (.int .u8 (y : Int)) := HH.out.cell' (by rw [hy]; exact bs_get (get_getD (by rw [P2]; omega)))
          have hfh := HH.out.free (i + k)
          have hM := Rad.gm_lt hcl x
          have hW := u8w hM
          have hY := bxor8 y (Rad.gm c x) hyl hM
          have HX := Lib.hid hx
          have HY := Lib.hid hy
          clear hx hy P1 P2 G1
          go_wp2
          have s1 : IntKind.i64.wrap ((i : Int) + (k : Int)) = (i : Int) + (k : Int) := IntWalk.i64_in _ (by omega)
          have s2 : 0 ≤ (i : Int) + (k : Int) := by omega
          have s3 : ((i : Int) + (k : Int)).toNat = i + k := by omega
          refine wp_region_qt 12 (by kernel_rfl) (by kernel_rfl) ?_
          simp only [List.take_succ_cons, List.take_zero, List.drop_succ_cons, List.drop_zero]
          repeat (go_big_quiet_step (first | (go_at_call 95; exact qsame (times95 c _ _ (by omega) (by omega)))))
          refine wpQuiet_nil ?_
          intro _ hw'
          obtain ⟨nq, rfl⟩ := hw'
          clear s1 s2 s3
          go_wp2
          go_roundw
          case rel =>
            refine ⟨k + 1, by omega, by go_num, Lib.hid (HG.out.set_ne HGB.out.symm _), Lib.hid ?_, Lib.hid ?_⟩
            · have h2 := HH.out.set (i + k) (.int .u8 ((y ^^^ Rad.gm c x : Nat) : Int))
              rw [bs_set, HY.out, HX.out] at h2
              rw [HY.out, HX.out]
              exact h2
            · exact (HI.out.set _ _ (fun h => absurd h (by simp))).drewN _
          case measure => simp [intOf]; omega
        · go_wp2
          go_roundw
          case rel =>
            have hk7 : k = 7 := by omega
            refine ⟨i + 1, by omega, by go_num, HG, Lib.hid ?_, HI⟩
            have h := HH.out
            rw [hk7, HC.out] at h
            exact h
          case measure => simp [intOf]; omega
    · have hi2 : i = s.size := by omega
      subst hi2
      have hl := Rad.chk_length (bl s)
      have hcv := conv_back wo w.heap.size s.size 6 (Rad.chk (bl s)) (Rad.chk_bytes (bl_bytes s)) (by
        intro j hj
        refine HH.out.cell' (bs_get ?_)
        have e : Rad.chk (bl s) = (Rad.drounds (Rad.gens 6) (bl s ++ List.replicate 6 0) s.size).drop s.size := by rw [Rad.chk, bl_length]
        rw [← get_getD hj, e, List.getElem?_drop])
      rw [hl] at hcv
      clear hl
      go_wp2
      go_ret
      exact ⟨rfl, HI.out⟩

theorem Checks29_ok (s : ByteArray) (w : World) (hs : s.size ≤ 249) : Calls Try.prog 29 #[.string s] w fun e w' => e = .returned (.tuple #[.string (sb (Rad.chk (bl s))), .int .i64 0]) ∧ Onl non w w' := by
  go_enter Try.func29, Try.ntmps29
  go_wp2_with (go_at_call 88; refine (check88 _ _ (by omega)).mono ?_; rintro e w1 ⟨rfl, h1⟩; have H1 := Lib.hid h1; clear h1)
  go_ret2
  exact ⟨rfl, H1.out⟩
theorem Checks29_no (s : ByteArray) (w : World) (hs : 249 < s.size) (hm : s.size ≤ maxLen) : Calls Try.prog 29 #[.string s] w fun e w' => e = .returned (.tuple #[.string ⟨#[]⟩, .int .i64 2]) ∧ w = w' := by
  unfold maxLen at hm
  go_enter Try.func29, Try.ntmps29
  go_wp2
  go_ret2
  exact ⟨rfl, rfl⟩
end Go.Proofs.Ytenngchidlfaeaa
namespace Go.Proofs.Ytenngchidlfaeaa
open Go.RowKit

/-- the values, as far as they are known behind j rounds -/
def vals (l : List Nat) (j : Nat) : List Nat := (List.range 6).map fun i => if i < j then Rad.horner (Rad.gpow 2 i) 0 l else 0
theorem vals_length (l : List Nat) (j : Nat) : (vals l j).length = 6 := by simp [vals]
theorem vals_getD (l : List Nat) (j i : Nat) : (vals l j).getD i 0 = if i < 6 ∧ i < j then Rad.horner (Rad.gpow 2 i) 0 l else 0 := by
  simp only [vals, List.getD_eq_getElem?_getD, List.getElem?_map]
  by_cases h : i < 6 <;> simp [h]
theorem vals_set (l : List Nat) (j : Nat) (hj : j < 6) : (vals l j).set j (Rad.horner (Rad.gpow 2 j) 0 l) = vals l (j + 1) := by
  apply Rad.list_ext_getD
  · simp [vals]
  · intro p hp
    rw [Rad.getD_set, vals_getD, vals_getD, vals_length]
    by_cases h : j = p
    · subst h; rw [if_pos ⟨rfl, hj⟩, if_pos (by omega)]
    · rw [if_neg (by omega)]
      by_cases h2 : p < 6 ∧ p < j
      · rw [if_pos h2, if_pos (by omega)]
      · rw [if_neg h2, if_neg (by omega)]
theorem vals_set0 (l : List Nat) (j : Nat) : (vals l j).set j (Rad.horner (Rad.gpow 2 j) 0 (l.take 0)) = vals l j := by
  apply Rad.list_ext_getD
  · simp [vals]
  · intro p hp
    rw [Rad.getD_set]
    split
    · rename_i h; rw [← h.1, vals_getD, if_neg (by omega)]; rfl
    · rfl
theorem horner_lt {a : Nat} (ha : a < 256) {l : List Nat} (hl : Rad.Bytes l) : Rad.horner a 0 l < 256 := by rw [Rad.horner_val ha hl]; exact Rad.val_lt hl a
theorem bytes_take {l : List Nat} (h : Rad.Bytes l) (k : Nat) : Rad.Bytes (l.take k) := fun b hb => h b (List.mem_of_mem_take hb)
theorem horner_snoc (a : Nat) (l : List Nat) (k : Nat) (h : k < l.length) : Rad.horner a 0 (l.take (k + 1)) = Rad.gm (Rad.horner a 0 (l.take k)) a ^^^ l.getD k 0 := by
  rw [take_succ_getD h]; simp [Rad.horner]

set_option maxRecDepth 100000 in
theorem values91 (l : List Nat) (g n c : Nat) (w : World) (hn : n = l.length) (hl : l.length < 1000) (hb : Rad.Bytes l) (hr : Rd w g 0 l) :
    Calls Try.prog 91 #[.slice (some ⟨g, 0, none⟩) n c] w fun e w' => e = .returned (.agg (is (vals l 6)).toArray) ∧ Onl non w w' := by
  have hn1 : n < 1000 := by omega
  have HN := Lib.hid hn
  have HR := Lib.hid hr
  have HBy := Lib.hid hb
  clear hn hr hl hb
  go_enter Try.func91, Try.ntmps91
  go_wp2
  go_loopw [7] (fun x wr => ∃ j : Nat, j ≤ 6 ∧ x = .int .i64 j ∧ Hid (Blk wr w.heap.size 128 (is (vals l j))) ∧ Hid (Rd wr g 0 l) ∧ Hid (Onl non w wr)) (fun x _ => 6 - (intOf x).toNat)
  case atStart =>
    exact ⟨0, by omega, rfl, Lib.hid (Blk.new w 128 _), Lib.hid (HR.out.onl ((Onl.refl non w).alloc _) (fun h => h)), Lib.hid ((Onl.refl non w).alloc _)⟩
  case round =>
    obtain ⟨wo, rfl⟩ : ∃ wo : World, wo = wr := ⟨_, rfl⟩
    obtain ⟨j, hj, rfl, HH, HD, HO⟩ := hrel
    by_cases hlt : j < 6
    · have hP := Rad.gpow_lt (a := 2) (by omega) j
      go_wp2_with (go_at_call 149; refine (power149 2 j _ (by omega) (by omega)).mono ?_; rintro e w' ⟨rfl, rfl⟩)
      go_loopw [14] (fun x wr => ∃ k : Nat, k ≤ n ∧ x = .int .i64 k ∧ Hid (Blk wr w.heap.size 128 (is ((vals l j).set j (Rad.horner (Rad.gpow 2 j) 0 (l.take k))))) ∧ Hid (Rd wr g 0 l) ∧ Hid (Onl non w wr)) (fun x _ => n - (intOf x).toNat)
      case atStart => exact ⟨0, by omega, rfl, Lib.hid (by rw [vals_set0]; exact HH.out), HD, HO⟩
      case round =>
        clear HH HD HO
        obtain ⟨k, hk, rfl, HH, HD, HO⟩ := hrel
        by_cases hlt2 : k < n
        · have hkl : k < l.length := by have := HN.out; omega
          have hx := HBy.out.getD k
          have hy := horner_lt (a := Rad.gpow 2 j) hP (bytes_take HBy.out k)
          have hM := Rad.gm_lt hy (Rad.gpow 2 j)
          have HS := Lib.hid (horner_snoc (Rad.gpow 2 j) l k hkl)
          have hcg := HD.out.at0 hkl
          have HX := Lib.hid hkl
          clear hkl
          generalize l.getD k 0 = x at *
          have hch : wr.cell? ⟨w.heap.size, j, none⟩ = some (.int .i64 ((Rad.horner (Rad.gpow 2 j) 0 (l.take k) : Nat) : Int)) := HH.out.cell' (is_get (by rw [get_getD (by simp [vals_length]; omega), Rad.getD_set, vals_length, if_pos ⟨rfl, hlt⟩]))
          have hfh := HH.out.free j
          generalize hHy : Rad.horner (Rad.gpow 2 j) 0 (l.take k) = y at *
          have HY := Lib.hid hHy
          clear hHy
          have hXo := bxor (Rad.gm y (Rad.gpow 2 j)) x (by omega) (by omega)
          go_wp2_with (go_at_call 95; refine (times95 y _ _ (by omega) (by omega)).mono ?_; rintro e w' ⟨rfl, rfl⟩)
          go_roundw
          case rel =>
            refine ⟨k + 1, by omega, by go_num, Lib.hid ?_, Lib.hid (HD.out.onl ((Onl.refl (one w.heap.size) wr).set _ _ (fun _ => rfl)) (fun h => ?_)), Lib.hid (HO.out.set _ _ (fun h => absurd h (by simp)))⟩
            · have h2 := HH.out.set j (.int .i64 ((Rad.gm y (Rad.gpow 2 j) ^^^ x : Nat) : Int))
              rw [is_set, List.set_set] at h2
              rw [HS.out]
              exact h2
            · have h3 : g = w.heap.size := h
              have := HR.out.lt (by have := HX.out; omega)
              omega
          case measure => simp [intOf]; omega
        · go_wp2
          go_roundw
          case rel =>
            have hkn : k = n := by omega
            refine ⟨j + 1, by omega, by go_num, Lib.hid ?_, HD, HO⟩
            have h := HH.out
            rw [hkn, HN.out, List.take_length, vals_set l j hlt] at h
            exact h
          case measure => simp [intOf]; omega
    · have hj6 : j = 6 := by omega
      subst hj6
      obtain ⟨v, hv⟩ : ∃ v, v = vals l 6 := ⟨_, rfl⟩
      have hvl : v.length = 6 := by rw [hv, vals_length]
      have HH' := HH.out
      rw [← hv] at HH'
      have HV := Lib.hid hv
      clear hv HH
      match v, hvl with
      | [v0, v1, v2, v3, v4, v5], _ =>
        have hc0 := HH'.cell' (i := 0) rfl
        have hc1 := HH'.cell' (i := 1) rfl
        have hc2 := HH'.cell' (i := 2) rfl
        have hc3 := HH'.cell' (i := 3) rfl
        have hc4 := HH'.cell' (i := 4) rfl
        have hc5 := HH'.cell' (i := 5) rfl
        have hf0 := HH'.free 0
        have hf1 := HH'.free 1
        have hf2 := HH'.free 2
        have hf3 := HH'.free 3
        have hf4 := HH'.free 4
        have hf5 := HH'.free 5
        have HB := Lib.hid HH'
        clear HH'
        go_wp2
        refine bodyPost_ret (v := .agg #[.int .i64 v0, .int .i64 v1, .int .i64 v2, .int .i64 v3, .int .i64 v4, .int .i64 v5]) (by simp [results, Try.results91, go_sem, hc0, hc1, hc2, hc3, hc4, hc5]) rfl ⟨?_, ?_⟩
        · rw [← HV.out]; rfl
        · exact (((((HO.out.set _ _ (fun h => absurd h (by simp))).set _ _ (fun h => absurd h (by simp))).set _ _ (fun h => absurd h (by simp))).set _ _ (fun h => absurd h (by simp))).set _ _ (fun h => absurd h (by simp))).set _ _ (fun h => absurd h (by simp))
end Go.Proofs.Ytenngchidlfaeaa
namespace Go.Proofs.Ytenngchidlfaeaa
open Go.RowKit
open Rad (expl pairsOf GoodF)

theorem zc183 : Try.zeroCells183 = (is (List.replicate 511 0)).toArray := by kernel_rfl
set_option maxRecDepth 100000 in
theorem newField146 (w : World) : Calls Try.prog 146 #[] w fun e w' => ∃ b, e = .returned (.pointer (some ⟨b, 0, none⟩)) ∧ w.heap.size ≤ b ∧ Blk w' b 183 (is Rad.tab) ∧ Onl non w w' := by
  go_enter Try.func146, Try.ntmps146
  go_wp2
  go_loopw [2, 6] (fun u v wr => ∃ x n : Nat, x < 256 ∧ n ≤ 255 ∧ u = .int .i64 x ∧ v = .int .i64 n ∧ Hid (x = Rad.gpow 2 n) ∧ Hid (Blk wr w.heap.size 183 (is (Rad.fld n))) ∧ Hid (Onl non w wr)) (fun _ v _ => 255 - (intOf v).toNat)
  case atStart =>
    refine ⟨1, 0, by omega, by omega, rfl, rfl, Lib.hid rfl, Lib.hid ?_, Lib.hid ((Onl.refl non w).alloc _)⟩
    rw [zc183]
    exact Blk.new w 183 _
  case round =>
    obtain ⟨x, n, hx, hn, rfl, rfl, HX, HB, HO⟩ := hrel
    by_cases hlt : n < 255
    · have hL := Rad.fld_length n
      have hc1 := HB.out.cell' (i := n) (is_get (get_getD (by omega)))
      have hf1 := HB.out.free n
      have hc2 := HB.out.cell' (i := 255 + x) (is_get (get_getD (by omega)))
      have hf2 := HB.out.free (255 + x)
      have hM := Rad.gm_lt hx 2
      clear hL
      generalize (Rad.fld n).getD n 0 = y1 at *
      generalize (Rad.fld n).getD (255 + x) 0 = y2 at *
      go_wp2_with (go_at_call 95; refine (times95 x 2 _ (by omega) (by omega)).mono ?_; rintro e w' ⟨rfl, rfl⟩)
      go_roundw
      case rel =>
        refine ⟨_, n + 1, hM, by omega, rfl, by go_num, Lib.hid (by rw [HX.out]; rfl), Lib.hid ?_, Lib.hid ((HO.out.set _ _ (fun h => absurd h (by simp))).set _ _ (fun h => absurd h (by simp)))⟩
        have h2 := (HB.out.set n (.int .i64 (x : Int))).set (255 + x) (.int .i64 (n : Int))
        rw [is_set, is_set] at h2
        have e : Rad.fld (n + 1) = ((Rad.fld n).set n x).set (255 + x) n := by rw [HX.out]; rfl
        rw [e]
        exact h2
      case measure => simp [intOf]; omega
    · have hn2 : n = 255 := by omega
      subst hn2
      go_wp2
      go_ret
      exact ⟨w.heap.size, rfl, Nat.le_refl _, HB.out, HO.out⟩

set_option maxRecDepth 100000 in
theorem over148 (a b f : Nat) (w : World) (ha : a < 256) (hb : b < 256) (hb0 : 0 < b) (hB : Blk w f 183 (is Rad.tab)) :
    Calls Try.prog 148 #[.pointer (some ⟨f, 0, none⟩), .int .i64 a, .int .i64 b] w fun e w' => e = .returned (.int .i64 (Rad.gm a (Rad.ginv b))) ∧ Drw w w' := by
  by_cases h0 : a = 0
  · subst h0
    have HB := Lib.hid hB
    clear hB
    go_enter Try.func148, Try.ntmps148
    go_wp2
    go_ret
    exact ⟨retInt (by rw [Rad.gm_zero_left]; rfl), Drw.refl _⟩
  · have hOv := Rad.over_eq ha hb h0 (by omega)
    have la := Rad.tab_log_lt ha h0
    have lb := Rad.tab_log_lt hb (by omega)
    have hc1 := hB.cell' (i := 255 + a) (is_get (get_getD (by rw [Rad.tab_length]; omega)))
    have hc2 := hB.cell' (i := 255 + b) (is_get (get_getD (by rw [Rad.tab_length]; omega)))
    generalize Rad.tab.getD (255 + a) 0 = x at *
    generalize Rad.tab.getD (255 + b) 0 = y at *
    have hc3 := hB.cell' (i := (x + 255 - y) % 255) (is_get (get_getD (by rw [Rad.tab_length]; omega)))
    rw [hOv] at hc3
    have hd : ((a : Int) == 0) = false := by simpa using h0
    have HB := Lib.hid hB
    clear hB hOv h0
    go_enter Try.func148, Try.ntmps148
    go_wp2
    have s1 : IntKind.i64.wrap ((x : Int) + 255) = (x : Int) + 255 := IntWalk.i64_in _ (by omega)
    have s2 : IntKind.i64.wrap ((x : Int) + 255 - (y : Int)) = (x : Int) + 255 - (y : Int) := IntWalk.i64_in _ (by omega)
    go_quiet (fail)
    go_wp2
    go_ret
    exact ⟨rfl, (Drw.refl _).drewN _⟩

/-- faults in memory: two cells each -/
def fcs (l : List (Nat × Nat)) : List Value := l.flatMap fun p => [.int .i64 (p.1 : Int), .int .i64 (p.2 : Int)]
theorem fcs_get : ∀ (l : List (Nat × Nat)) (k : Nat) (p : Nat × Nat), l[k]? = some p → (fcs l)[k * 2]? = some (.int .i64 (p.1 : Int)) ∧ (fcs l)[k * 2 + 1]? = some (.int .i64 (p.2 : Int))
  | [], _, _, h => by simp at h
  | q :: l, 0, p, h => by simp at h; subst h; exact ⟨rfl, rfl⟩
  | q :: l, k + 1, p, h => by
    have ih := fcs_get l k p (by simpa using h)
    rw [show (k + 1) * 2 = k * 2 + 2 from by omega]
    exact ih
theorem syn_snoc (l : List (Nat × Nat)) (p : Nat × Nat) (j : Nat) : Rad.syn (l ++ [p]) j = Rad.syn l j ^^^ Rad.gm p.2 (Rad.gpow p.1 j) := by
  induction l with
  | nil => simp [Rad.syn]
  | cons q l ih => rw [List.cons_append, Rad.syn_cons, ih, Rad.syn_cons, Nat.xor_assoc]
theorem pairsOf_pairs {n : Nat} {l : List (Nat × Nat)} (h : GoodF n l) : Rad.Pairs (pairsOf n l) := by
  intro q hq
  obtain ⟨p, hp, rfl⟩ := List.mem_map.1 hq
  exact ⟨Rad.gpow_two_lt _, (h p hp).2⟩

set_option maxRecDepth 100000 in
theorem explains147 (f h m c n v0 v1 v2 v3 v4 v5 : Nat) (l : List (Nat × Nat)) (tt : TypeId) (w : World) (hn : n < 256) (hm : m = l.length) (hm2 : m < 100) (hG : GoodF n l) (hB : Blk w f 183 (is Rad.tab)) (hF : Blk w h tt (fcs l)) :
    Calls Try.prog 147 #[.pointer (some ⟨f, 0, none⟩), .slice (some ⟨h, 0, none⟩) m c, .int .i64 n, .agg #[.int .i64 v0, .int .i64 v1, .int .i64 v2, .int .i64 v3, .int .i64 v4, .int .i64 v5]] w
      fun e w' => e = .returned (.bool (expl (pairsOf n l) [v0, v1, v2, v3, v4, v5])) ∧ Onl non w w' := by
  have HB := Lib.hid hB
  have HF := Lib.hid hF
  have HM := Lib.hid hm
  have HG := Lib.hid hG
  clear hB hF hm hG
  go_enter Try.func147, Try.ntmps147
  go_wp2
  go_loopw [13] (fun x wr => ∃ j : Nat, j ≤ 6 ∧ x = .int .i64 j ∧ Hid (Blk wr w.heap.size 128 (is [v0, v1, v2, v3, v4, v5])) ∧ Hid (Blk wr f 183 (is Rad.tab)) ∧ Hid (Blk wr h tt (fcs l)) ∧ Hid (Onl non w wr) ∧ Hid (∀ i, i < j → Rad.syn (pairsOf n l) i = [v0, v1, v2, v3, v4, v5].getD i 0)) (fun x _ => 6 - (intOf x).toNat)
  case atStart =>
    exact ⟨0, by omega, rfl, Lib.hid (Blk.new w 128 _), Lib.hid (HB.out.alloc _), Lib.hid (HF.out.alloc _), Lib.hid ((Onl.refl non w).alloc _), Lib.hid (fun i hi => absurd hi (by omega))⟩
  case round =>
    obtain ⟨wo, rfl⟩ : ∃ wo : World, wo = wr := ⟨_, rfl⟩
    clear HB HF
    obtain ⟨j, hj, rfl, HV, HB, HF, HO, HS⟩ := hrel
    by_cases hlt : j < 6
    · have hd6 : decide ((j : Int) < 6) = true := decide_eq_true (by omega)
      go_wp2
      go_loopw [10, 18] (fun u x wr => ∃ k y : Nat, k ≤ m ∧ y < 256 ∧ u = .int .i64 y ∧ x = .int .i64 k ∧ Hid (y = Rad.syn (pairsOf n (l.take k)) j) ∧ Hid (Blk wr w.heap.size 128 (is [v0, v1, v2, v3, v4, v5])) ∧ Hid (Blk wr f 183 (is Rad.tab)) ∧ Hid (Blk wr h tt (fcs l)) ∧ Hid (Onl non w wr)) (fun _ x _ => m - (intOf x).toNat)
      case atStart => exact ⟨0, 0, by omega, by omega, rfl, rfl, Lib.hid rfl, HV, HB, HF, HO⟩
      case round =>
        clear HV HB HF HO
        obtain ⟨k, y, hk, hy, rfl, rfl, HY, HV, HB, HF, HO⟩ := hrel
        by_cases hlt2 : k < m
        · have hkl : k < l.length := by have := HM.out; omega
          obtain ⟨p, hp⟩ : ∃ p, l[k]? = some p := ⟨_, List.getElem?_eq_getElem hkl⟩
          obtain ⟨hc1, hc2⟩ := fcs_get l k p hp
          have hc1 := HF.out.cell' hc1
          have hc2 := HF.out.cell' hc2
          obtain ⟨g1, g2⟩ := HG.out p (List.mem_of_getElem? hp)
          obtain ⟨pa, pb⟩ := p
          dsimp only at g1 g2 hc1 hc2
          obtain ⟨d, hd⟩ : ∃ d, d = n - 1 - pa := ⟨_, rfl⟩
          obtain ⟨q, hq⟩ : ∃ q, q = d * j := ⟨_, rfl⟩
          have hidx : q % 255 < 255 := Nat.mod_lt _ (by omega)
          have he : Rad.tab.getD (q % 255) 0 = Rad.gpow (Rad.gpow 2 d) j := by
            rw [Rad.tab_exp hidx, Rad.gpow_two_mod, Rad.gpow_gpow (by omega), hq]
          have hc3 := HB.out.cell' (i := q % 255) (is_get (get_getD (by rw [Rad.tab_length]; omega)))
          rw [he] at hc3
          have hc4 : ∀ o, (wr.alloc o).cell? ⟨f, q % 255, none⟩ = some (.int .i64 ((Rad.gpow (Rad.gpow 2 d) j : Nat) : Int)) := fun o => ((Onl.refl non wr).alloc o).cell hc3 (fun h => h)
          have hpl := Rad.gpow_lt (a := Rad.gpow 2 d) (Rad.gpow_two_lt _) j
          have hM := Rad.gm_lt g2 (Rad.gpow (Rad.gpow 2 d) j)
          have hX := bxor y (Rad.gm pb (Rad.gpow (Rad.gpow 2 d) j)) (by omega) (by omega)
          have HS1 : Hid (Rad.syn (pairsOf n (l.take (k + 1))) j = y ^^^ Rad.gm pb (Rad.gpow (Rad.gpow 2 d) j)) := Lib.hid (by
            have e : l.take (k + 1) = l.take k ++ [(pa, pb)] := by rw [List.take_succ_eq_append_getElem hkl]; congr 1; rw [List.getElem?_eq_getElem hkl] at hp; rw [Option.some.inj hp]
            rw [e, pairsOf, List.map_append]
            simp only [List.map_cons, List.map_nil]
            rw [syn_snoc, HY.out, hd]; rfl)
          have hq2 : q ≤ 256 * 6 := by
            rw [hq]; exact Nat.mul_le_mul (by omega) (by omega)
          have e1 : IntKind.i64.wrap ((n : Int) - 1) = (n : Int) - 1 := IntWalk.i64_in _ (by omega)
          have e2 : IntKind.i64.wrap ((n : Int) - 1 - (pa : Int)) = (d : Int) := by rw [IntWalk.i64_in _ (by omega)]; omega
          have e3 : IntKind.i64.wrap ((d : Int) * (j : Int)) = (q : Int) := by
            rw [hq, Int.natCast_mul]; refine IntWalk.i64_in _ ?_
            have : ((d : Int) * (j : Int)) = ((d * j : Nat) : Int) := by rw [Int.natCast_mul]
            rw [this, ← hq]; omega
          have HD := Lib.hid hd
          have HQ := Lib.hid hq
          have HP := Lib.hid hp
          clear hd hq he hp hkl
          have E1 := Lib.hid e1
          have E2 := Lib.hid e2
          have E3 := Lib.hid e3
          clear e1 e2 e3
          go_wp2
          have e1 := E1.out
          have e2 := E2.out
          have e3 := E3.out
          go_quiet ((go_at_call 95; exact qsame (times95 pb _ _ (by omega) (by omega))))
          clear e1 e2 e3
          go_wp2
          go_roundw
          case rel =>
            exact ⟨k + 1, _, by omega, Rad.xor_lt hy hM, rfl, by go_num, Lib.hid HS1.out.symm, Lib.hid (HV.out.alloc _), Lib.hid (HB.out.alloc _), Lib.hid (HF.out.alloc _), Lib.hid ((HO.out.alloc _).drewN _)⟩
          case measure => simp [intOf]; omega
        · obtain ⟨z, hz⟩ : ∃ z, z = [v0, v1, v2, v3, v4, v5].getD j 0 := ⟨_, rfl⟩
          have hcv : wr.cell? ⟨w.heap.size, j, none⟩ = some (.int .i64 (z : Int)) := HV.out.cell' (is_get (by rw [hz]; exact get_getD hlt))
          have HZ := Lib.hid hz
          clear hz
          have hkm : k = m := by omega
          have HY2 : Hid (y = Rad.syn (pairsOf n l) j) := Lib.hid (by rw [HY.out, hkm, HM.out, List.take_length])
          by_cases hyz : y = z
          · have hb := eq_bne hyz
            have HYZ := Lib.hid hyz
            clear hyz hkm
            go_wp2
            go_roundw
            case rel =>
              refine ⟨j + 1, by omega, by go_num, HV, HB, HF, HO, Lib.hid ?_⟩
              intro i hi
              by_cases hij : i = j
              · rw [hij, ← HY2.out, HYZ.out, HZ.out]
              · exact HS.out i (by omega)
            case measure => simp [intOf]; omega
          · have hb := ne_bne hyz
            have HYZ := Lib.hid hyz
            clear hyz hkm
            go_wp2
            go_ret
            refine ⟨retBool (Eq.symm ?_), HO.out⟩
            show expl (pairsOf n l) [v0, v1, v2, v3, v4, v5] = false
            · 
              apply Bool.eq_false_iff.2
              intro hx
              have := List.all_eq_true.1 hx j (List.mem_range.2 hlt)
              rw [beq_iff_eq, ← HY2.out, ← HZ.out] at this
              exact HYZ.out this
    · go_wp2
      go_ret
      refine ⟨retBool (Eq.symm ?_), HO.out⟩
      show expl (pairsOf n l) [v0, v1, v2, v3, v4, v5] = true
      · apply List.all_eq_true.2
        intro i hi
        have := HS.out i (by have := List.mem_range.1 hi; omega)
        rw [this]; simp
end Go.Proofs.Ytenngchidlfaeaa
/- radio.faults, walked. -/
namespace Go.Proofs.Ytenngchidlfaeaa
open Go.RowKit
open Rad (expl pairsOf GoodF)

theorem size3 (w : World) : (sizeOf 3).run Try.prog w = .ok 1 w := by kernel_rfl
theorem isAgg3 (w : World) : (isAgg 3).run Try.prog w = .ok false w := by kernel_rfl
theorem part3 (xs : Array Value) (i : Nat) (v : Value) (h : xs[i]? = some v) (w : World) : (part 3 xs i).run Try.prog w = .ok v w := by
  simp [part, h]
theorem eql128 (w : World) (v0 v1 v2 v3 v4 v5 : Int) : (binOp .eql 128 (.agg #[.int .i64 v0, .int .i64 v1, .int .i64 v2, .int .i64 v3, .int .i64 v4, .int .i64 v5]) (.agg #[.int .i64 0, .int .i64 0, .int .i64 0, .int .i64 0, .int .i64 0, .int .i64 0])).run Try.prog w =
    .ok (.bool (v0 == 0 && v1 == 0 && v2 == 0 && v3 == 0 && v4 == 0 && v5 == 0)) w := by
  rw [run_eql_struct]
  unfold Op.equalIn
  simp only [Sem.run_bind, run_underlying Try.underlying128, Result.andThen_ok, size3]
  simp only [Std.Legacy.Range.forIn_eq_forIn_range', Std.Legacy.Range.size]
  simp [List.range'_succ, part3, run_equalIn_int, Try.underlying3, Sem.run_bind, Sem.run_ite]
  by_cases h0 : v0 = 0 <;> by_cases h1 : v1 = 0 <;> by_cases h2 : v2 = 0 <;> by_cases h3 : v3 = 0 <;> by_cases h4 : v4 = 0 <;> by_cases h5 : v5 = 0 <;> simp [h0, h1, h2, h3, h4, h5]

/-- what faults hands back -/
def FaultsPost (n : Nat) (v : List Nat) (w : World) (e : Ending) (w' : World) : Prop :=
  (∃ (l : List (Nat × Nat)) (o : Option Addr) (c : Nat), e = .returned (.tuple #[.slice o l.length c, .bool true]) ∧ (l = [] ∨ ∃ b, o = some ⟨b, 0, none⟩ ∧ w.heap.size ≤ b ∧ Blk w' b 131 (fcs l)) ∧ Rad.Sol n v l) ∨
  (e = .returned (.tuple #[.slice none 0 0, .bool false]) ∧ ∀ l, ¬ Rad.Sol n v l)

theorem zeros_getD : ∀ j, j < 6 → ([0, 0, 0, 0, 0, 0] : List Nat).getD j 0 = 0 := by decide
theorem sol_zero (n : Nat) : Rad.Sol n [0, 0, 0, 0, 0, 0] [] where
  good := fun _ hp => absurd hp List.not_mem_nil
  nz := fun _ hp => absurd hp List.not_mem_nil
  nodup := List.nodup_nil
  two := Nat.zero_le _
  syns := fun j hj => (zeros_getD j hj).symm ▸ rfl

set_option maxRecDepth 100000 in
theorem faults90_zero (n : Nat) (w : World) :
    Calls Try.prog 90 #[.int .i64 n, .agg #[.int .i64 0, .int .i64 0, .int .i64 0, .int .i64 0, .int .i64 0, .int .i64 0]] w fun e w' => FaultsPost n [0, 0, 0, 0, 0, 0] w e w' ∧ Onl non w w' := by
  have he := fun wx : World => eql128 wx 0 0 0 0 0 0
  simp only [beq_self_eq_true, Bool.and_self] at he
  have hsol := sol_zero n
  have HS := Lib.hid hsol
  clear hsol
  go_enter Try.func90, Try.ntmps90
  go_wp2
  go_ret2
  exact ⟨.inl ⟨[], none, 0, rfl, .inl rfl, HS.out⟩, (Onl.refl _ _).alloc _⟩

set_option maxRecDepth 100000 in
set_option maxHeartbeats 1000000 in
theorem faults90_nz (n v0 v1 v2 v3 v4 v5 : Nat) (w : World) (hn : n < 256) (hv : Rad.Bytes [v0, v1, v2, v3, v4, v5]) (hz : ∃ j, j < 6 ∧ [v0, v1, v2, v3, v4, v5].getD j 0 ≠ 0) :
    Calls Try.prog 90 #[.int .i64 n, .agg #[.int .i64 v0, .int .i64 v1, .int .i64 v2, .int .i64 v3, .int .i64 v4, .int .i64 v5]] w fun e w' => FaultsPost n [v0, v1, v2, v3, v4, v5] w e w' ∧ Onl non w w' := by
  have he := fun wx : World => eql128 wx v0 v1 v2 v3 v4 v5
  have hb : ((v0 : Int) == 0 && (v1 : Int) == 0 && (v2 : Int) == 0 && (v3 : Int) == 0 && (v4 : Int) == 0 && (v5 : Int) == 0) = false := by
    rw [Bool.eq_false_iff]
    intro h
    simp only [Bool.and_eq_true, beq_iff_eq] at h
    obtain ⟨⟨⟨⟨⟨h0, h1⟩, h2⟩, h3⟩, h4⟩, h5⟩ := h
    obtain ⟨j, hj, hne⟩ := hz
    obtain rfl : v0 = 0 := by omega
    obtain rfl : v1 = 0 := by omega
    obtain rfl : v2 = 0 := by omega
    obtain rfl : v3 = 0 := by omega
    obtain rfl : v4 = 0 := by omega
    obtain rfl : v5 = 0 := by omega
    exact hne (zeros_getD j hj)
  rw [hb] at he
  clear hb
  have l0 : v0 < 256 := hv v0 (by simp)
  have l1 : v1 < 256 := hv v1 (by simp)
  obtain ⟨v, hvv⟩ : ∃ v, v = [v0, v1, v2, v3, v4, v5] := ⟨_, rfl⟩
  have HV := Lib.hid hv
  have HZ := Lib.hid hz
  have g0 : Hid (v.getD 0 0 = v0) := Lib.hid (by rw [hvv]; rfl)
  have g1 : Hid (v.getD 1 0 = v1) := Lib.hid (by rw [hvv]; rfl)
  rw [← hvv] at HV HZ ⊢
  have HVV := Lib.hid hvv
  clear hvv hv hz
  go_enter Try.func90, Try.ntmps90
  go_wp2_with fail
  refine (newField146 _).mono ?_
  rintro e w1 ⟨tb, rfl, ht1, ht2, ht3⟩
  have HB0 := Lib.hid ht2
  have HX0 : Hid (Blk w1 w.heap.size 128 (is [v0, v1, v2, v3, v4, v5])) := Lib.hid ((Blk.new w 128 _).onl ht3 (fun h => h))
  have HO0 : Hid (Onl non w w1) := Lib.hid (((Onl.refl non w).alloc _).trans ht3 (fun _ _ h => h))
  clear ht1 ht2 ht3 he
  go_wp2
  go_loopw [21] (fun x wr => ∃ i : Nat, i ≤ n ∧ x = .int .i64 i ∧ Hid (Blk wr tb 183 (is Rad.tab)) ∧ Hid (Blk wr w.heap.size 128 (is [v0, v1, v2, v3, v4, v5])) ∧ Hid (Onl non w wr) ∧ Hid (∀ i', i' < i → ¬ Rad.test1 n v i')) (fun x _ => n - (intOf x).toNat)
  case atStart => exact ⟨0, by omega, rfl, HB0, HX0, HO0, Lib.hid (fun i' h => absurd h (by omega))⟩
  case round =>
    clear HB0 HX0 HO0
    obtain ⟨wo, rfl⟩ : ∃ wo : World, wo = wr := ⟨_, rfl⟩
    obtain ⟨i, hi, rfl, HB, HX, HO, HT⟩ := hrel
    by_cases hlt : i < n
    · have hd6 : decide ((i : Int) < (n : Int)) = true := decide_eq_true (by omega)
      have hc0 : wo.cell? ⟨w.heap.size, 0, none⟩ = some (.int .i64 (v0 : Int)) := HX.out.cell' rfl
      have hc1 : wo.cell? ⟨w.heap.size, 1, none⟩ = some (.int .i64 (v1 : Int)) := HX.out.cell' rfl
      have hc2 : wo.cell? ⟨w.heap.size, 2, none⟩ = some (.int .i64 (v2 : Int)) := HX.out.cell' rfl
      have hc3 : wo.cell? ⟨w.heap.size, 3, none⟩ = some (.int .i64 (v3 : Int)) := HX.out.cell' rfl
      have hc4 : wo.cell? ⟨w.heap.size, 4, none⟩ = some (.int .i64 (v4 : Int)) := HX.out.cell' rfl
      have hc5 : wo.cell? ⟨w.heap.size, 5, none⟩ = some (.int .i64 (v5 : Int)) := HX.out.cell' rfl
      have hlw : w.heap.size < wo.heap.size := HX.out.lt
      by_cases hz0 : v0 = 0
      · have hb : ((v0 : Int) != 0) = false := eq_bne (b := 0) hz0
        have HZ0 := Lib.hid hz0
        clear hz0
        go_wp2
        go_roundw
        case rel =>
          refine ⟨i + 1, by omega, by go_num, Lib.hid (HB.out.alloc _), Lib.hid (HX.out.alloc _), Lib.hid (HO.out.alloc _), Lib.hid ?_⟩
          intro i' hi' ht
          exact ht.1 (g0.out.trans HZ0.out)
        case measure => simp [intOf]; omega
      · have hb : ((v0 : Int) != 0) = true := ne_bne (b := 0) hz0
        have HZ0 := Lib.hid hz0
        clear hz0
        go_wp2_with fail
        refine (explains147 tb wo.heap.size 1 1 n v0 v1 v2 v3 v4 v5 [(i, v0)] 131 _ (by omega) rfl (by omega) (fun p hp => by simp at hp; subst hp; exact ⟨hlt, l0⟩) (HB.out.alloc _) (Blk.new wo 131 (fcs [(i, v0)]))).mono ?_
        rintro e w2 ⟨rfl, h2⟩
        have HB2 : Hid (Blk w2 tb 183 (is Rad.tab)) := Lib.hid ((HB.out.alloc _).onl h2 (fun h => h))
        have HX2 : Hid (Blk w2 w.heap.size 128 (is [v0, v1, v2, v3, v4, v5])) := Lib.hid ((HX.out.alloc _).onl h2 (fun h => h))
        have HO2 : Hid (Onl non w w2) := Lib.hid ((HO.out.alloc _).trans h2 (fun _ _ h => h))
        have HL2 : Hid (Blk w2 wo.heap.size 131 (fcs [(i, v0)])) := Lib.hid ((Blk.new wo 131 (fcs [(i, v0)])).onl h2 (fun h => h))
        have hsz : w.heap.size ≤ wo.heap.size := by omega
        clear h2 hc0 hc1 hc2 hc3 hc4 hc5 hlw HB HX HO
        cases hex : expl (pairsOf n [(i, v0)]) [v0, v1, v2, v3, v4, v5] with
        | true =>
          have HE := Lib.hid hex
          clear hex
          go_wp2
          go_ret2
          have ht : Rad.test1 n v i := ⟨by rw [g0.out]; exact HZ0.out, by rw [g0.out, HVV.out]; exact HE.out⟩
          have hs := Rad.sol_of_test1 hlt HV.out ht
          rw [g0.out] at hs
          exact ⟨.inl ⟨[(i, v0)], _, _, rfl, .inr ⟨wo.heap.size, rfl, hsz, HL2.out⟩, hs⟩, HO2.out⟩
        | false =>
          have HE := Lib.hid hex
          clear hex
          go_wp2
          go_roundw
          case rel =>
            refine ⟨i + 1, by omega, by go_num, HB2, HX2, HO2, Lib.hid ?_⟩
            intro i' hi' ht
            by_cases hii : i' = i
            · subst hii
              have := ht.2
              rw [g0.out, HVV.out, HE.out] at this
              cases this
            · exact HT.out i' (by omega) ht
          case measure => simp [intOf]; omega
    · have HT1 : Hid (∀ i', i' < n → ¬ Rad.test1 n v i') := Lib.hid (fun i' h => HT.out i' (by omega))
      clear HT
      go_wp2
      go_loopw [42] (fun x wr => ∃ i : Nat, i ≤ n ∧ x = .int .i64 i ∧ Hid (Blk wr tb 183 (is Rad.tab)) ∧ Hid (Blk wr w.heap.size 128 (is [v0, v1, v2, v3, v4, v5])) ∧ Hid (Onl non w wr) ∧ Hid (∀ i', i' < i → ∀ k, k < i' → ¬ Rad.test2 n v i' k)) (fun x _ => n - (intOf x).toNat)
      case atStart => exact ⟨0, by omega, rfl, HB, HX, HO, Lib.hid (fun i' h => absurd h (by omega))⟩
      case round =>
        clear HB HX HO hlt hi
        obtain ⟨wo2, rfl⟩ : ∃ wo2 : World, wo2 = wr := ⟨_, rfl⟩
        obtain ⟨i, hi, rfl, HB, HX, HO, HT⟩ := hrel
        by_cases hlt : i < n
        · have hd6 : decide ((i : Int) < (n : Int)) = true := decide_eq_true (by omega)
          go_wp2
          go_loopw [46] (fun x wr => ∃ k : Nat, k ≤ i ∧ x = .int .i64 k ∧ Hid (Blk wr tb 183 (is Rad.tab)) ∧ Hid (Blk wr w.heap.size 128 (is [v0, v1, v2, v3, v4, v5])) ∧ Hid (Onl non w wr) ∧ Hid (∀ k', k' < k → ¬ Rad.test2 n v i k')) (fun x _ => i - (intOf x).toNat)
          case atStart => exact ⟨0, by omega, rfl, HB, HX, HO, Lib.hid (fun i' h => absurd h (by omega))⟩
          case round =>
            clear HB HX HO
            obtain ⟨k, hk, rfl, HB, HX, HO, HK⟩ := hrel
            by_cases hlk : k < i
            · have hdk : decide ((k : Int) < (i : Int)) = true := decide_eq_true (by omega)
              have hc0 : wr.cell? ⟨w.heap.size, 0, none⟩ = some (.int .i64 (v0 : Int)) := HX.out.cell' rfl
              have hc1 : wr.cell? ⟨w.heap.size, 1, none⟩ = some (.int .i64 (v1 : Int)) := HX.out.cell' rfl
              have hc2 : wr.cell? ⟨w.heap.size, 2, none⟩ = some (.int .i64 (v2 : Int)) := HX.out.cell' rfl
              have hc3 : wr.cell? ⟨w.heap.size, 3, none⟩ = some (.int .i64 (v3 : Int)) := HX.out.cell' rfl
              have hc4 : wr.cell? ⟨w.heap.size, 4, none⟩ = some (.int .i64 (v4 : Int)) := HX.out.cell' rfl
              have hc5 : wr.cell? ⟨w.heap.size, 5, none⟩ = some (.int .i64 (v5 : Int)) := HX.out.cell' rfl
              have hlw : w.heap.size < wr.heap.size := HX.out.lt
              obtain ⟨di, hdi⟩ : ∃ d, d = n - 1 - i := ⟨_, rfl⟩
              obtain ⟨dk, hdk'⟩ : ∃ d, d = n - 1 - k := ⟨_, rfl⟩
              have e1 : IntKind.i64.wrap ((n : Int) - 1) = (n : Int) - 1 := IntWalk.i64_in _ (by omega)
              have e2 : IntKind.i64.wrap ((n : Int) - 1 - (i : Int)) = (di : Int) := by rw [IntWalk.i64_in _ (by omega)]; omega
              have e3 : IntKind.i64.wrap ((n : Int) - 1 - (k : Int)) = (dk : Int) := by rw [IntWalk.i64_in _ (by omega)]; omega
              have bi : di < 255 := by omega
              have bk : dk < 255 := by omega
              have hxi := HB.out.cell' (i := di) (is_get (get_getD (by rw [Rad.tab_length]; omega)))
              have hxk := HB.out.cell' (i := dk) (is_get (get_getD (by rw [Rad.tab_length]; omega)))
              rw [Rad.tab_exp bi] at hxi
              rw [Rad.tab_exp bk] at hxk
              have hx := Rad.gpow_two_lt di
              have hy := Rad.gpow_two_lt dk
              have hxy := Rad.xor_lt hx hy
              have hm0 := Rad.gm_lt l0 (Rad.gpow 2 di)
              have hnum := Rad.xor_lt l1 hm0
              have hne : 0 < Rad.gpow 2 di ^^^ Rad.gpow 2 dk := Nat.pos_of_ne_zero (by rw [hdi, hdk']; exact Rad.xor_ne (Rad.gpow_ne (by omega) hlt (by omega) (by omega)))
              have hot : Rad.other n v0 v1 i k = Rad.gm (v1 ^^^ Rad.gm v0 (Rad.gpow 2 di)) (Rad.ginv (Rad.gpow 2 di ^^^ Rad.gpow 2 dk)) := by rw [hdi, hdk']; rfl
              have hol := Rad.other_lt (n := n) (i := i) (k := k) l0 l1
              rw [hot] at hol
              have X1 := Lib.hid (bxor v1 (Rad.gm v0 (Rad.gpow 2 di)) (by omega) (by omega))
              have X2 := Lib.hid (bxor (Rad.gpow 2 di) (Rad.gpow 2 dk) (by omega) (by omega))
              have X3 := Lib.hid (bxor v0 (Rad.gm (v1 ^^^ Rad.gm v0 (Rad.gpow 2 di)) (Rad.ginv (Rad.gpow 2 di ^^^ Rad.gpow 2 dk))) (by omega) (by omega))
              have HOT := Lib.hid hot
              have E1 := Lib.hid e1
              have E2 := Lib.hid e2
              have E3 := Lib.hid e3
              clear hot e1 e2 e3 hdi hdk'
              go_wp2
              have e1 := E1.out
              have e2 := E2.out
              have e3 := E3.out
              go_quiet (fail)
              clear e1 e2 e3
              obtain ⟨wq, hq⟩ : ∃ wq, wq = wr.drewN nq := ⟨_, rfl⟩
              rw [← hq]
              have hD : Drw wr wq := ⟨nq, hq⟩
              clear hq
              clear hc0 hc1 hc2 hc3 hc4 hc5 hlw hxi hxk
              have HBq : Hid (Blk wq tb 183 (is Rad.tab)) := Lib.hid (HB.out.drw hD)
              have HXq : Hid (Blk wq w.heap.size 128 (is [v0, v1, v2, v3, v4, v5])) := Lib.hid (HX.out.drw hD)
              have HOq : Hid (Onl non w wq) := Lib.hid (HO.out.of_drw hD)
              clear HB HX HO hD
              have HB := HBq
              have HX := HXq
              have HO := HOq
              clear HBq HXq HOq
              have hc0 : wq.cell? ⟨w.heap.size, 0, none⟩ = some (.int .i64 (v0 : Int)) := HX.out.cell' rfl
              have hc1 : wq.cell? ⟨w.heap.size, 1, none⟩ = some (.int .i64 (v1 : Int)) := HX.out.cell' rfl
              have hc2 : wq.cell? ⟨w.heap.size, 2, none⟩ = some (.int .i64 (v2 : Int)) := HX.out.cell' rfl
              have hc3 : wq.cell? ⟨w.heap.size, 3, none⟩ = some (.int .i64 (v3 : Int)) := HX.out.cell' rfl
              have hc4 : wq.cell? ⟨w.heap.size, 4, none⟩ = some (.int .i64 (v4 : Int)) := HX.out.cell' rfl
              have hc5 : wq.cell? ⟨w.heap.size, 5, none⟩ = some (.int .i64 (v5 : Int)) := HX.out.cell' rfl
              have hlw : w.heap.size < wq.heap.size := HX.out.lt
              have x1 := X1.out
              have x2 := X2.out
              go_wp2
              go_quiet ((first | (go_at_call 95; exact qsame (times95 v0 _ _ (by omega) (by omega))) | (go_at_call 148; exact qdrw (over148 _ _ tb _ hnum hxy hne HB.out))))
              clear x1 x2
              obtain ⟨wz, hq⟩ : ∃ wz, wz = wq.drewN nq := ⟨_, rfl⟩
              rw [← hq]
              have hD : Drw wq wz := ⟨nq, hq⟩
              clear hq
              clear hc0 hc1 hc2 hc3 hc4 hc5 hlw
              have HBq : Hid (Blk wz tb 183 (is Rad.tab)) := Lib.hid (HB.out.drw hD)
              have HXq : Hid (Blk wz w.heap.size 128 (is [v0, v1, v2, v3, v4, v5])) := Lib.hid (HX.out.drw hD)
              have HOq : Hid (Onl non w wz) := Lib.hid (HO.out.of_drw hD)
              clear HB HX HO hD
              have HB := HBq
              have HX := HXq
              have HO := HOq
              clear HBq HXq HOq
              have hc0 : wz.cell? ⟨w.heap.size, 0, none⟩ = some (.int .i64 (v0 : Int)) := HX.out.cell' rfl
              have hc1 : wz.cell? ⟨w.heap.size, 1, none⟩ = some (.int .i64 (v1 : Int)) := HX.out.cell' rfl
              have hc2 : wz.cell? ⟨w.heap.size, 2, none⟩ = some (.int .i64 (v2 : Int)) := HX.out.cell' rfl
              have hc3 : wz.cell? ⟨w.heap.size, 3, none⟩ = some (.int .i64 (v3 : Int)) := HX.out.cell' rfl
              have hc4 : wz.cell? ⟨w.heap.size, 4, none⟩ = some (.int .i64 (v4 : Int)) := HX.out.cell' rfl
              have hc5 : wz.cell? ⟨w.heap.size, 5, none⟩ = some (.int .i64 (v5 : Int)) := HX.out.cell' rfl
              have hlw : w.heap.size < wz.heap.size := HX.out.lt
              have x3 := X3.out
              obtain ⟨b, hb⟩ : ∃ b, b = Rad.gm (v1 ^^^ Rad.gm v0 (Rad.gpow 2 di)) (Rad.ginv (Rad.gpow 2 di ^^^ Rad.gpow 2 dk)) := ⟨_, rfl⟩
              rw [← hb] at x3 HOT hol ⊢
              obtain ⟨a, ha⟩ : ∃ a, a = v0 ^^^ b := ⟨_, rfl⟩
              have hal : a < 256 := by rw [ha]; exact Rad.xor_lt l0 hol
              rw [← ha] at x3
              have HA := Lib.hid ha
              clear ha hb
              have T2 : Hid (Rad.test2 n v i k ↔ a ≠ 0 ∧ b ≠ 0 ∧ expl (pairsOf n [(i, a), (k, b)]) [v0, v1, v2, v3, v4, v5] = true) := Lib.hid (by
                unfold Rad.test2
                rw [g0.out, g1.out, HOT.out, ← HA.out, HVV.out])
              have T3 : Hid (Rad.test2 n v i k → Rad.Sol n v [(i, a), (k, b)]) := Lib.hid (by
                intro h
                have := Rad.sol_of_test2 hlt hlk HV.out h
                rwa [g0.out, g1.out, HOT.out, ← HA.out] at this)
              clear hx hy hxy hm0 hnum hne X1 X2 X3 E1 E2 E3 HOT
              by_cases ha0 : a = 0
              · have hb1 : ((a : Int) != 0) = false := eq_bne (b := 0) ha0
                have HA0 := Lib.hid ha0
                clear ha0
                go_wp2
                go_roundw
                case rel =>
                  refine ⟨k + 1, by omega, by go_num, Lib.hid (HB.out.alloc _), Lib.hid (HX.out.alloc _), Lib.hid (HO.out.alloc _), Lib.hid ?_⟩
                  intro k' hk' ht
                  by_cases hkk : k' = k
                  · subst hkk; exact (T2.out.1 ht).1 HA0.out
                  · exact HK.out k' (by omega) ht
                case measure => simp [intOf]; omega
              · have hb1 : ((a : Int) != 0) = true := ne_bne (b := 0) ha0
                have HA0 := Lib.hid ha0
                clear ha0
                by_cases hb0 : b = 0
                · have hb2 : ((b : Int) != 0) = false := eq_bne (b := 0) hb0
                  have HB0 := Lib.hid hb0
                  clear hb0
                  go_wp2
                  go_roundw
                  case rel =>
                    refine ⟨k + 1, by omega, by go_num, Lib.hid (HB.out.alloc _), Lib.hid (HX.out.alloc _), Lib.hid (HO.out.alloc _), Lib.hid ?_⟩
                    intro k' hk' ht
                    by_cases hkk : k' = k
                    · subst hkk; exact (T2.out.1 ht).2.1 HB0.out
                    · exact HK.out k' (by omega) ht
                  case measure => simp [intOf]; omega
                · have hb2 : ((b : Int) != 0) = true := ne_bne (b := 0) hb0
                  have HB0 := Lib.hid hb0
                  clear hb0
                  go_wp2_with fail
                  refine (explains147 tb wz.heap.size 2 2 n v0 v1 v2 v3 v4 v5 [(i, a), (k, b)] 131 _ (by omega) rfl (by omega) (fun p hp => by simp at hp; rcases hp with rfl | rfl; exact ⟨hlt, hal⟩; exact ⟨Nat.lt_trans hlk hlt, hol⟩) (HB.out.alloc _) (Blk.new wz 131 (fcs [(i, a), (k, b)]))).mono ?_
                  rintro e w2 ⟨rfl, h2⟩
                  have HB2 : Hid (Blk w2 tb 183 (is Rad.tab)) := Lib.hid ((HB.out.alloc _).onl h2 (fun h => h))
                  have HX2 : Hid (Blk w2 w.heap.size 128 (is [v0, v1, v2, v3, v4, v5])) := Lib.hid ((HX.out.alloc _).onl h2 (fun h => h))
                  have HO2 : Hid (Onl non w w2) := Lib.hid ((HO.out.alloc _).trans h2 (fun _ _ h => h))
                  have HL2 : Hid (Blk w2 wz.heap.size 131 (fcs [(i, a), (k, b)])) := Lib.hid ((Blk.new wz 131 (fcs [(i, a), (k, b)])).onl h2 (fun h => h))
                  have hsz : w.heap.size ≤ wz.heap.size := by omega
                  clear h2 hc0 hc1 hc2 hc3 hc4 hc5 hlw HB HX HO
                  cases hex : expl (pairsOf n [(i, a), (k, b)]) [v0, v1, v2, v3, v4, v5] with
                  | true =>
                    have HE := Lib.hid hex
                    clear hex
                    go_wp2
                    go_ret2
                    have hs := T3.out (T2.out.2 ⟨HA0.out, HB0.out, HE.out⟩)
                    exact ⟨.inl ⟨[(i, a), (k, b)], _, _, rfl, .inr ⟨wz.heap.size, rfl, hsz, HL2.out⟩, hs⟩, HO2.out⟩
                  | false =>
                    have HE := Lib.hid hex
                    clear hex
                    go_wp2
                    go_roundw
                    case rel =>
                      refine ⟨k + 1, by omega, by go_num, HB2, HX2, HO2, Lib.hid ?_⟩
                      intro k' hk' ht
                      by_cases hkk : k' = k
                      · subst hkk
                        have := (T2.out.1 ht).2.2
                        rw [HE.out] at this
                        cases this
                      · exact HK.out k' (by omega) ht
                    case measure => simp [intOf]; omega
            · have HK2 : Hid (∀ k', k' < i → ¬ Rad.test2 n v i k') := Lib.hid (fun k' h => HK.out k' (by omega))
              clear HK
              go_wp2
              go_roundw
              case rel =>
                refine ⟨i + 1, by omega, by go_num, HB, HX, HO, Lib.hid ?_⟩
                intro i' hi' k' hk'
                by_cases hii : i' = i
                · subst hii; exact HK2.out k' hk'
                · exact HT.out i' (by omega) k' hk'
              case measure => simp [intOf]; omega
        · have hno := Rad.sol_none (v := v) (n := n) (by omega) HZ.out HT1.out (fun i' h => HT.out i' (by omega))
          have HNO := Lib.hid hno
          clear hno
          go_wp2
          go_ret2
          exact ⟨.inr ⟨rfl, HNO.out⟩, HO.out⟩
end Go.Proofs.Ytenngchidlfaeaa
/- CheckFrame and CheckEntry, of the program and of the reference, walked. -/
namespace Go.Proofs.Ytenngchidlfaeaa
open Go.RowKit
set_option linter.unusedVariables false

/-- a valid frame -/
def OkF (o n p q : Int) (m : Nat) : Prop := (0 ≤ o ∧ o < 8) ∧ (0 ≤ n ∧ n < 64) ∧ (1 ≤ q ∧ q ≤ 32) ∧ (0 ≤ p ∧ p < q) ∧ m ≤ 32 ∧ (p < q - 1 → m = 32) ∧ (1 < q → 0 < m)
/-- a valid message -/
def OkE (o n : Int) (m : Nat) : Prop := (0 ≤ o ∧ o < 8) ∧ (0 ≤ n ∧ n < 64) ∧ m ≤ 1024

set_option maxRecDepth 100000 in
theorem cf1 (o n p q : Int) (s : ByteArray) (w : World) (hs : s.size ≤ 9223372036854775807) (ho : o < 0 ∨ 8 ≤ o) : Calls Try.prog 22 #[.agg #[.int .i64 o, .int .i64 n, .int .i64 p, .int .i64 q, .string s]] w fun e w' => e = .returned (.int .i64 90) ∧ Onl non w w' := by
  go_enter Try.func22, Try.ntmps22
  go_wp2_with (first | (go_at_call 93; refine (within_t _ _ _ (by omega) (by omega)).mono ?_; rintro e w' ⟨rfl, rfl⟩) | (go_at_call 93; refine (within_f _ _ _ (by omega)).mono ?_; rintro e w' ⟨rfl, rfl⟩))
  go_ret
  exact ⟨rfl, (Onl.refl non w).alloc _⟩

set_option maxRecDepth 100000 in
theorem cf2 (o n p q : Int) (s : ByteArray) (w : World) (hs : s.size ≤ 9223372036854775807) (ho : 0 ≤ o) (ho2 : o < 8) (hn : n < 0 ∨ 64 ≤ n) : Calls Try.prog 22 #[.agg #[.int .i64 o, .int .i64 n, .int .i64 p, .int .i64 q, .string s]] w fun e w' => e = .returned (.int .i64 90) ∧ Onl non w w' := by
  go_enter Try.func22, Try.ntmps22
  go_wp2_with (first | (go_at_call 93; refine (within_t _ _ _ (by omega) (by omega)).mono ?_; rintro e w' ⟨rfl, rfl⟩) | (go_at_call 93; refine (within_f _ _ _ (by omega)).mono ?_; rintro e w' ⟨rfl, rfl⟩))
  go_ret
  exact ⟨rfl, (Onl.refl non w).alloc _⟩

set_option maxRecDepth 100000 in
theorem cf3 (o n p q : Int) (s : ByteArray) (w : World) (hs : s.size ≤ 9223372036854775807) (ho : 0 ≤ o) (ho2 : o < 8) (hn : 0 ≤ n) (hn2 : n < 64) (hq : q < 1) : Calls Try.prog 22 #[.agg #[.int .i64 o, .int .i64 n, .int .i64 p, .int .i64 q, .string s]] w fun e w' => e = .returned (.int .i64 90) ∧ Onl non w w' := by
  go_enter Try.func22, Try.ntmps22
  go_wp2_with (first | (go_at_call 93; refine (within_t _ _ _ (by omega) (by omega)).mono ?_; rintro e w' ⟨rfl, rfl⟩) | (go_at_call 93; refine (within_f _ _ _ (by omega)).mono ?_; rintro e w' ⟨rfl, rfl⟩))
  go_ret
  exact ⟨rfl, (Onl.refl non w).alloc _⟩

set_option maxRecDepth 100000 in
theorem cf4 (o n p q : Int) (s : ByteArray) (w : World) (hs : s.size ≤ 9223372036854775807) (ho : 0 ≤ o) (ho2 : o < 8) (hn : 0 ≤ n) (hn2 : n < 64) (hq : 1 ≤ q) (hq2 : 32 < q) : Calls Try.prog 22 #[.agg #[.int .i64 o, .int .i64 n, .int .i64 p, .int .i64 q, .string s]] w fun e w' => e = .returned (.int .i64 90) ∧ Onl non w w' := by
  go_enter Try.func22, Try.ntmps22
  go_wp2_with (first | (go_at_call 93; refine (within_t _ _ _ (by omega) (by omega)).mono ?_; rintro e w' ⟨rfl, rfl⟩) | (go_at_call 93; refine (within_f _ _ _ (by omega)).mono ?_; rintro e w' ⟨rfl, rfl⟩))
  go_ret
  exact ⟨rfl, (Onl.refl non w).alloc _⟩

set_option maxRecDepth 100000 in
theorem cf5 (o n p q : Int) (s : ByteArray) (w : World) (hs : s.size ≤ 9223372036854775807) (ho : 0 ≤ o) (ho2 : o < 8) (hn : 0 ≤ n) (hn2 : n < 64) (hq : 1 ≤ q) (hq2 : q ≤ 32) (hp : p < 0 ∨ q ≤ p) : Calls Try.prog 22 #[.agg #[.int .i64 o, .int .i64 n, .int .i64 p, .int .i64 q, .string s]] w fun e w' => e = .returned (.int .i64 90) ∧ Onl non w w' := by
  go_enter Try.func22, Try.ntmps22
  go_wp2_with (first | (go_at_call 93; refine (within_t _ _ _ (by omega) (by omega)).mono ?_; rintro e w' ⟨rfl, rfl⟩) | (go_at_call 93; refine (within_f _ _ _ (by omega)).mono ?_; rintro e w' ⟨rfl, rfl⟩))
  go_ret
  exact ⟨rfl, (Onl.refl non w).alloc _⟩

set_option maxRecDepth 100000 in
theorem cf6a (o n p q : Int) (s : ByteArray) (w : World) (hs : s.size ≤ 9223372036854775807) (ho : 0 ≤ o) (ho2 : o < 8) (hn : 0 ≤ n) (hn2 : n < 64) (hq : 1 ≤ q) (hq2 : q ≤ 32) (hp : 0 ≤ p) (hp2 : p < q) (hm : 32 < s.size) (hl : p = q - 1) : Calls Try.prog 22 #[.agg #[.int .i64 o, .int .i64 n, .int .i64 p, .int .i64 q, .string s]] w fun e w' => e = .returned (.int .i64 90) ∧ Onl non w w' := by
  have hd : (p == q - 1) = true := by rw [beq_iff_eq]; omega
  clear hl
  go_enter Try.func22, Try.ntmps22
  go_wp2_with (first | (go_at_call 93; refine (within_t _ _ _ (by omega) (by omega)).mono ?_; rintro e w' ⟨rfl, rfl⟩) | (go_at_call 93; refine (within_f _ _ _ (by omega)).mono ?_; rintro e w' ⟨rfl, rfl⟩))
  go_ret
  exact ⟨rfl, (Onl.refl non w).alloc _⟩

set_option maxRecDepth 100000 in
theorem cf6b (o n p q : Int) (s : ByteArray) (w : World) (hs : s.size ≤ 9223372036854775807) (ho : 0 ≤ o) (ho2 : o < 8) (hn : 0 ≤ n) (hn2 : n < 64) (hq : 1 ≤ q) (hq2 : q ≤ 32) (hp : 0 ≤ p) (hp2 : p < q) (hm : 32 < s.size) (hl : p < q - 1) : Calls Try.prog 22 #[.agg #[.int .i64 o, .int .i64 n, .int .i64 p, .int .i64 q, .string s]] w fun e w' => e = .returned (.int .i64 90) ∧ Onl non w w' := by
  have hd : (p == q - 1) = false := by rw [beq_eq_false_iff_ne]; omega
  go_enter Try.func22, Try.ntmps22
  go_wp2_with (first | (go_at_call 93; refine (within_t _ _ _ (by omega) (by omega)).mono ?_; rintro e w' ⟨rfl, rfl⟩) | (go_at_call 93; refine (within_f _ _ _ (by omega)).mono ?_; rintro e w' ⟨rfl, rfl⟩))
  go_ret
  exact ⟨rfl, (Onl.refl non w).alloc _⟩

set_option maxRecDepth 100000 in
theorem cf7 (o n p q : Int) (s : ByteArray) (w : World) (hs : s.size ≤ 9223372036854775807) (ho : 0 ≤ o) (ho2 : o < 8) (hn : 0 ≤ n) (hn2 : n < 64) (hq : 1 ≤ q) (hq2 : q ≤ 32) (hp : 0 ≤ p) (hp2 : p < q) (hm : s.size < 32) (hl : p < q - 1) : Calls Try.prog 22 #[.agg #[.int .i64 o, .int .i64 n, .int .i64 p, .int .i64 q, .string s]] w fun e w' => e = .returned (.int .i64 90) ∧ Onl non w w' := by
  have hd : (p == q - 1) = false := by rw [beq_eq_false_iff_ne]; omega
  go_enter Try.func22, Try.ntmps22
  go_wp2_with (first | (go_at_call 93; refine (within_t _ _ _ (by omega) (by omega)).mono ?_; rintro e w' ⟨rfl, rfl⟩) | (go_at_call 93; refine (within_f _ _ _ (by omega)).mono ?_; rintro e w' ⟨rfl, rfl⟩))
  go_ret
  exact ⟨rfl, (Onl.refl non w).alloc _⟩

set_option maxRecDepth 100000 in
theorem cf8 (o n p q : Int) (s : ByteArray) (w : World) (hs : s.size ≤ 9223372036854775807) (ho : 0 ≤ o) (ho2 : o < 8) (hn : 0 ≤ n) (hn2 : n < 64) (hq : 1 ≤ q) (hq2 : q ≤ 32) (hp : 0 ≤ p) (hp2 : p < q) (hm : s.size = 0) (hl : p = q - 1) (hq3 : 1 < q) : Calls Try.prog 22 #[.agg #[.int .i64 o, .int .i64 n, .int .i64 p, .int .i64 q, .string s]] w fun e w' => e = .returned (.int .i64 90) ∧ Onl non w w' := by
  have hd : (p == q - 1) = true := by rw [beq_iff_eq]; omega
  have hz : ((s.size : Int) == 0) = true := by rw [beq_iff_eq]; omega
  have hm2 : s.size ≤ 32 := by omega
  clear hl hm
  go_enter Try.func22, Try.ntmps22
  go_wp2_with (first | (go_at_call 93; refine (within_t _ _ _ (by omega) (by omega)).mono ?_; rintro e w' ⟨rfl, rfl⟩) | (go_at_call 93; refine (within_f _ _ _ (by omega)).mono ?_; rintro e w' ⟨rfl, rfl⟩))
  go_ret
  exact ⟨rfl, (Onl.refl non w).alloc _⟩

set_option maxRecDepth 100000 in
theorem cf9 (o n p q : Int) (s : ByteArray) (w : World) (hs : s.size ≤ 9223372036854775807) (ho : 0 ≤ o) (ho2 : o < 8) (hn : 0 ≤ n) (hn2 : n < 64) (hq : 1 ≤ q) (hq2 : q ≤ 32) (hp : 0 ≤ p) (hp2 : p < q) (hm : s.size ≤ 32) (hm2 : 0 < s.size) (hl : p = q - 1) : Calls Try.prog 22 #[.agg #[.int .i64 o, .int .i64 n, .int .i64 p, .int .i64 q, .string s]] w fun e w' => e = .returned (.int .i64 0) ∧ Onl non w w' := by
  have hd : (p == q - 1) = true := by rw [beq_iff_eq]; omega
  have hz : ((s.size : Int) == 0) = false := by rw [beq_eq_false_iff_ne]; omega
  clear hl
  go_enter Try.func22, Try.ntmps22
  go_wp2_with (first | (go_at_call 93; refine (within_t _ _ _ (by omega) (by omega)).mono ?_; rintro e w' ⟨rfl, rfl⟩) | (go_at_call 93; refine (within_f _ _ _ (by omega)).mono ?_; rintro e w' ⟨rfl, rfl⟩))
  go_ret
  exact ⟨rfl, (Onl.refl non w).alloc _⟩

set_option maxRecDepth 100000 in
theorem cf10 (o n p q : Int) (s : ByteArray) (w : World) (hs : s.size ≤ 9223372036854775807) (ho : 0 ≤ o) (ho2 : o < 8) (hn : 0 ≤ n) (hn2 : n < 64) (hq : 1 ≤ q) (hq2 : q ≤ 32) (hp : 0 ≤ p) (hp2 : p < q) (hm : s.size = 0) (hl : p = q - 1) (hq3 : q ≤ 1) : Calls Try.prog 22 #[.agg #[.int .i64 o, .int .i64 n, .int .i64 p, .int .i64 q, .string s]] w fun e w' => e = .returned (.int .i64 0) ∧ Onl non w w' := by
  have hd : (p == q - 1) = true := by rw [beq_iff_eq]; omega
  have hz : ((s.size : Int) == 0) = true := by rw [beq_iff_eq]; omega
  have hm2 : s.size ≤ 32 := by omega
  clear hl hm
  go_enter Try.func22, Try.ntmps22
  go_wp2_with (first | (go_at_call 93; refine (within_t _ _ _ (by omega) (by omega)).mono ?_; rintro e w' ⟨rfl, rfl⟩) | (go_at_call 93; refine (within_f _ _ _ (by omega)).mono ?_; rintro e w' ⟨rfl, rfl⟩))
  go_ret
  exact ⟨rfl, (Onl.refl non w).alloc _⟩

set_option maxRecDepth 100000 in
theorem cf11 (o n p q : Int) (s : ByteArray) (w : World) (hs : s.size ≤ 9223372036854775807) (ho : 0 ≤ o) (ho2 : o < 8) (hn : 0 ≤ n) (hn2 : n < 64) (hq : 1 ≤ q) (hq2 : q ≤ 32) (hp : 0 ≤ p) (hp2 : p < q) (hm : s.size = 32) (hl : p < q - 1) : Calls Try.prog 22 #[.agg #[.int .i64 o, .int .i64 n, .int .i64 p, .int .i64 q, .string s]] w fun e w' => e = .returned (.int .i64 0) ∧ Onl non w w' := by
  have hd : (p == q - 1) = false := by rw [beq_eq_false_iff_ne]; omega
  have hz : ((s.size : Int) == 0) = false := by rw [beq_eq_false_iff_ne]; omega
  have hm2 : s.size ≤ 32 := by omega
  have hm3 : 32 ≤ s.size := by omega
  clear hm
  go_enter Try.func22, Try.ntmps22
  go_wp2_with (first | (go_at_call 93; refine (within_t _ _ _ (by omega) (by omega)).mono ?_; rintro e w' ⟨rfl, rfl⟩) | (go_at_call 93; refine (within_f _ _ _ (by omega)).mono ?_; rintro e w' ⟨rfl, rfl⟩))
  go_ret
  exact ⟨rfl, (Onl.refl non w).alloc _⟩

set_option maxRecDepth 100000 in
theorem rcf1 (o n p q : Int) (s : ByteArray) (w : World) (hs : s.size ≤ 9223372036854775807) (ho : o < 0 ∨ 8 ≤ o) : Calls Try.prog 23 #[.agg #[.int .i64 o, .int .i64 n, .int .i64 p, .int .i64 q, .string s]] w fun e w' => e = .returned (.int .i64 90) ∧ Onl non w w' := by
  go_enter Try.func23, Try.ntmps23
  go_wp2_with (first | (go_at_call 94; refine (rwithin_t _ _ _ _ (by omega) (by omega)).mono ?_; rintro e w' ⟨rfl, rfl⟩) | (go_at_call 94; refine (rwithin_f _ _ _ _ (by omega)).mono ?_; rintro e w' ⟨rfl, rfl⟩))
  go_ret
  exact ⟨rfl, (Onl.refl non w).alloc _⟩

set_option maxRecDepth 100000 in
theorem rcf2 (o n p q : Int) (s : ByteArray) (w : World) (hs : s.size ≤ 9223372036854775807) (ho : 0 ≤ o) (ho2 : o < 8) (hn : n < 0 ∨ 64 ≤ n) : Calls Try.prog 23 #[.agg #[.int .i64 o, .int .i64 n, .int .i64 p, .int .i64 q, .string s]] w fun e w' => e = .returned (.int .i64 90) ∧ Onl non w w' := by
  go_enter Try.func23, Try.ntmps23
  go_wp2_with (first | (go_at_call 94; refine (rwithin_t _ _ _ _ (by omega) (by omega)).mono ?_; rintro e w' ⟨rfl, rfl⟩) | (go_at_call 94; refine (rwithin_f _ _ _ _ (by omega)).mono ?_; rintro e w' ⟨rfl, rfl⟩))
  go_ret
  exact ⟨rfl, (Onl.refl non w).alloc _⟩

set_option maxRecDepth 100000 in
theorem rcf3 (o n p q : Int) (s : ByteArray) (w : World) (hs : s.size ≤ 9223372036854775807) (ho : 0 ≤ o) (ho2 : o < 8) (hn : 0 ≤ n) (hn2 : n < 64) (hq : q < 1 ∨ 32 < q) : Calls Try.prog 23 #[.agg #[.int .i64 o, .int .i64 n, .int .i64 p, .int .i64 q, .string s]] w fun e w' => e = .returned (.int .i64 90) ∧ Onl non w w' := by
  go_enter Try.func23, Try.ntmps23
  go_wp2_with (first | (go_at_call 94; refine (rwithin_t _ _ _ _ (by omega) (by omega)).mono ?_; rintro e w' ⟨rfl, rfl⟩) | (go_at_call 94; refine (rwithin_f _ _ _ _ (by omega)).mono ?_; rintro e w' ⟨rfl, rfl⟩))
  go_ret
  exact ⟨rfl, (Onl.refl non w).alloc _⟩

set_option maxRecDepth 100000 in
theorem rcf5 (o n p q : Int) (s : ByteArray) (w : World) (hs : s.size ≤ 9223372036854775807) (ho : 0 ≤ o) (ho2 : o < 8) (hn : 0 ≤ n) (hn2 : n < 64) (hq : 1 ≤ q) (hq2 : q ≤ 32) (hp : p < 0 ∨ q ≤ p) : Calls Try.prog 23 #[.agg #[.int .i64 o, .int .i64 n, .int .i64 p, .int .i64 q, .string s]] w fun e w' => e = .returned (.int .i64 90) ∧ Onl non w w' := by
  go_enter Try.func23, Try.ntmps23
  go_wp2_with (first | (go_at_call 94; refine (rwithin_t _ _ _ _ (by omega) (by omega)).mono ?_; rintro e w' ⟨rfl, rfl⟩) | (go_at_call 94; refine (rwithin_f _ _ _ _ (by omega)).mono ?_; rintro e w' ⟨rfl, rfl⟩))
  go_ret
  exact ⟨rfl, (Onl.refl non w).alloc _⟩

set_option maxRecDepth 100000 in
theorem rcf6a (o n p q : Int) (s : ByteArray) (w : World) (hs : s.size ≤ 9223372036854775807) (ho : 0 ≤ o) (ho2 : o < 8) (hn : 0 ≤ n) (hn2 : n < 64) (hq : 1 ≤ q) (hq2 : q ≤ 32) (hp : 0 ≤ p) (hp2 : p < q) (hm : 32 < s.size) (hl : p = q - 1) : Calls Try.prog 23 #[.agg #[.int .i64 o, .int .i64 n, .int .i64 p, .int .i64 q, .string s]] w fun e w' => e = .returned (.int .i64 90) ∧ Onl non w w' := by
  have hl2 : q - 1 ≤ p := by omega
  clear hl
  go_enter Try.func23, Try.ntmps23
  go_wp2_with (first | (go_at_call 94; refine (rwithin_t _ _ _ _ (by omega) (by omega)).mono ?_; rintro e w' ⟨rfl, rfl⟩) | (go_at_call 94; refine (rwithin_f _ _ _ _ (by omega)).mono ?_; rintro e w' ⟨rfl, rfl⟩))
  go_ret
  exact ⟨rfl, (Onl.refl non w).alloc _⟩

set_option maxRecDepth 100000 in
theorem rcf6b (o n p q : Int) (s : ByteArray) (w : World) (hs : s.size ≤ 9223372036854775807) (ho : 0 ≤ o) (ho2 : o < 8) (hn : 0 ≤ n) (hn2 : n < 64) (hq : 1 ≤ q) (hq2 : q ≤ 32) (hp : 0 ≤ p) (hp2 : p < q) (hm : s.size ≠ 32) (hl : p < q - 1) : Calls Try.prog 23 #[.agg #[.int .i64 o, .int .i64 n, .int .i64 p, .int .i64 q, .string s]] w fun e w' => e = .returned (.int .i64 90) ∧ Onl non w w' := by
  have hne : ((s.size : Int) != 32) = true := by rw [bne_iff_ne]; omega
  clear hm
  go_enter Try.func23, Try.ntmps23
  go_wp2_with (first | (go_at_call 94; refine (rwithin_t _ _ _ _ (by omega) (by omega)).mono ?_; rintro e w' ⟨rfl, rfl⟩) | (go_at_call 94; refine (rwithin_f _ _ _ _ (by omega)).mono ?_; rintro e w' ⟨rfl, rfl⟩))
  go_ret
  exact ⟨rfl, (Onl.refl non w).alloc _⟩

set_option maxRecDepth 100000 in
theorem rcf8 (o n p q : Int) (s : ByteArray) (w : World) (hs : s.size ≤ 9223372036854775807) (ho : 0 ≤ o) (ho2 : o < 8) (hn : 0 ≤ n) (hn2 : n < 64) (hq : 1 ≤ q) (hq2 : q ≤ 32) (hp : 0 ≤ p) (hp2 : p < q) (hm : s.size = 0) (hl : p = q - 1) (hq3 : 1 < q) : Calls Try.prog 23 #[.agg #[.int .i64 o, .int .i64 n, .int .i64 p, .int .i64 q, .string s]] w fun e w' => e = .returned (.int .i64 90) ∧ Onl non w w' := by
  have hz : ((s.size : Int) == 0) = true := by rw [beq_iff_eq]; omega
  have hm2 : s.size ≤ 32 := by omega
  have hl2 : q - 1 ≤ p := by omega
  clear hl hm
  go_enter Try.func23, Try.ntmps23
  go_wp2_with (first | (go_at_call 94; refine (rwithin_t _ _ _ _ (by omega) (by omega)).mono ?_; rintro e w' ⟨rfl, rfl⟩) | (go_at_call 94; refine (rwithin_f _ _ _ _ (by omega)).mono ?_; rintro e w' ⟨rfl, rfl⟩))
  go_ret
  exact ⟨rfl, (Onl.refl non w).alloc _⟩

set_option maxRecDepth 100000 in
theorem rcf9 (o n p q : Int) (s : ByteArray) (w : World) (hs : s.size ≤ 9223372036854775807) (ho : 0 ≤ o) (ho2 : o < 8) (hn : 0 ≤ n) (hn2 : n < 64) (hq : 1 ≤ q) (hq2 : q ≤ 32) (hp : 0 ≤ p) (hp2 : p < q) (hm : s.size ≤ 32) (hm2 : 0 < s.size) (hl : p = q - 1) : Calls Try.prog 23 #[.agg #[.int .i64 o, .int .i64 n, .int .i64 p, .int .i64 q, .string s]] w fun e w' => e = .returned (.int .i64 0) ∧ Onl non w w' := by
  have hz : ((s.size : Int) == 0) = false := by rw [beq_eq_false_iff_ne]; omega
  have hl2 : q - 1 ≤ p := by omega
  clear hl
  go_enter Try.func23, Try.ntmps23
  go_wp2_with (first | (go_at_call 94; refine (rwithin_t _ _ _ _ (by omega) (by omega)).mono ?_; rintro e w' ⟨rfl, rfl⟩) | (go_at_call 94; refine (rwithin_f _ _ _ _ (by omega)).mono ?_; rintro e w' ⟨rfl, rfl⟩))
  go_ret
  exact ⟨rfl, (Onl.refl non w).alloc _⟩

set_option maxRecDepth 100000 in
theorem rcf10 (o n p q : Int) (s : ByteArray) (w : World) (hs : s.size ≤ 9223372036854775807) (ho : 0 ≤ o) (ho2 : o < 8) (hn : 0 ≤ n) (hn2 : n < 64) (hq : 1 ≤ q) (hq2 : q ≤ 32) (hp : 0 ≤ p) (hp2 : p < q) (hm : s.size = 0) (hl : p = q - 1) (hq3 : q ≤ 1) : Calls Try.prog 23 #[.agg #[.int .i64 o, .int .i64 n, .int .i64 p, .int .i64 q, .string s]] w fun e w' => e = .returned (.int .i64 0) ∧ Onl non w w' := by
  have hz : ((s.size : Int) == 0) = true := by rw [beq_iff_eq]; omega
  have hm2 : s.size ≤ 32 := by omega
  have hl2 : q - 1 ≤ p := by omega
  clear hl hm
  go_enter Try.func23, Try.ntmps23
  go_wp2_with (first | (go_at_call 94; refine (rwithin_t _ _ _ _ (by omega) (by omega)).mono ?_; rintro e w' ⟨rfl, rfl⟩) | (go_at_call 94; refine (rwithin_f _ _ _ _ (by omega)).mono ?_; rintro e w' ⟨rfl, rfl⟩))
  go_ret
  exact ⟨rfl, (Onl.refl non w).alloc _⟩

set_option maxRecDepth 100000 in
theorem rcf11 (o n p q : Int) (s : ByteArray) (w : World) (hs : s.size ≤ 9223372036854775807) (ho : 0 ≤ o) (ho2 : o < 8) (hn : 0 ≤ n) (hn2 : n < 64) (hq : 1 ≤ q) (hq2 : q ≤ 32) (hp : 0 ≤ p) (hp2 : p < q) (hm : s.size = 32) (hl : p < q - 1) : Calls Try.prog 23 #[.agg #[.int .i64 o, .int .i64 n, .int .i64 p, .int .i64 q, .string s]] w fun e w' => e = .returned (.int .i64 0) ∧ Onl non w w' := by
  have hz : ((s.size : Int) == 0) = false := by rw [beq_eq_false_iff_ne]; omega
  have hne : ((s.size : Int) != 32) = false := by rw [bne_eq_false_iff_eq]; omega
  have hm2 : s.size ≤ 32 := by omega
  have hm3 : 32 ≤ s.size := by omega
  clear hm
  go_enter Try.func23, Try.ntmps23
  go_wp2_with (first | (go_at_call 94; refine (rwithin_t _ _ _ _ (by omega) (by omega)).mono ?_; rintro e w' ⟨rfl, rfl⟩) | (go_at_call 94; refine (rwithin_f _ _ _ _ (by omega)).mono ?_; rintro e w' ⟨rfl, rfl⟩))
  go_ret
  exact ⟨rfl, (Onl.refl non w).alloc _⟩

theorem CheckFrame_ok (o n p q : Int) (s : ByteArray) (w : World) (h : OkF o n p q s.size) : Calls Try.prog 22 #[.agg #[.int .i64 o, .int .i64 n, .int .i64 p, .int .i64 q, .string s]] w fun e w' => e = .returned (.int .i64 0) ∧ Onl non w w' := by
  obtain ⟨⟨h1, h2⟩, ⟨h3, h4⟩, ⟨h5, h6⟩, ⟨h7, h8⟩, h9, h10, h11⟩ := h
  by_cases hl : p = q - 1
  · by_cases hm : s.size = 0
    · exact cf10 o n p q s w (by omega) h1 h2 h3 h4 h5 h6 h7 h8 hm hl (by omega)
    · exact cf9 o n p q s w (by omega) h1 h2 h3 h4 h5 h6 h7 h8 h9 (by omega) hl
  · exact cf11 o n p q s w (by omega) h1 h2 h3 h4 h5 h6 h7 h8 (h10 (by omega)) (by omega)

theorem CheckFrame_no (o n p q : Int) (s : ByteArray) (w : World) (hs : s.size ≤ 9223372036854775807) (h : ¬ OkF o n p q s.size) : Calls Try.prog 22 #[.agg #[.int .i64 o, .int .i64 n, .int .i64 p, .int .i64 q, .string s]] w fun e w' => e = .returned (.int .i64 90) ∧ Onl non w w' := by
  by_cases h1 : 0 ≤ o ∧ o < 8
  · by_cases h2 : 0 ≤ n ∧ n < 64
    · by_cases h3 : 1 ≤ q
      · by_cases h4 : q ≤ 32
        · by_cases h5 : 0 ≤ p ∧ p < q
          · by_cases hl : p = q - 1
            · by_cases hm : 32 < s.size
              · exact cf6a o n p q s w hs h1.1 h1.2 h2.1 h2.2 h3 h4 h5.1 h5.2 hm hl
              · by_cases hz : s.size = 0 ∧ 1 < q
                · exact cf8 o n p q s w hs h1.1 h1.2 h2.1 h2.2 h3 h4 h5.1 h5.2 hz.1 hl hz.2
                · exact absurd ⟨h1, h2, ⟨h3, h4⟩, h5, by omega, by omega, by omega⟩ h
            · by_cases hm : s.size = 32
              · exact absurd ⟨h1, h2, ⟨h3, h4⟩, h5, by omega, by omega, by omega⟩ h
              · by_cases hm2 : 32 < s.size
                · exact cf6b o n p q s w hs h1.1 h1.2 h2.1 h2.2 h3 h4 h5.1 h5.2 hm2 (by omega)
                · exact cf7 o n p q s w hs h1.1 h1.2 h2.1 h2.2 h3 h4 h5.1 h5.2 (by omega) (by omega)
          · exact cf5 o n p q s w hs h1.1 h1.2 h2.1 h2.2 h3 h4 (by omega)
        · exact cf4 o n p q s w hs h1.1 h1.2 h2.1 h2.2 h3 (by omega)
      · exact cf3 o n p q s w hs h1.1 h1.2 h2.1 h2.2 (by omega)
    · exact cf2 o n p q s w hs h1.1 h1.2 (by omega)
  · exact cf1 o n p q s w hs (by omega)

theorem RCheckFrame_ok (o n p q : Int) (s : ByteArray) (w : World) (h : OkF o n p q s.size) : Calls Try.prog 23 #[.agg #[.int .i64 o, .int .i64 n, .int .i64 p, .int .i64 q, .string s]] w fun e w' => e = .returned (.int .i64 0) ∧ Onl non w w' := by
  obtain ⟨⟨h1, h2⟩, ⟨h3, h4⟩, ⟨h5, h6⟩, ⟨h7, h8⟩, h9, h10, h11⟩ := h
  by_cases hl : p = q - 1
  · by_cases hm : s.size = 0
    · exact rcf10 o n p q s w (by omega) h1 h2 h3 h4 h5 h6 h7 h8 hm hl (by omega)
    · exact rcf9 o n p q s w (by omega) h1 h2 h3 h4 h5 h6 h7 h8 h9 (by omega) hl
  · exact rcf11 o n p q s w (by omega) h1 h2 h3 h4 h5 h6 h7 h8 (h10 (by omega)) (by omega)

theorem RCheckFrame_no (o n p q : Int) (s : ByteArray) (w : World) (hs : s.size ≤ 9223372036854775807) (h : ¬ OkF o n p q s.size) : Calls Try.prog 23 #[.agg #[.int .i64 o, .int .i64 n, .int .i64 p, .int .i64 q, .string s]] w fun e w' => e = .returned (.int .i64 90) ∧ Onl non w w' := by
  by_cases h1 : 0 ≤ o ∧ o < 8
  · by_cases h2 : 0 ≤ n ∧ n < 64
    · by_cases h3 : 1 ≤ q
      · by_cases h4 : q ≤ 32
        · by_cases h5 : 0 ≤ p ∧ p < q
          · by_cases hl : p = q - 1
            · by_cases hm : 32 < s.size
              · exact rcf6a o n p q s w hs h1.1 h1.2 h2.1 h2.2 h3 h4 h5.1 h5.2 hm hl
              · by_cases hz : s.size = 0 ∧ 1 < q
                · exact rcf8 o n p q s w hs h1.1 h1.2 h2.1 h2.2 h3 h4 h5.1 h5.2 hz.1 hl hz.2
                · exact absurd ⟨h1, h2, ⟨h3, h4⟩, h5, by omega, by omega, by omega⟩ h
            · by_cases hm : s.size = 32
              · exact absurd ⟨h1, h2, ⟨h3, h4⟩, h5, by omega, by omega, by omega⟩ h
              · exact rcf6b o n p q s w hs h1.1 h1.2 h2.1 h2.2 h3 h4 h5.1 h5.2 hm (by omega)
          · exact rcf5 o n p q s w hs h1.1 h1.2 h2.1 h2.2 h3 h4 (by omega)
        · exact rcf3 o n p q s w hs h1.1 h1.2 h2.1 h2.2 (by omega)
      · exact rcf3 o n p q s w hs h1.1 h1.2 h2.1 h2.2 (by omega)
    · exact rcf2 o n p q s w hs h1.1 h1.2 (by omega)
  · exact rcf1 o n p q s w hs (by omega)

set_option maxRecDepth 100000 in
theorem ce1 (o n : Int) (s : ByteArray) (w : World) (hs : s.size ≤ 9223372036854775807) (ho : o < 0 ∨ 8 ≤ o) : Calls Try.prog 39 #[.agg #[.int .i64 o, .int .i64 n, .string s]] w fun e w' => e = .returned (.int .i64 92) ∧ Onl non w w' := by
  go_enter Try.func39, Try.ntmps39
  go_wp2_with (first | (go_at_call 93; refine (within_t _ _ _ (by omega) (by omega)).mono ?_; rintro e w' ⟨rfl, rfl⟩) | (go_at_call 93; refine (within_f _ _ _ (by omega)).mono ?_; rintro e w' ⟨rfl, rfl⟩))
  go_ret
  exact ⟨rfl, (Onl.refl non w).alloc _⟩

set_option maxRecDepth 100000 in
theorem ce2 (o n : Int) (s : ByteArray) (w : World) (hs : s.size ≤ 9223372036854775807) (ho : 0 ≤ o) (ho2 : o < 8) (hn : n < 0 ∨ 64 ≤ n) : Calls Try.prog 39 #[.agg #[.int .i64 o, .int .i64 n, .string s]] w fun e w' => e = .returned (.int .i64 92) ∧ Onl non w w' := by
  go_enter Try.func39, Try.ntmps39
  go_wp2_with (first | (go_at_call 93; refine (within_t _ _ _ (by omega) (by omega)).mono ?_; rintro e w' ⟨rfl, rfl⟩) | (go_at_call 93; refine (within_f _ _ _ (by omega)).mono ?_; rintro e w' ⟨rfl, rfl⟩))
  go_ret
  exact ⟨rfl, (Onl.refl non w).alloc _⟩

set_option maxRecDepth 100000 in
theorem ce3 (o n : Int) (s : ByteArray) (w : World) (hs : s.size ≤ 9223372036854775807) (ho : 0 ≤ o) (ho2 : o < 8) (hn : 0 ≤ n) (hn2 : n < 64) (hm : 1024 < s.size) : Calls Try.prog 39 #[.agg #[.int .i64 o, .int .i64 n, .string s]] w fun e w' => e = .returned (.int .i64 92) ∧ Onl non w w' := by
  go_enter Try.func39, Try.ntmps39
  go_wp2_with (first | (go_at_call 93; refine (within_t _ _ _ (by omega) (by omega)).mono ?_; rintro e w' ⟨rfl, rfl⟩) | (go_at_call 93; refine (within_f _ _ _ (by omega)).mono ?_; rintro e w' ⟨rfl, rfl⟩))
  go_ret
  exact ⟨rfl, (Onl.refl non w).alloc _⟩

set_option maxRecDepth 100000 in
theorem ce4 (o n : Int) (s : ByteArray) (w : World) (hs : s.size ≤ 9223372036854775807) (ho : 0 ≤ o) (ho2 : o < 8) (hn : 0 ≤ n) (hn2 : n < 64) (hm : s.size ≤ 1024) : Calls Try.prog 39 #[.agg #[.int .i64 o, .int .i64 n, .string s]] w fun e w' => e = .returned (.int .i64 0) ∧ Onl non w w' := by
  go_enter Try.func39, Try.ntmps39
  go_wp2_with (first | (go_at_call 93; refine (within_t _ _ _ (by omega) (by omega)).mono ?_; rintro e w' ⟨rfl, rfl⟩) | (go_at_call 93; refine (within_f _ _ _ (by omega)).mono ?_; rintro e w' ⟨rfl, rfl⟩))
  go_ret
  exact ⟨rfl, (Onl.refl non w).alloc _⟩

theorem CheckEntry_ok (o n : Int) (s : ByteArray) (w : World) (h : OkE o n s.size) : Calls Try.prog 39 #[.agg #[.int .i64 o, .int .i64 n, .string s]] w fun e w' => e = .returned (.int .i64 0) ∧ Onl non w w' :=
  ce4 o n s w (by have := h.2.2; omega) h.1.1 h.1.2 h.2.1.1 h.2.1.2 h.2.2
theorem CheckEntry_no (o n : Int) (s : ByteArray) (w : World) (hs : s.size ≤ 9223372036854775807) (h : ¬ OkE o n s.size) : Calls Try.prog 39 #[.agg #[.int .i64 o, .int .i64 n, .string s]] w fun e w' => e = .returned (.int .i64 92) ∧ Onl non w w' := by
  by_cases h1 : 0 ≤ o ∧ o < 8
  · by_cases h2 : 0 ≤ n ∧ n < 64
    · by_cases h3 : s.size ≤ 1024
      · exact absurd ⟨h1, h2, h3⟩ h
      · exact ce3 o n s w hs h1.1 h1.2 h2.1 h2.2 (by omega)
    · exact ce2 o n s w hs h1.1 h1.2 (by omega)
  · exact ce1 o n s w hs (by omega)

set_option maxRecDepth 100000 in
theorem rce1 (o n : Int) (s : ByteArray) (w : World) (hs : s.size ≤ 9223372036854775807) (ho : o < 0 ∨ 8 ≤ o) : Calls Try.prog 40 #[.agg #[.int .i64 o, .int .i64 n, .string s]] w fun e w' => e = .returned (.int .i64 92) ∧ Onl non w w' := by
  go_enter Try.func40, Try.ntmps40
  go_wp2_with (first | (go_at_call 94; refine (rwithin_t _ _ _ _ (by omega) (by omega)).mono ?_; rintro e w' ⟨rfl, rfl⟩) | (go_at_call 94; refine (rwithin_f _ _ _ _ (by omega)).mono ?_; rintro e w' ⟨rfl, rfl⟩))
  go_ret
  exact ⟨rfl, (Onl.refl non w).alloc _⟩

set_option maxRecDepth 100000 in
theorem rce2 (o n : Int) (s : ByteArray) (w : World) (hs : s.size ≤ 9223372036854775807) (ho : 0 ≤ o) (ho2 : o < 8) (hn : n < 0 ∨ 64 ≤ n) : Calls Try.prog 40 #[.agg #[.int .i64 o, .int .i64 n, .string s]] w fun e w' => e = .returned (.int .i64 92) ∧ Onl non w w' := by
  go_enter Try.func40, Try.ntmps40
  go_wp2_with (first | (go_at_call 94; refine (rwithin_t _ _ _ _ (by omega) (by omega)).mono ?_; rintro e w' ⟨rfl, rfl⟩) | (go_at_call 94; refine (rwithin_f _ _ _ _ (by omega)).mono ?_; rintro e w' ⟨rfl, rfl⟩))
  go_ret
  exact ⟨rfl, (Onl.refl non w).alloc _⟩

set_option maxRecDepth 100000 in
theorem rce3 (o n : Int) (s : ByteArray) (w : World) (hs : s.size ≤ 9223372036854775807) (ho : 0 ≤ o) (ho2 : o < 8) (hn : 0 ≤ n) (hn2 : n < 64) (hm : 1024 < s.size) : Calls Try.prog 40 #[.agg #[.int .i64 o, .int .i64 n, .string s]] w fun e w' => e = .returned (.int .i64 92) ∧ Onl non w w' := by
  go_enter Try.func40, Try.ntmps40
  go_wp2_with (first | (go_at_call 94; refine (rwithin_t _ _ _ _ (by omega) (by omega)).mono ?_; rintro e w' ⟨rfl, rfl⟩) | (go_at_call 94; refine (rwithin_f _ _ _ _ (by omega)).mono ?_; rintro e w' ⟨rfl, rfl⟩))
  go_ret
  exact ⟨rfl, (Onl.refl non w).alloc _⟩

set_option maxRecDepth 100000 in
theorem rce4 (o n : Int) (s : ByteArray) (w : World) (hs : s.size ≤ 9223372036854775807) (ho : 0 ≤ o) (ho2 : o < 8) (hn : 0 ≤ n) (hn2 : n < 64) (hm : s.size ≤ 1024) : Calls Try.prog 40 #[.agg #[.int .i64 o, .int .i64 n, .string s]] w fun e w' => e = .returned (.int .i64 0) ∧ Onl non w w' := by
  go_enter Try.func40, Try.ntmps40
  go_wp2_with (first | (go_at_call 94; refine (rwithin_t _ _ _ _ (by omega) (by omega)).mono ?_; rintro e w' ⟨rfl, rfl⟩) | (go_at_call 94; refine (rwithin_f _ _ _ _ (by omega)).mono ?_; rintro e w' ⟨rfl, rfl⟩))
  go_ret
  exact ⟨rfl, (Onl.refl non w).alloc _⟩

theorem RCheckEntry_ok (o n : Int) (s : ByteArray) (w : World) (h : OkE o n s.size) : Calls Try.prog 40 #[.agg #[.int .i64 o, .int .i64 n, .string s]] w fun e w' => e = .returned (.int .i64 0) ∧ Onl non w w' :=
  rce4 o n s w (by have := h.2.2; omega) h.1.1 h.1.2 h.2.1.1 h.2.1.2 h.2.2
theorem RCheckEntry_no (o n : Int) (s : ByteArray) (w : World) (hs : s.size ≤ 9223372036854775807) (h : ¬ OkE o n s.size) : Calls Try.prog 40 #[.agg #[.int .i64 o, .int .i64 n, .string s]] w fun e w' => e = .returned (.int .i64 92) ∧ Onl non w w' := by
  by_cases h1 : 0 ≤ o ∧ o < 8
  · by_cases h2 : 0 ≤ n ∧ n < 64
    · by_cases h3 : s.size ≤ 1024
      · exact absurd ⟨h1, h2, h3⟩ h
      · exact rce3 o n s w hs h1.1 h1.2 h2.1 h2.2 (by omega)
    · exact rce2 o n s w hs h1.1 h1.2 (by omega)
  · exact rce1 o n s w hs (by omega)

end Go.Proofs.Ytenngchidlfaeaa
/- Encode, of the program, walked. -/
namespace Go.Proofs.Ytenngchidlfaeaa
open Go.RowKit

/-- the bytes of a frame ahead of its check bytes -/
def fbytes (o n p q : Nat) (s : ByteArray) : List Nat := [o, n, p, q] ++ bl s
/-- a frame's encoding -/
def enc (o n p q : Nat) (s : ByteArray) : List Nat := fbytes o n p q s ++ Rad.chk (fbytes o n p q s)
theorem sb_append (l : List Nat) (s : ByteArray) : sb l ++ s = sb (l ++ bl s) := by
  have e : s = ByteArray.mk s.data.toList.toArray := by simp
  conv => lhs; rw [e]
  show ByteArray.mk (l.map UInt8.ofNat).toArray ++ _ = _
  rw [ByteArray.mk_append_mk]
  simp only [sb, bl, List.map_append, List.map_map]
  congr 3
  conv => lhs; rw [← List.map_id s.data.toList]
  apply List.map_congr_left
  intro x _
  simp
theorem sb_append_sb {l m : List Nat} (hm : Rad.Bytes m) : sb l ++ sb m = sb (l ++ m) := by rw [sb_append, bl_sb hm]
theorem fbytes_bytes {o n p q : Nat} (s : ByteArray) (h1 : o < 256) (h2 : n < 256) (h3 : p < 256) (h4 : q < 256) : Rad.Bytes (fbytes o n p q s) := by
  refine Rad.Bytes.append ?_ (bl_bytes s)
  intro b hb; simp at hb; omega

set_option maxRecDepth 100000 in
theorem Encode18_ok (o n p q : Nat) (s : ByteArray) (w : World) (h : OkF o n p q s.size) :
    Calls Try.prog 18 #[.agg #[.int .i64 o, .int .i64 n, .int .i64 p, .int .i64 q, .string s]] w fun e w' => e = .returned (.tuple #[.string (sb (enc o n p q s)), .int .i64 0]) ∧ Onl non w w' := by
  have HF := Lib.hid h
  obtain ⟨⟨h1, h2⟩, ⟨h3, h4⟩, ⟨h5, h6⟩, ⟨h7, h8⟩, h9, h10, h11⟩ := h
  have b1 := u8w (a := o) (by omega)
  have b2 := u8w (a := n) (by omega)
  have b3 := u8w (a := p) (by omega)
  have b4 := u8w (a := q) (by omega)
  clear h10 h11
  go_enter Try.func18, Try.ntmps18
  go_wp2_with fail
  refine (CheckFrame_ok _ _ _ _ _ _ HF.out).mono ?_
  rintro e w1 ⟨rfl, h1⟩
  have hB := (Blk.new w 23 [.int .i64 o, .int .i64 n, .int .i64 p, .int .i64 q, .string s]).onl h1 (fun h => h)
  have hc0 := hB.cell' (i := 0) rfl
  have hc1 := hB.cell' (i := 1) rfl
  have hc2 := hB.cell' (i := 2) rfl
  have hc3 := hB.cell' (i := 3) rfl
  have hc4 := hB.cell' (i := 4) rfl
  have hlw : w.heap.size < w1.heap.size := hB.lt
  have HO1 : Hid (Onl non w w1) := Lib.hid (((Onl.refl non w).alloc _).trans h1 (fun _ _ h => h))
  have hcv : (convert 57 9 (.slice (some ⟨w1.heap.size, 0, none⟩) 4 4)).run Try.prog (w1.alloc (.cells #[.int .u8 o, .int .u8 n, .int .u8 p, .int .u8 q] 5)) = .ok (.string (sb [o, n, p, q])) (w1.alloc (.cells #[.int .u8 o, .int .u8 n, .int .u8 p, .int .u8 q] 5)) :=
    conv_back (w1.alloc (.cells (bs [o, n, p, q]).toArray 5)) w1.heap.size 0 4 [o, n, p, q] (by intro b hb; simp at hb; omega) (by
      intro j hj
      rw [Nat.zero_add]
      exact (Blk.new w1 5 (bs [o, n, p, q])).cell' (bs_get (get_getD hj)))
  have hsz : (sb [o, n, p, q]).size + s.size ≤ 9223372036854775807 := by rw [sb_size]; simp; omega
  clear h1 hB
  go_wp2_with fail
  refine (check88 _ _ (by rw [ByteArray.size_append, sb_size]; simp; omega)).mono ?_
  rintro e w2 ⟨rfl, h2'⟩
  have hsz2 : (sb [o, n, p, q]).size + s.size + (sb (Rad.chk (bl (sb [o, n, p, q] ++ s)))).size ≤ 9223372036854775807 := by rw [sb_size, sb_size, Rad.chk_length]; simp; omega
  have HO2 : Hid (Onl non w w2) := Lib.hid ((HO1.out.alloc _).trans h2' (fun _ _ h => h))
  clear h2'
  have HE : Hid (sb [o, n, p, q] ++ s ++ sb (Rad.chk (bl (sb [o, n, p, q] ++ s))) = sb (enc o n p q s)) := Lib.hid (by
    have hb : Rad.Bytes (fbytes o n p q s) := fbytes_bytes s (by omega) (by omega) (by omega) (by omega)
    rw [sb_append [o, n, p, q] s]
    show sb (fbytes o n p q s) ++ sb (Rad.chk (bl (sb (fbytes o n p q s)))) = _
    rw [bl_sb hb, sb_append_sb (Rad.chk_bytes hb)]; rfl)
  go_wp2
  go_ret2
  exact ⟨by rw [← HE.out]; rfl, HO2.out⟩
theorem Encode18_no (o n p q : Int) (s : ByteArray) (w : World) (hs : s.size ≤ 9223372036854775807) (h : ¬ OkF o n p q s.size) :
    Calls Try.prog 18 #[.agg #[.int .i64 o, .int .i64 n, .int .i64 p, .int .i64 q, .string s]] w fun e w' => e = .returned (.tuple #[.string ⟨#[]⟩, .int .i64 90]) ∧ Onl non w w' := by
  have HF := Lib.hid h
  clear h
  go_enter Try.func18, Try.ntmps18
  go_wp2_with fail
  refine (CheckFrame_no _ _ _ _ _ _ hs HF.out).mono ?_
  rintro e w1 ⟨rfl, h1⟩
  have HO1 : Hid (Onl non w w1) := Lib.hid (((Onl.refl non w).alloc _).trans h1 (fun _ _ h => h))
  clear h1
  go_wp2
  go_ret2
  exact ⟨rfl, HO1.out⟩
end Go.Proofs.Ytenngchidlfaeaa
/- Decode, of the program, walked. -/
namespace Go.Proofs.Ytenngchidlfaeaa
open Go.RowKit
open Rad (expl pairsOf GoodF)

theorem vals_val (L : List Nat) (hL : Rad.Bytes L) : ∀ j, j < 6 → (vals L 6).getD j 0 = Rad.val L (Rad.gpow 2 j) := by
  intro j hj
  rw [vals_getD, if_pos ⟨hj, hj⟩, Rad.horner_val (Rad.gpow_two_lt j) hL]
theorem vals_bytes (L : List Nat) (hL : Rad.Bytes L) : Rad.Bytes (vals L 6) := by
  intro b hb
  obtain ⟨i, hi, e⟩ := List.mem_map.1 hb
  have hi6 : i < 6 := by simpa using hi
  rw [if_pos hi6] at e
  rw [← e]; exact horner_lt (Rad.gpow_two_lt i) hL
theorem faults90 (n v0 v1 v2 v3 v4 v5 : Nat) (w : World) (hn : n < 256) (hv : Rad.Bytes [v0, v1, v2, v3, v4, v5]) :
    Calls Try.prog 90 #[.int .i64 n, .agg #[.int .i64 v0, .int .i64 v1, .int .i64 v2, .int .i64 v3, .int .i64 v4, .int .i64 v5]] w fun e w' => FaultsPost n [v0, v1, v2, v3, v4, v5] w e w' ∧ Onl non w w' := by
  by_cases hz : v0 = 0 ∧ v1 = 0 ∧ v2 = 0 ∧ v3 = 0 ∧ v4 = 0 ∧ v5 = 0
  · obtain ⟨rfl, rfl, rfl, rfl, rfl, rfl⟩ := hz
    exact faults90_zero n w
  · refine faults90_nz n v0 v1 v2 v3 v4 v5 w hn hv ?_
    by_cases h0 : v0 = 0
    · by_cases h1 : v1 = 0
      · by_cases h2 : v2 = 0
        · by_cases h3 : v3 = 0
          · by_cases h4 : v4 = 0
            · exact ⟨5, by omega, fun h5 => hz ⟨h0, h1, h2, h3, h4, h5⟩⟩
            · exact ⟨4, by omega, h4⟩
          · exact ⟨3, by omega, h3⟩
        · exact ⟨2, by omega, h2⟩
      · exact ⟨1, by omega, h1⟩
    · exact ⟨0, by omega, h0⟩

instance (o n p q : Int) (m : Nat) : Decidable (OkF o n p q m) := by unfold OkF; infer_instance
/-- the frame that a string holds, and how many bytes are wrong; none if there is none -/
noncomputable def near (s : List Nat) : Option (List Nat) := open Classical in if h : ∃ w, Rad.Near s w then some (Classical.choose h) else none
theorem near_some {s w : List Nat} (hl : s.length ≤ 255) (h : Rad.Near s w) : near s = some w := by
  have hx : ∃ w, Rad.Near s w := ⟨w, h⟩
  unfold near
  rw [dif_pos hx, Rad.near_unique hl (Classical.choose_spec hx) h]
theorem near_none {s : List Nat} (h : ∀ w, ¬ Rad.Near s w) : near s = none := by
  unfold near; rw [dif_neg (fun ⟨w, hw⟩ => h w hw)]
/-- a frame with its number of wrong bytes -/
structure Dec where
  o : Nat
  n : Nat
  p : Nat
  q : Nat
  body : List Nat
  k : Nat
def decOf (s w : List Nat) : Option Dec :=
  if OkF (w.getD 0 0) (w.getD 1 0) (w.getD 2 0) (w.getD 3 0) (w.length - 10) then some ⟨w.getD 0 0, w.getD 1 0, w.getD 2 0, w.getD 3 0, (w.drop 4).take (w.length - 10), Rad.dist w s⟩ else none
noncomputable def dec (s : List Nat) : Option Dec := if 10 ≤ s.length ∧ s.length ≤ 42 then (near s).bind (decOf s) else none
def decV : Option Dec → Value
  | none => .tuple #[.agg #[.int .i64 0, .int .i64 0, .int .i64 0, .int .i64 0, .string ⟨#[]⟩], .int .i64 0, .int .i64 91]
  | some d => .tuple #[.agg #[.int .i64 d.o, .int .i64 d.n, .int .i64 d.p, .int .i64 d.q, .string (sb d.body)], .int .i64 d.k, .int .i64 0]
theorem dec_short {s : List Nat} (h : s.length < 10 ∨ 42 < s.length) : dec s = none := by unfold dec; rw [if_neg (by omega)]
theorem dec_near {s w : List Nat} (h1 : 10 ≤ s.length) (h2 : s.length ≤ 42) (h : Rad.Near s w) : dec s = decOf s w := by
  unfold dec; rw [if_pos ⟨h1, h2⟩, near_some (by omega) h]; rfl
theorem dec_none {s : List Nat} (h : ∀ w, ¬ Rad.Near s w) : dec s = none := by
  unfold dec; rw [near_none h]; split <;> rfl

set_option maxRecDepth 100000 in
theorem Decode20_short (s : ByteArray) (w : World) (hs : s.size ≤ 9223372036854775807) (h : s.size < 10 ∨ 42 < s.size) : Calls Try.prog 20 #[.string s] w fun e w' => e = .returned (decV (dec (bl s))) ∧ Onl non w w' := by
  have hd : dec (bl s) = none := dec_short (by rw [bl_length]; exact h)
  have HD := Lib.hid hd
  clear hd
  rcases h with h | h
  · go_enter Try.func20, Try.ntmps20
    go_wp2
    refine bodyPost_ret (v := .tuple #[.agg #[.int .i64 0, .int .i64 0, .int .i64 0, .int .i64 0, .string ⟨#[]⟩], .int .i64 0, .int .i64 91]) (by simp [results, Try.results20, go_sem]) rfl ⟨?_, ?_⟩
    · rw [HD.out]; rfl
    · exact (Onl.refl non w).alloc _
  · have h2 : 10 ≤ s.size := by omega
    go_enter Try.func20, Try.ntmps20
    go_wp2
    refine bodyPost_ret (v := .tuple #[.agg #[.int .i64 0, .int .i64 0, .int .i64 0, .int .i64 0, .string ⟨#[]⟩], .int .i64 0, .int .i64 91]) (by simp [results, Try.results20, go_sem]) rfl ⟨?_, ?_⟩
    · rw [HD.out]; rfl
    · exact (Onl.refl non w).alloc _
end Go.Proofs.Ytenngchidlfaeaa
namespace Go.Proofs.Ytenngchidlfaeaa
open Go.RowKit

def zfr : List Value := [.int .i64 0, .int .i64 0, .int .i64 0, .int .i64 0, .string ⟨#[]⟩]
theorem sol_take_flip (L : List Nat) (l : List (Nat × Nat)) (k : Nat) (p : Nat × Nat) (h : l[k]? = some p) : Rad.applyF L (l.take (k + 1)) = Rad.flip (Rad.applyF L (l.take k)) p := by
  have hk : k < l.length := (List.getElem?_eq_some_iff.1 h).1
  rw [List.take_succ_eq_append_getElem hk, Rad.applyF_snoc]
  rw [List.getElem?_eq_getElem hk] at h
  rw [Option.some.inj h]
theorem applyF_take_bytes {n : Nat} {L : List Nat} {l : List (Nat × Nat)} (hL : Rad.Bytes L) (hg : Rad.GoodF n l) (k : Nat) : Rad.Bytes (Rad.applyF L (l.take k)) :=
  Rad.applyF_bytes _ hL (fun p hp => hg p (List.mem_of_mem_take hp))

set_option maxRecDepth 100000 in
set_option maxHeartbeats 1000000 in
theorem Decode20_main (s : ByteArray) (w : World) (h1 : 10 ≤ s.size) (h2 : s.size ≤ 42) : Calls Try.prog 20 #[.string s] w fun e w' => e = .returned (decV (dec (bl s))) ∧ Onl non w w' := by
  obtain ⟨c, o, hcs, hconv, hB⟩ := bytes_made (w.alloc (.cells zfr.toArray 23)) s
  simp only [World.size_alloc] at hconv hB
  obtain ⟨w1, hw1⟩ : ∃ w1, w1 = (w.alloc (.cells zfr.toArray 23)).drew.alloc o := ⟨_, rfl⟩
  rw [← hw1] at hconv hB
  have HO1 : Hid (Onl non w w1) := Lib.hid (by rw [hw1]; exact (((Onl.refl non w).alloc _).drew).alloc _)
  have HZ1 : Hid (Blk w1 w.heap.size 23 zfr) := Lib.hid (by rw [hw1]; exact ((Blk.new w 23 zfr).drew).alloc _)
  have HB1 := Lib.hid hB
  clear hw1 hB
  have hcv : (convert 9 57 (.string s)).run Try.prog (w.alloc (.cells #[.int .i64 0, .int .i64 0, .int .i64 0, .int .i64 0, .string ⟨#[]⟩] 23)) = .ok (.slice (some ⟨w.heap.size + 1, 0, none⟩) s.size c) w1 := hconv
  clear hconv
  obtain ⟨L, hL⟩ : ∃ L, L = bl s := ⟨_, rfl⟩
  have hLl : L.length = s.size := by rw [hL, bl_length]
  have HLb : Hid (Rad.Bytes L) := Lib.hid (by rw [hL]; exact bl_bytes s)
  obtain ⟨v, hv⟩ : ∃ v, v = vals L 6 := ⟨_, rfl⟩
  have hvl : v.length = 6 := by rw [hv, vals_length]
  have HVb : Hid (Rad.Bytes v) := Lib.hid (by rw [hv]; exact vals_bytes L HLb.out)
  have HVv : Hid (∀ j, j < 6 → v.getD j 0 = Rad.val L (Rad.gpow 2 j)) := Lib.hid (by rw [hv]; exact vals_val L HLb.out)
  have HR1 : Hid (Rd w1 (w.heap.size + 1) 0 L) := Lib.hid (by rw [hL]; exact Rd.of_blkM HB1.out)
  have HLl := Lib.hid hLl
  have hVals := fun (wx : World) (hr : Rd wx (w.heap.size + 1) 0 L) => values91 L (w.heap.size + 1) s.size c wx hLl.symm (by omega) HLb.out hr
  rw [← hv] at hVals
  have HVals := Lib.hid hVals
  have HV := Lib.hid hv
  have HL := Lib.hid hL
  rw [← hL] at HB1 ⊢
  clear hv hL hLl hVals
  match v, hvl with
  | [v0, v1, v2, v3, v4, v5], _ =>
    have HV2 : Hid (Calls Try.prog 91 #[.slice (some ⟨w.heap.size + 1, 0, none⟩) s.size c] w1 fun e w' => e = .returned (.agg #[.int .i64 v0, .int .i64 v1, .int .i64 v2, .int .i64 v3, .int .i64 v4, .int .i64 v5]) ∧ Onl non w1 w') := Lib.hid (HVals.out w1 HR1.out)
    clear HVals
    go_enter Try.func20, Try.ntmps20
    go_wp2_with fail
    refine HV2.out.mono ?_
    rintro e w2 ⟨rfl, hO2⟩
    have HB2 : Hid (BlkM w2 (w.heap.size + 1) 5 (bs (L ++ List.replicate (c - s.size) 0))) := Lib.hid (HB1.out.onl hO2 (fun h => h))
    have HZ2 : Hid (Blk w2 w.heap.size 23 zfr) := Lib.hid (HZ1.out.onl hO2 (fun h => h))
    have HO2 : Hid (Onl non w w2) := Lib.hid (HO1.out.trans hO2 (fun _ _ h => h))
    clear hO2 HB1 HZ1 HO1 HR1 HV2 hcv
    go_wp2_with fail
    refine (faults90 s.size v0 v1 v2 v3 v4 v5 _ (by omega) HVb.out).mono ?_
    rintro e w3 ⟨hf, hO3⟩
    have HB3 : Hid (BlkM w3 (w.heap.size + 1) 5 (bs (L ++ List.replicate (c - s.size) 0))) := Lib.hid (HB2.out.onl hO3 (fun h => h))
    have HZ3 : Hid (Blk w3 w.heap.size 23 zfr) := Lib.hid (HZ2.out.onl hO3 (fun h => h))
    have HO3 : Hid (Onl non w w3) := Lib.hid (HO2.out.trans hO3 (fun _ _ h => h))
    have hsz3 : w.heap.size + 1 < w2.heap.size := HB2.out.lt
    clear hO3 HB2 HZ2 HO2
    rcases hf with ⟨l, o2, c2, rfl, hmem, hsol⟩ | ⟨rfl, hno⟩
    · have HS := Lib.hid hsol
      have HM := Lib.hid hmem
      have hm2 := hsol.two
      obtain ⟨m, hm⟩ : ∃ m, m = l.length := ⟨_, rfl⟩
      rw [← hm] at hm2 ⊢
      have HMl := Lib.hid hm
      clear hsol hmem hm
      go_wp2
      go_loopw [35] (fun x wr => ∃ k : Nat, k ≤ m ∧ x = .int .i64 k ∧ Hid (BlkM wr (w.heap.size + 1) 5 (bs (Rad.applyF L (l.take k) ++ List.replicate (c - s.size) 0))) ∧ Hid (Blk wr w.heap.size 23 zfr) ∧ Hid (Onl non w wr) ∧ Hid (Onl (one (w.heap.size + 1)) w3 wr)) (fun x _ => m - (intOf x).toNat)
      case atStart => exact ⟨0, by omega, rfl, HB3, HZ3, HO3, Lib.hid (Onl.refl _ _)⟩
      case round =>
        clear HB3 HZ3 HO3
        obtain ⟨k, hk, rfl, HB, HZ, HO, HW⟩ := hrel
        by_cases hlt : k < m
        · have hkl : k < l.length := by have := HMl.out; omega
          obtain ⟨p, hp⟩ : ∃ p, l[k]? = some p := ⟨_, List.getElem?_eq_getElem hkl⟩
          rcases HM.out with hl0 | ⟨b, rfl, hb1, hb2⟩
          · rw [hl0] at hkl; simp at hkl
          · obtain ⟨hc1, hc2⟩ := fcs_get l k p hp
            have hBf := hb2.onl HW.out (fun h => by have h' : b = w.heap.size + 1 := h; omega)
            have hc1 := hBf.cell' hc1
            have hc2 := hBf.cell' hc2
            have hpg := HS.out.good p (List.mem_of_getElem? hp)
            have HF := Lib.hid (sol_take_flip L l k p hp)
            have hPb := applyF_take_bytes HLb.out HS.out.good k
            obtain ⟨pa, pb⟩ := p
            obtain ⟨g1, g2⟩ := hpg
            dsimp only at g1 g2 hc1 hc2
            have hal : (Rad.applyF L (l.take k)).length = s.size := by rw [Rad.applyF_length, HLl.out]
            obtain ⟨x, hx⟩ : ∃ x, x = (Rad.applyF L (l.take k)).getD pa 0 := ⟨_, rfl⟩
            have hxl : x < 256 := by rw [hx]; exact hPb.getD pa
            have hcx : wr.cell? ⟨w.heap.size + 1, pa, none⟩ = some (.int .u8 (x : Int)) := HB.out.cell' (bs_get (by rw [List.getElem?_append_left (by omega), get_getD (by omega), hx]))
            have hfx : wr.frozen? ⟨w.heap.size + 1, pa, none⟩ = false := HB.out.free (by rw [bs_length, List.length_append]; omega)
            have hw8 := u8w g2
            have hX := bxor8 x pb hxl g2
            have hwl : w.heap.size + 1 < wr.heap.size := HB.out.lt
            have HX := Lib.hid hx
            have HAL := Lib.hid hal
            clear hp hkl hb1 hb2 hBf hPb hal hx
            go_wp2
            refine wp_region_qt 10 (by kernel_rfl) (by kernel_rfl) ?_
            simp only [List.take_succ_cons, List.take_zero, List.drop_succ_cons, List.drop_zero]
            repeat (go_big_quiet_step (fail))
            refine wpQuiet_nil ?_
            intro _ hw'
            obtain ⟨nq, rfl⟩ := hw'
            go_wp2
            go_roundw
            case rel =>
              have hb1 := (HB.out.alloc (.cells #[.int .i64 (pa : Int), .int .i64 (pb : Int)] 131)).set pa (.int .u8 ((x ^^^ pb : Nat) : Int))
              rw [bs_set, List.set_append_left _ _ (by have := HAL.out; omega)] at hb1
              refine ⟨k + 1, by omega, by go_num, Lib.hid ?_, Lib.hid ?_, Lib.hid ?_, Lib.hid ?_⟩
              · rw [HF.out, Rad.flip]
                rw [HX.out] at hb1 ⊢
                exact hb1
              · exact (HZ.out.alloc _).set_ne (by simp) _
              · exact ((HO.out.alloc _).set _ _ (fun h => absurd h (by simp))).drewN _
              · exact ((HW.out.alloc _).set ⟨w.heap.size + 1, pa, none⟩ _ (fun _ => rfl)).drewN _
            case measure => simp [intOf]; omega
        · have hkm : k = m := by omega
          obtain ⟨A, hA⟩ : ∃ A, A = Rad.applyF L l := ⟨_, rfl⟩
          have hBA := HB.out
          rw [hkm, HMl.out, List.take_length, ← hA] at hBA
          have hN := Rad.near_of_sol HLb.out HVv.out (by rw [HLl.out]; exact HS.out)
          rw [← hA] at hN
          have hAl : A.length = s.size := by rw [hA, Rad.applyF_length, HLl.out]
          have hAb : Rad.Bytes A := hN.1.bytes
          have hS : ∀ wx, BlkM wx (w.heap.size + 1) 5 (bs (A ++ List.replicate (c - s.size) 0)) →
              wx.cell? ⟨w.heap.size + 1, 0, none⟩ = some (.int .u8 ((A.getD 0 0 : Nat) : Int)) ∧ wx.cell? ⟨w.heap.size + 1, 1, none⟩ = some (.int .u8 ((A.getD 1 0 : Nat) : Int)) ∧
              wx.cell? ⟨w.heap.size + 1, 2, none⟩ = some (.int .u8 ((A.getD 2 0 : Nat) : Int)) ∧ wx.cell? ⟨w.heap.size + 1, 3, none⟩ = some (.int .u8 ((A.getD 3 0 : Nat) : Int)) ∧
              (convert 57 9 (.slice (some ⟨w.heap.size + 1, 4, none⟩) (s.size - 10) (c - 4))).run Try.prog wx = .ok (.string (sb ((A.drop 4).take (s.size - 10)))) wx := by
            intro wx hx
            have hr := Rd.of_blkM hx
            refine ⟨hr.at0 (by omega), hr.at0 (by omega), hr.at0 (by omega), hr.at0 (by omega), ?_⟩
            have hbl : ((A.drop 4).take (s.size - 10)).length = s.size - 10 := by rw [List.length_take, List.length_drop, hAl]; omega
            have h := conv_back wx (w.heap.size + 1) 4 (c - 4) ((A.drop 4).take (s.size - 10)) (fun b hb => hAb b (List.mem_of_mem_drop (List.mem_of_mem_take hb))) (by
              intro j hj
              rw [hbl] at hj
              have h2 := hr.at0 (k := 4 + j) (by omega)
              rw [h2]
              have e : A.getD (4 + j) 0 = ((A.drop 4).take (s.size - 10)).getD j 0 := by
                simp only [List.getD_eq_getElem?_getD, List.getElem?_take, List.getElem?_drop]
                rw [if_pos hj]
              rw [e])
            rw [hbl] at h
            exact h
          have HSx := Lib.hid hS
          have HBA := Lib.hid hBA
          have HN := Lib.hid hN
          have HAl := Lib.hid hAl
          have hb0 := hAb.getD 0
          have hb1 := hAb.getD 1
          have hb2 := hAb.getD 2
          have hb3 := hAb.getD 3
          generalize hg0 : A.getD 0 0 = b0 at *
          generalize hg1 : A.getD 1 0 = b1 at *
          generalize hg2 : A.getD 2 0 = b2 at *
          generalize hg3 : A.getD 3 0 = b3 at *
          have HG0 := Lib.hid hg0
          have HG1 := Lib.hid hg1
          have HG2 := Lib.hid hg2
          have HG3 := Lib.hid hg3
          clear hA hS hBA hN hAl hg0 hg1 hg2 hg3 hkm HB
          have hwl : w.heap.size + 1 < wr.heap.size := HBA.out.lt
          go_wp2
          have e1 : IntKind.i64.wrap ((s.size : Int) - 6) = ((s.size - 6 : Nat) : Int) := by rw [IntWalk.i64_in _ (by omega)]; omega
          have e2 : ∀ wx : World, (Instr.slice 57 (.slice (some ⟨w.heap.size + 1, 0, none⟩) s.size c) (some (.int .i64 4)) (some (.int .i64 ((s.size - 6 : Nat) : Int))) none).run Try.prog wx = .ok (.slice (some ⟨w.heap.size + 1, 4, none⟩) (s.size - 10) (c - 4)) wx := by
            intro wx
            have h := run_slice57 wx (w.heap.size + 1) s.size c 4 (s.size - 6) (by omega) (by omega) (by omega)
            rw [show s.size - 6 - 4 = s.size - 10 from by omega] at h
            exact h
          have i4 : 0 < s.size := by omega
          have i0 : (0 : Int) < (s.size : Int) := by omega
          have i1 : (1 : Int) < (s.size : Int) := by omega
          have i2 : (2 : Int) < (s.size : Int) := by omega
          have i3 : (3 : Int) < (s.size : Int) := by omega
          go_region_held3 (fun w' => w'.cell? ⟨w.heap.size + 1, 0, none⟩ = some (.int .u8 (b0 : Int)) ∧ w'.cell? ⟨w.heap.size + 1, 1, none⟩ = some (.int .u8 (b1 : Int)) ∧ w'.cell? ⟨w.heap.size + 1, 2, none⟩ = some (.int .u8 (b2 : Int)) ∧ w'.cell? ⟨w.heap.size + 1, 3, none⟩ = some (.int .u8 (b3 : Int)) ∧ (convert 57 9 (.slice (some ⟨w.heap.size + 1, 4, none⟩) (s.size - 10) (c - 4))).run Try.prog w' = .ok (.string (sb ((A.drop 4).take (s.size - 10)))) w') (first | exact HSx.out _ (HBA.out.drewN 1) | exact HSx.out _ ((HBA.out.drewN 1).alloc _) | exact HSx.out _ (((HBA.out.drewN 1).alloc _).set_ne (by simp; omega) _)) ((fail))
          clear e1 e2 i0 i1 i2 i3 i4
          have hbs : (sb ((A.drop 4).take (s.size - 10))).size = s.size - 10 := by rw [sb_size, List.length_take, List.length_drop, HAl.out]; omega
          have HBS := Lib.hid hbs
          clear hbs
          obtain ⟨body, hbody⟩ : ∃ body, body = sb ((A.drop 4).take (s.size - 10)) := ⟨_, rfl⟩
          rw [← hbody] at HBS ⊢
          have HBody := Lib.hid hbody
          clear hbody
          go_wp2_with fail
          obtain ⟨wq, hq⟩ : ∃ wq, wq = (wr.alloc (.cells #[.int .i64 (b0 : Int), .int .i64 (b1 : Int), .int .i64 (b2 : Int), .int .i64 (b3 : Int), .string body] 23)).drew := ⟨_, rfl⟩
          rw [← hq]
          have HF4 : Hid (Blk wq wr.heap.size 23 [.int .i64 (b0 : Int), .int .i64 (b1 : Int), .int .i64 (b2 : Int), .int .i64 (b3 : Int), .string body]) := Lib.hid (by rw [hq]; exact (Blk.new wr 23 _).drew)
          have HZ4 : Hid (Blk wq w.heap.size 23 zfr) := Lib.hid (by rw [hq]; exact (HZ.out.alloc _).drew)
          have HO4 : Hid (Onl non w wq) := Lib.hid (by rw [hq]; exact (HO.out.alloc _).drew)
          clear hq HZ HO
          have hdec : dec L = decOf L A := dec_near (by rw [HLl.out]; exact h1) (by rw [HLl.out]; exact h2) HN.out.1
          rw [decOf, HAl.out, HG0.out, HG1.out, HG2.out, HG3.out, HN.out.2, ← HMl.out] at hdec
          by_cases hok : OkF b0 b1 b2 b3 (s.size - 10)
          · rw [if_pos hok] at hdec
            have HDec := Lib.hid hdec
            have HOk := Lib.hid hok
            clear hdec hok
            refine (CheckFrame_ok _ _ _ _ _ _ (by rw [HBS.out]; exact HOk.out)).mono ?_
            rintro e w5 ⟨rfl, h5⟩
            have hF5 := HF4.out.onl h5 (fun h => h)
            have hZ5 := HZ4.out.onl h5 (fun h => h)
            have HO5 : Hid (Onl non w w5) := Lib.hid (HO4.out.trans h5 (fun _ _ h => h))
            clear h5 HF4 HZ4 HO4
            have hc0 := hF5.cell' (i := 0) rfl
            have hc1 := hF5.cell' (i := 1) rfl
            have hc2 := hF5.cell' (i := 2) rfl
            have hc3 := hF5.cell' (i := 3) rfl
            have hc4 := hF5.cell' (i := 4) rfl
            have hz0 := hZ5.cell' (i := 0) rfl
            have hz1 := hZ5.cell' (i := 1) rfl
            have hz2 := hZ5.cell' (i := 2) rfl
            have hz3 := hZ5.cell' (i := 3) rfl
            have hz4 := hZ5.cell' (i := 4) rfl
            have hf0 := hZ5.free 0
            have hf1 := hZ5.free 1
            have hf2 := hZ5.free 2
            have hf3 := hZ5.free 3
            have hf4 := hZ5.free 4
            clear hF5 hZ5
            go_wp2
            refine bodyPost_ret (v := .tuple #[.agg #[.int .i64 (b0 : Int), .int .i64 (b1 : Int), .int .i64 (b2 : Int), .int .i64 (b3 : Int), .string body], .int .i64 m, .int .i64 0]) (by simp [results, Try.results20, go_sem, hz0, hz1, hz2, hz3, hz4]) rfl ⟨?_, ?_⟩
            · rw [HDec.out, HBody.out]; rfl
            · exact ((((HO5.out.set _ _ (fun h => absurd h (by simp))).set _ _ (fun h => absurd h (by simp))).set _ _ (fun h => absurd h (by simp))).set _ _ (fun h => absurd h (by simp))).set _ _ (fun h => absurd h (by simp))
          · rw [if_neg hok] at hdec
            have HDec := Lib.hid hdec
            have HOk := Lib.hid hok
            clear hdec hok
            refine (CheckFrame_no _ _ _ _ _ _ (by rw [HBS.out]; omega) (by rw [HBS.out]; exact HOk.out)).mono ?_
            rintro e w5 ⟨rfl, h5⟩
            have hZ5 := HZ4.out.onl h5 (fun h => h)
            have HO5 : Hid (Onl non w w5) := Lib.hid (HO4.out.trans h5 (fun _ _ h => h))
            clear h5 HF4 HZ4 HO4
            have hz0 := hZ5.cell' (i := 0) rfl
            have hz1 := hZ5.cell' (i := 1) rfl
            have hz2 := hZ5.cell' (i := 2) rfl
            have hz3 := hZ5.cell' (i := 3) rfl
            have hz4 := hZ5.cell' (i := 4) rfl
            have hf0 := hZ5.free 0
            have hf1 := hZ5.free 1
            have hf2 := hZ5.free 2
            have hf3 := hZ5.free 3
            have hf4 := hZ5.free 4
            clear hZ5
            go_wp2
            refine bodyPost_ret (v := .tuple #[.agg #[.int .i64 0, .int .i64 0, .int .i64 0, .int .i64 0, .string ⟨#[]⟩], .int .i64 0, .int .i64 91]) (by simp [results, Try.results20, go_sem, hz0, hz1, hz2, hz3, hz4]) rfl ⟨?_, ?_⟩
            · rw [HDec.out]; rfl
            · exact ((((HO5.out.set _ _ (fun h => absurd h (by simp))).set _ _ (fun h => absurd h (by simp))).set _ _ (fun h => absurd h (by simp))).set _ _ (fun h => absurd h (by simp))).set _ _ (fun h => absurd h (by simp))
    · have hdec : dec L = none := dec_none (fun x hx => hno (Rad.diffs 0 x L) (by have h := Rad.sol_of_near HLb.out HVv.out hx; rw [HLl.out] at h; exact h))
      have HDec := Lib.hid hdec
      clear hdec hno
      have hZ5 := HZ3.out
      have hz0 := hZ5.cell' (i := 0) rfl
      have hz1 := hZ5.cell' (i := 1) rfl
      have hz2 := hZ5.cell' (i := 2) rfl
      have hz3 := hZ5.cell' (i := 3) rfl
      have hz4 := hZ5.cell' (i := 4) rfl
      have hf0 := hZ5.free 0
      have hf1 := hZ5.free 1
      have hf2 := hZ5.free 2
      have hf3 := hZ5.free 3
      have hf4 := hZ5.free 4
      clear hZ5
      go_wp2
      refine bodyPost_ret (v := .tuple #[.agg #[.int .i64 0, .int .i64 0, .int .i64 0, .int .i64 0, .string ⟨#[]⟩], .int .i64 0, .int .i64 91]) (by simp [results, Try.results20, go_sem, hz0, hz1, hz2, hz3, hz4]) rfl ⟨?_, ?_⟩
      · rw [HDec.out]; rfl
      · exact ((((HO3.out.set _ _ (fun h => absurd h (by simp))).set _ _ (fun h => absurd h (by simp))).set _ _ (fun h => absurd h (by simp))).set _ _ (fun h => absurd h (by simp))).set _ _ (fun h => absurd h (by simp))
theorem Decode20 (s : ByteArray) (w : World) (hs : s.size ≤ 9223372036854775807) : Calls Try.prog 20 #[.string s] w fun e w' => e = .returned (decV (dec (bl s))) ∧ Onl non w w' := by
  by_cases h1 : 10 ≤ s.size
  · by_cases h2 : s.size ≤ 42
    · exact Decode20_main s w h1 h2
    · exact Decode20_short s w hs (by omega)
  · exact Decode20_short s w hs (by omega)
end Go.Proofs.Ytenngchidlfaeaa
