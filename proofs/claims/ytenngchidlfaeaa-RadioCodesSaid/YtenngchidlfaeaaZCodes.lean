/- RadioCodes: for all integers and all strings the law returns true, and its arguments read as they did; no condition. -/
import Derived.Test.YtenngchidlfaeaaA8
import Derived.Test.YtenngchidlfaeaaA4
import Derived.Test.YtenngchidlfaeaaA3
import Derived.Test.YtenngchidlfaeaaA9
/- The law RadioCodes, walked. -/
namespace Go.Proofs.Ytenngchidlfaeaa
open Go.RowKit

set_option maxRecDepth 100000 in
set_option maxHeartbeats 1000000 in
theorem RadioCodes5 (a b : Int) (s t : ByteArray) (w : World) (ha : -9223372036854775808 ≤ a ∧ a ≤ 9223372036854775807) (hb : -9223372036854775808 ≤ b ∧ b ≤ 9223372036854775807) (hs : s.size ≤ 9223372036854775807) (ht : t.size ≤ 9223372036854775807) :
    Calls Try.prog 5 #[.int .i64 a, .int .i64 b, .string s, .string t] w fun e w' => e = .returned (.bool true) ∧ Onl non w w' := by
  obtain ⟨c, d, h25, h27⟩ : ∃ (c d : Int), (∀ wx, Calls Try.prog 25 #[.int .i64 a, .int .i64 b] wx fun e w' => e = .returned (.tuple #[.int .i64 c, .int .i64 d]) ∧ wx = w') ∧ (∀ wx, Calls Try.prog 27 #[.int .i64 a, .int .i64 b] wx fun e w' => e = .returned (.tuple #[.int .i64 c, .int .i64 d]) ∧ wx = w') := by
    by_cases hk : (0 ≤ a ∧ a < 256) ∧ (0 ≤ b ∧ b < 256)
    · obtain ⟨a, rfl⟩ : ∃ a' : Nat, a = (a' : Int) := ⟨a.toNat, by omega⟩
      obtain ⟨b, rfl⟩ : ∃ b' : Nat, b = (b' : Int) := ⟨b.toNat, by omega⟩
      exact ⟨_, _, fun wx => Times25_ok a b wx (by omega) (by omega), fun wx => RTimes_ok a b wx (by omega) (by omega)⟩
    · exact ⟨_, _, fun wx => Times25_no a b wx (by omega), fun wx => RTimes_no a b wx (by omega)⟩
  obtain ⟨e, f, h26, h28⟩ : ∃ (e f : Int), (∀ wx, Calls Try.prog 26 #[.int .i64 a] wx fun x w' => x = .returned (.tuple #[.int .i64 e, .int .i64 f]) ∧ wx = w') ∧ (∀ wx, Calls Try.prog 28 #[.int .i64 a] wx fun x w' => x = .returned (.tuple #[.int .i64 e, .int .i64 f]) ∧ wx = w') := by
    by_cases hk : 0 < a ∧ a < 256
    · obtain ⟨a, rfl⟩ : ∃ a' : Nat, a = (a' : Int) := ⟨a.toNat, by omega⟩
      exact ⟨_, _, fun wx => Inverse26_ok a wx (by omega) (by omega), fun wx => RInverse_ok a wx (by omega) (by omega)⟩
    · exact ⟨_, _, fun wx => Inverse26_no a wx (by omega), fun wx => RInverse_no a wx (by omega)⟩
  obtain ⟨k, l, h29, h30⟩ : ∃ (k : ByteArray) (l : Int), (∀ wx, Calls Try.prog 29 #[.string s] wx fun x w' => x = .returned (.tuple #[.string k, .int .i64 l]) ∧ Onl non wx w') ∧ (∀ wx, Calls Try.prog 30 #[.string s] wx fun x w' => x = .returned (.tuple #[.string k, .int .i64 l]) ∧ Onl non wx w') := by
    by_cases hk : s.size ≤ 249
    · exact ⟨_, _, fun wx => Checks29_ok s wx hk, fun wx => RChecks30_ok s wx hk⟩
    · exact ⟨_, _, fun wx => (Checks29_no s wx (by omega) hs).mono fun _ _ ⟨h1, h2⟩ => ⟨h1, by rw [← h2]; exact Onl.refl _ _⟩, fun wx => (RChecks30_no s wx (by omega) hs).mono fun _ _ ⟨h1, h2⟩ => ⟨h1, by rw [← h2]; exact Onl.refl _ _⟩⟩
  obtain ⟨o, p, h31, h32⟩ : ∃ (o : Int) (p : Bool), (∀ wx, Calls Try.prog 31 #[.string s, .string t] wx fun x w' => x = .returned (.tuple #[.int .i64 o, .bool p]) ∧ Onl non wx w') ∧ (∀ wx, Calls Try.prog 32 #[.string s, .string t] wx fun x w' => x = .returned (.tuple #[.int .i64 o, .bool p]) ∧ Onl non wx w') := by
    by_cases hk : s.size = t.size
    · exact ⟨_, _, fun wx => (Apart31_eq s t wx hk hs).mono fun _ _ ⟨h1, h2⟩ => ⟨h1, (Onl.refl _ _).of_drw h2⟩, fun wx => (RApart32_eq s t wx hk hs).mono fun _ _ ⟨h1, h2⟩ => ⟨h1, (Onl.refl _ _).of_drw h2⟩⟩
    · exact ⟨_, _, fun wx => (Apart31_ne s t wx hk).mono fun _ _ ⟨h1, h2⟩ => ⟨h1, by rw [← h2]; exact Onl.refl _ _⟩, fun wx => (RApart32_ne s t wx hk).mono fun _ _ ⟨h1, h2⟩ => ⟨h1, by rw [← h2]; exact Onl.refl _ _⟩⟩
  have H25 := Lib.hid h25
  have H26 := Lib.hid h26
  have H27 := Lib.hid h27
  have H28 := Lib.hid h28
  have H29 := Lib.hid h29
  have H30 := Lib.hid h30
  have H31 := Lib.hid h31
  have H32 := Lib.hid h32
  clear h25 h26 h27 h28 h29 h30 h31 h32
  go_enter Try.func5, Try.ntmps5
  go_wp2_with fail
  refine (sane17 w).mono ?_
  rintro x w2 ⟨rfl, hO2⟩
  have HO2 := Lib.hid hO2
  clear hO2
  by_cases g1 : 300 < (s.size : Int)
  · go_wp2
    go_ret
    exact ⟨rfl, HO2.out⟩
  by_cases g2 : 300 < (t.size : Int)
  · go_wp2
    go_ret
    exact ⟨rfl, HO2.out⟩
  go_wp2_with fail
  refine (H25.out _).mono ?_
  rintro x w' ⟨rfl, rfl⟩
  go_wp2_with fail
  refine (H27.out _).mono ?_
  rintro x w' ⟨rfl, rfl⟩
  go_wp2_with fail
  refine (H26.out _).mono ?_
  rintro x w' ⟨rfl, rfl⟩
  go_wp2_with fail
  refine (H28.out _).mono ?_
  rintro x w' ⟨rfl, rfl⟩
  go_wp2_with fail
  refine (H29.out _).mono ?_
  rintro x w3 ⟨rfl, hO3⟩
  have HO3 := Lib.hid (HO2.out.trans hO3 (fun _ _ h => h))
  clear hO3 HO2
  go_wp2_with fail
  refine (H30.out _).mono ?_
  rintro x w4 ⟨rfl, hO4⟩
  have HO4 := Lib.hid (HO3.out.trans hO4 (fun _ _ h => h))
  clear hO4 HO3
  go_wp2_with fail
  refine (H31.out _).mono ?_
  rintro x w5 ⟨rfl, hO5⟩
  have HO5 := Lib.hid (HO4.out.trans hO5 (fun _ _ h => h))
  clear hO5 HO4
  go_wp2_with fail
  refine (H32.out _).mono ?_
  rintro x w6 ⟨rfl, hO6⟩
  have HO6 := Lib.hid (HO5.out.trans hO6 (fun _ _ h => h))
  clear hO6 HO5
  have e1 : (c == c) = true := by simp
  have e2 : (d == d) = true := by simp
  have e3 : (e == e) = true := by simp
  have e4 : (f == f) = true := by simp
  have e5 : (k.toList == k.toList) = true := by simp
  have e6 : (l == l) = true := by simp
  have e7 : (o == o) = true := by simp
  have e8 : (p == p) = true := by simp
  go_wp2
  go_ret
  exact ⟨rfl, HO6.out⟩
end Go.Proofs.Ytenngchidlfaeaa
/- RadioCodes: for all integers and all strings the law returns true, and its arguments read as they did; no condition. -/
namespace Go.Proofs.Ytenngchidlfaeaa.radioCodes
open Go.ChangeShapes Go.WideShapes Go.ChangeAt Go.RowKit
open Go.ChangeMaps (open_string shut_string)

set_option maxRecDepth 100000 in
theorem lifted (os : Os) (started : os.Started) (H : Type) (enc : TypeId × Value → H) :
    ReturnsInHanded {} Try.checked os 5 .any (Rows.radioCodesSpec.pre6 enc Try.prog Try.f5 Rows.radioCodesRow.domain false) (Rows.radioCodesSpec.post enc Try.prog Try.f5 false true false false) := by
  refine returnsInHanded_of_change (C := Try.checked) own started (by kernel_rfl) Try.func5
    (ChangeSpec.witness6 (enc := enc) (C := Try.checked) false ⟨#[], #[.int .i64 0, .int .i64 0, .string ⟨#[]⟩, .string ⟨#[]⟩], []⟩ 8 (by kernel_rfl) (by kernel_rfl) (by kernel_rfl) (by kernel_rfl)) ?_
  intro W base args ds gs before hval0 hW hcnd _
  have hval : ∀ (j : Nat) t v, Try.f5.params[j]? = some t → args[j]? = some v → Value.okWide Try.prog W .any base t v := hval0
  have hW' := hW
  obtain ⟨p, q, hA0, hV, rfl, hfz, hnd⟩ := hW
  have hA : DataW.TrodAll enc Try.prog W 0 (fun _ => true) true Try.f5.params.toList args.toList ds p := hA0
  rw [Try.params5] at hA hval
  obtain ⟨v0, vs0, d0, ds0, p0, q0, hargs, rfl, rfl, h0, r0⟩ := trodAll_cons hA
  obtain ⟨v1, vs1, d1, ds1, p1, q1, rfl, rfl, rfl, h1, r1⟩ := trodAll_cons r0
  obtain ⟨v2, vs2, d2, ds2, p2, q2, rfl, rfl, rfl, h2, r2⟩ := trodAll_cons r1
  obtain ⟨v3, vs3, d3, ds3, p3, q3, rfl, rfl, rfl, h3, r3⟩ := trodAll_cons r2
  obtain ⟨rfl, rfl, rfl⟩ := trodAll_nil r3
  obtain rfl : args = #[v0, v1, v2, v3] := by cases args; simp_all
  obtain ⟨a, rfl, _, _, wa⟩ := open_int Try.underlying3 (hval 0 3 v0 rfl rfl) h0
  obtain ⟨b, rfl, _, _, wb⟩ := open_int Try.underlying3 (hval 1 3 v1 rfl rfl) h1
  obtain ⟨s, rfl, _, _, ws⟩ := open_string Try.underlying9 (hval 2 9 v2 rfl rfl) h2
  obtain ⟨t, rfl, _, _, wt⟩ := open_string Try.underlying9 (hval 3 9 v3 rfl rfl) h3
  clear hA0 hval0
  refine (RadioCodes5 a b s t W (wf_range wa) (wf_range wb) ws wt).mono fun x W' ⟨he, hg⟩ => ?_
  subst he
  exact ⟨_, rfl, law_post (by kernel_rfl) (by kernel_rfl) rfl ⟨rfl, rfl, rfl⟩ hW' hg.below⟩

theorem over : Rows.radioCodesRow.holds Try.pinned (OpenSpec.ofChange Rows.radioCodesSpec) :=
  OpenClaim.holds_of_wide 5 Try.f5 rfl rfl rfl rfl rfl rfl rfl ⟨rfl, rfl, rfl, rfl, rfl⟩ rfl rfl rfl rfl rfl (by kernel_rfl) Try.func5 (by kernel_rfl)
    (of_decide_eq_true (by kernel_rfl)) (by unfold Func.isWrapper; first | (rw [if_pos (by decide +kernel)]; kernel_rfl) | (rw [if_neg (by decide +kernel)]; exact ⟨rfl, rfl⟩))
    (fun os started H enc _ => lifted os started H enc)
/-- the statement -/
theorem proved : Rows.RadioCodesSaid := over
#print axioms proved
end Go.Proofs.Ytenngchidlfaeaa.radioCodes
