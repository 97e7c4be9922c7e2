/- RadioField: for all three elements of the field the law returns true, and its arguments read as they did; no condition. -/
import Derived.Test.YtenngchidlfaeaaA8
import Derived.Test.YtenngchidlfaeaaA3
import Derived.Test.YtenngchidlfaeaaA9
/- The law RadioField, walked. -/
namespace Go.Proofs.Ytenngchidlfaeaa
open Go.RowKit

set_option maxRecDepth 100000 in
theorem fieldTimes24 (a b cb : Nat) (w : World) (ha : a < 256) (hb : b < 256) (hB : Blk w cb 4 [.bool true]) :
    Calls Try.prog 24 #[.int .i64 (a : Int), .int .i64 (b : Int), .pointer (some ⟨cb, 0, none⟩)] w fun e w' => e = .returned (.int .i64 (Rad.gm a b : Int)) ∧ Blk w' cb 4 [.bool true] ∧ Onl (one cb) w w' := by
  have HT : Hid (∀ wx, Calls Try.prog 25 #[.int .i64 (a : Int), .int .i64 (b : Int)] wx fun e w' => e = .returned (.tuple #[.int .i64 (Rad.gm a b : Int), .int .i64 0]) ∧ wx = w') := Lib.hid (fun wx => Times25_ok a b wx ha hb)
  have hg := Rad.gm_lt ha b
  obtain ⟨m, hm⟩ : ∃ m, m = Rad.gm a b := ⟨_, rfl⟩
  rw [← hm] at HT hg
  have HM := Lib.hid hm
  clear hm
  have hc : w.cell? ⟨cb, 0, none⟩ = some (.bool true) := hB.cell' rfl
  have hf := hB.free 0
  have HB := Lib.hid hB
  clear hB
  go_enter Try.func24, Try.ntmps24
  go_wp2_with fail
  refine (HT.out _).mono ?_
  rintro e w' ⟨rfl, rfl⟩
  have i0 : (0 : Int) ≤ (m : Int) := by omega
  have i1 : (m : Int) ≤ 255 := by omega
  go_wp2
  go_ret
  exact ⟨by rw [← HM.out]; rfl, HB.out.set 0 _, (Onl.refl _ _).set _ _ (fun _ => rfl)⟩
set_option maxRecDepth 100000 in
set_option maxHeartbeats 1000000 in
theorem RadioField4 (a b c : Nat) (w : World) (ha : a < 256) (hb : b < 256) (hc : c < 256) :
    Calls Try.prog 4 #[.int .u8 (a : Int), .int .u8 (b : Int), .int .u8 (c : Int)] w fun e w' => e = .returned (.bool true) ∧ Onl non w w' := by
  go_enter Try.func4, Try.ntmps4
  go_wp2_with fail
  refine (sane17 w).mono ?_
  rintro x w2 ⟨rfl, hO2⟩
  have HO2 := Lib.hid hO2
  clear hO2
  obtain ⟨cb, hcb⟩ : ∃ cb, cb = w2.heap.size := ⟨_, rfl⟩
  have HT : Hid (∀ (x y m : Nat) (wx : World), x < 256 → y < 256 → m = Rad.gm x y → Blk wx cb 4 [.bool true] → Calls Try.prog 24 #[.int .i64 (x : Int), .int .i64 (y : Int), .pointer (some ⟨cb, 0, none⟩)] wx fun e w' => e = .returned (.int .i64 (m : Int)) ∧ Blk w' cb 4 [.bool true] ∧ Onl (one cb) wx w') := Lib.hid (fun x y m wx hx hy hm hB => by rw [hm]; exact fieldTimes24 x y cb wx hx hy hB)
  obtain ⟨m1, h1⟩ : ∃ m, m = Rad.gm a b := ⟨_, rfl⟩
  obtain ⟨m2, h2⟩ : ∃ m, m = Rad.gm b c := ⟨_, rfl⟩
  obtain ⟨m3, h3⟩ : ∃ m, m = Rad.gm m1 c := ⟨_, rfl⟩
  obtain ⟨m4, h4⟩ : ∃ m, m = Rad.gm a c := ⟨_, rfl⟩
  obtain ⟨m5, h5⟩ : ∃ m, m = Rad.gm a (b ^^^ c) := ⟨_, rfl⟩
  have l1 : m1 < 256 := by rw [h1]; exact Rad.gm_lt ha _
  have l2 : m2 < 256 := by rw [h2]; exact Rad.gm_lt hb _
  have l4 : m4 < 256 := by rw [h4]; exact Rad.gm_lt ha _
  have lx : b ^^^ c < 256 := Rad.xor_lt hb hc
  have g2 : m1 = Rad.gm b a := by rw [h1, Rad.gm_comm ha hb]
  have g3 : m3 = Rad.gm a m2 := by rw [h3, h1, h2, Rad.gm_assoc ha hb hc]
  have g5 : m5 = m1 ^^^ m4 := by rw [h5, h1, h4, Rad.gm_xor_right]
  have G2 := Lib.hid g2
  have G3 := Lib.hid g3
  have H1 := Lib.hid h1
  have H2 := Lib.hid h2
  have H3 := Lib.hid h3
  have H4 := Lib.hid h4
  have H5 := Lib.hid h5
  have X1 := Lib.hid (bxor b c (by omega) (by omega))
  have X2 : Hid (bits .xor .i64 (m1 : Int) (m4 : Int) = (m5 : Int)) := Lib.hid (by rw [bxor m1 m4 (by omega) (by omega), g5])
  obtain ⟨bc, hbc⟩ : ∃ x, x = b ^^^ c := ⟨_, rfl⟩
  rw [← hbc] at X1 lx
  have HBC := Lib.hid hbc
  clear h1 h2 h3 h4 h5 g2 g3 g5 hbc
  go_wp2_with fail
  obtain ⟨w3, hw3⟩ : ∃ w3, w3 = w2.alloc (.cells #[.bool true] 4) := ⟨_, rfl⟩
  rw [← hw3, ← hcb]
  have HB3 : Hid (Blk w3 cb 4 [.bool true]) := Lib.hid (by rw [hw3, hcb]; exact Blk.new w2 4 _)
  have HO3 : Hid (Onl non w w3) := Lib.hid (by rw [hw3]; exact HO2.out.alloc _)
  have HCB : Hid (w.heap.size ≤ cb) := Lib.hid (by rw [hcb]; exact HO2.out.size)
  clear hw3 hcb HO2
  refine (HT.out a b m1 w3 ha hb H1.out HB3.out).mono ?_
  rintro e w4 ⟨rfl, hb4, ho4⟩
  have HB4 := Lib.hid hb4
  have HO4 : Hid (Onl non w w4) := Lib.hid (HO3.out.trans ho4 (fun i hi h => by have h' : i = cb := h; have := HCB.out; omega))
  clear hb4 ho4 HB3 HO3
  go_wp2_with fail
  refine (HT.out b a m1 w4 hb ha G2.out HB4.out).mono ?_
  rintro e w5 ⟨rfl, hb5, ho5⟩
  have HB5 := Lib.hid hb5
  have HO5 : Hid (Onl non w w5) := Lib.hid (HO4.out.trans ho5 (fun i hi h => by have h' : i = cb := h; have := HCB.out; omega))
  clear hb5 ho5 HB4 HO4
  go_wp2_with fail
  refine (HT.out b c m2 w5 hb hc H2.out HB5.out).mono ?_
  rintro e w6 ⟨rfl, hb6, ho6⟩
  have HB6 := Lib.hid hb6
  have HO6 : Hid (Onl non w w6) := Lib.hid (HO5.out.trans ho6 (fun i hi h => by have h' : i = cb := h; have := HCB.out; omega))
  clear hb6 ho6 HB5 HO5
  go_wp2_with fail
  refine (HT.out m1 c m3 w6 l1 hc H3.out HB6.out).mono ?_
  rintro e w7 ⟨rfl, hb7, ho7⟩
  have HB7 := Lib.hid hb7
  have HO7 : Hid (Onl non w w7) := Lib.hid (HO6.out.trans ho7 (fun i hi h => by have h' : i = cb := h; have := HCB.out; omega))
  clear hb7 ho7 HB6 HO6
  go_wp2_with fail
  refine (HT.out a m2 m3 w7 ha l2 G3.out HB7.out).mono ?_
  rintro e w8 ⟨rfl, hb8, ho8⟩
  have HB8 := Lib.hid hb8
  have HO8 : Hid (Onl non w w8) := Lib.hid (HO7.out.trans ho8 (fun i hi h => by have h' : i = cb := h; have := HCB.out; omega))
  clear hb8 ho8 HB7 HO7
  go_wp2_with fail
  refine (HT.out a c m4 w8 ha hc H4.out HB8.out).mono ?_
  rintro e w9 ⟨rfl, hb9, ho9⟩
  have HB9 := Lib.hid hb9
  have HO9 : Hid (Onl non w w9) := Lib.hid (HO8.out.trans ho9 (fun i hi h => by have h' : i = cb := h; have := HCB.out; omega))
  clear hb9 ho9 HB8 HO8
  have x1 := X1.out
  go_wp2_with fail
  clear x1
  refine (HT.out a bc m5 w9 ha lx (by rw [HBC.out]; exact H5.out) HB9.out).mono ?_
  rintro e w10 ⟨rfl, hb10, ho10⟩
  have HB10 := Lib.hid hb10
  have HO10 : Hid (Onl non w w10) := Lib.hid (HO9.out.trans ho10 (fun i hi h => by have h' : i = cb := h; have := HCB.out; omega))
  clear hb10 ho10 HB9 HO9
  go_wp2_with fail
  refine (HT.out a 1 a w10 ha (by omega) (Rad.gm_one_right a).symm HB10.out).mono ?_
  rintro e w11 ⟨rfl, hb11, ho11⟩
  have HB11 := Lib.hid hb11
  have HO11 : Hid (Onl non w w11) := Lib.hid (HO10.out.trans ho11 (fun i hi h => by have h' : i = cb := h; have := HCB.out; omega))
  clear hb11 ho11 HB10 HO10
  go_wp2_with fail
  refine (HT.out a 0 0 w11 ha (by omega) (Rad.gm_zero_right a).symm HB11.out).mono ?_
  rintro e w12 ⟨rfl, hb12, ho12⟩
  have HB12 := Lib.hid hb12
  have HO12 : Hid (Onl non w w12) := Lib.hid (HO11.out.trans ho12 (fun i hi h => by have h' : i = cb := h; have := HCB.out; omega))
  clear hb12 ho12 HB11 HO11
  have x2 := X2.out
  have e1 : ((m1 : Int) != (m1 : Int)) = false := by simp
  have e3 : ((m3 : Int) != (m3 : Int)) = false := by simp
  have e5 : ((m5 : Int) != (m5 : Int)) = false := by simp
  have ea : ((a : Int) != (a : Int)) = false := by simp
  have c0 : w12.cell? ⟨cb, 0, none⟩ = some (.bool true) := HB12.out.cell' rfl
  by_cases h0 : a = 0
  · subst h0
    have hi := fun wx => Inverse26_no 0 wx (.inl (Int.le_refl 0))
    have HI := Lib.hid hi
    clear hi
    go_wp2_with fail
    refine (HI.out _).mono ?_
    rintro e w' ⟨rfl, rfl⟩
    go_wp2
    go_ret
    exact ⟨rfl, HO12.out⟩
  · have HI : Hid (∀ wx, Calls Try.prog 26 #[.int .i64 (a : Int)] wx fun e w' => e = .returned (.tuple #[.int .i64 (Rad.ginv a : Int), .int .i64 0]) ∧ wx = w') := Lib.hid (fun wx => Inverse26_ok a wx ha (by omega))
    obtain ⟨iv, hiv⟩ : ∃ iv, iv = Rad.ginv a := ⟨_, rfl⟩
    have liv : iv < 256 := by rw [hiv]; exact Rad.ginv_lt ha
    have hg1 : 1 = Rad.gm a iv := by rw [hiv, Rad.gm_ginv ha h0]
    rw [← hiv] at HI
    have HG := Lib.hid hg1
    have hb0 : ((a : Int) == 0) = false := ne_beq (b := 0) h0
    clear hiv hg1
    go_wp2_with fail
    refine (HI.out _).mono ?_
    rintro e w' ⟨rfl, rfl⟩
    go_wp2_with fail
    refine (HT.out a iv 1 w12 ha liv HG.out HB12.out).mono ?_
    rintro e wz ⟨rfl, hbz, hoz⟩
    have HOz : Hid (Onl non w wz) := Lib.hid (HO12.out.trans hoz (fun i hi h => by have h' : i = cb := h; have := HCB.out; omega))
    have cz : wz.cell? ⟨cb, 0, none⟩ = some (.bool true) := hbz.cell' rfl
    clear hbz hoz c0
    go_wp2
    go_ret
    exact ⟨rfl, HOz.out⟩
end Go.Proofs.Ytenngchidlfaeaa
/- RadioField: for all elements of the field the law returns true, and its arguments read as they did; no condition. -/
namespace Go.Proofs.Ytenngchidlfaeaa.radioField
open Go.ChangeShapes Go.WideShapes Go.ChangeAt Go.RowKit
open Go.ChangeMaps (open_string shut_string)

set_option maxRecDepth 100000 in
theorem lifted (os : Os) (started : os.Started) (H : Type) (enc : TypeId × Value → H) :
    ReturnsInHanded {} Try.checked os 4 .any (Rows.radioFieldSpec.pre6 enc Try.prog Try.f4 Rows.radioFieldRow.domain false) (Rows.radioFieldSpec.post enc Try.prog Try.f4 false true false false) := by
  refine returnsInHanded_of_change (C := Try.checked) own started (by kernel_rfl) Try.func4
    (ChangeSpec.witness6 (enc := enc) (C := Try.checked) false ⟨#[], #[.int .u8 0, .int .u8 0, .int .u8 0], []⟩ 8 (by kernel_rfl) (by kernel_rfl) (by kernel_rfl) (by kernel_rfl)) ?_
  intro W base args ds gs before hval0 hW hcnd _
  have hval : ∀ (j : Nat) t v, Try.f4.params[j]? = some t → args[j]? = some v → Value.okWide Try.prog W .any base t v := hval0
  have hW' := hW
  obtain ⟨p, q, hA0, hV, rfl, hfz, hnd⟩ := hW
  have hA : DataW.TrodAll enc Try.prog W 0 (fun _ => true) true Try.f4.params.toList args.toList ds p := hA0
  rw [Try.params4] at hA hval
  obtain ⟨v0, vs0, d0, ds0, p0, q0, hargs, rfl, rfl, h0, r0⟩ := trodAll_cons hA
  obtain ⟨v1, vs1, d1, ds1, p1, q1, rfl, rfl, rfl, h1, r1⟩ := trodAll_cons r0
  obtain ⟨v2, vs2, d2, ds2, p2, q2, rfl, rfl, rfl, h2, r2⟩ := trodAll_cons r1
  obtain ⟨rfl, rfl, rfl⟩ := trodAll_nil r2
  obtain rfl : args = #[v0, v1, v2] := by cases args; simp_all
  obtain ⟨a, rfl, _, _, wa⟩ := open_int Try.underlying5 (hval 0 5 v0 rfl rfl) h0
  obtain ⟨b, rfl, _, _, wb⟩ := open_int Try.underlying5 (hval 1 5 v1 rfl rfl) h1
  obtain ⟨c, rfl, _, _, wc⟩ := open_int Try.underlying5 (hval 2 5 v2 rfl rfl) h2
  have ba := bounds_u8 wa
  have bb := bounds_u8 wb
  have bc := bounds_u8 wc
  obtain ⟨a, rfl⟩ : ∃ a' : Nat, a = (a' : Int) := ⟨a.toNat, by omega⟩
  obtain ⟨b, rfl⟩ : ∃ b' : Nat, b = (b' : Int) := ⟨b.toNat, by omega⟩
  obtain ⟨c, rfl⟩ : ∃ c' : Nat, c = (c' : Int) := ⟨c.toNat, by omega⟩
  clear hA0 hval0
  refine (RadioField4 a b c W (by omega) (by omega) (by omega)).mono fun x W' ⟨he, hg⟩ => ?_
  subst he
  exact ⟨_, rfl, law_post (by kernel_rfl) (by kernel_rfl) rfl ⟨rfl, rfl, rfl⟩ hW' hg.below⟩

theorem over : Rows.radioFieldRow.holds Try.pinned (OpenSpec.ofChange Rows.radioFieldSpec) :=
  OpenClaim.holds_of_wide 4 Try.f4 rfl rfl rfl rfl rfl rfl rfl ⟨rfl, rfl, rfl, rfl, rfl⟩ rfl rfl rfl rfl rfl (by kernel_rfl) Try.func4 (by kernel_rfl)
    (of_decide_eq_true (by kernel_rfl)) (by unfold Func.isWrapper; first | (rw [if_pos (by decide +kernel)]; kernel_rfl) | (rw [if_neg (by decide +kernel)]; exact ⟨rfl, rfl⟩))
    (fun os started H enc _ => lifted os started H enc)
/-- the statement -/
theorem proved : Rows.RadioFieldSaid := over
#print axioms proved
end Go.Proofs.Ytenngchidlfaeaa.radioField
