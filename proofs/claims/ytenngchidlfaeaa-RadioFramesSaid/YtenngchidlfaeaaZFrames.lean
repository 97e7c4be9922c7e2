/- RadioFrames: for every frame and every string the law returns true, and its arguments read as they did; no condition. -/
import Derived.Test.YtenngchidlfaeaaA8
import Derived.Test.YtenngchidlfaeaaA4
import Derived.Test.YtenngchidlfaeaaA9
/- The law RadioFrames, walked. -/
namespace Go.Proofs.Ytenngchidlfaeaa
open Go.RowKit

set_option maxRecDepth 100000 in
set_option maxHeartbeats 1000000 in
theorem RadioFrames3 (o n p q : Int) (b s : ByteArray) (w : World) (hb : b.size ≤ 9223372036854775807) (hs : s.size ≤ 9223372036854775807) :
    Calls Try.prog 3 #[.agg #[.int .i64 o, .int .i64 n, .int .i64 p, .int .i64 q, .string b], .string s] w fun e w' => e = .returned (.bool true) ∧ Onl non w w' := by
  obtain ⟨S, c, h18, h19, h22, h23⟩ : ∃ (S : ByteArray) (c : Int),
      (∀ wx, Calls Try.prog 18 #[.agg #[.int .i64 o, .int .i64 n, .int .i64 p, .int .i64 q, .string b]] wx fun e w' => e = .returned (.tuple #[.string S, .int .i64 c]) ∧ Onl non wx w') ∧
      (∀ wx, Calls Try.prog 19 #[.agg #[.int .i64 o, .int .i64 n, .int .i64 p, .int .i64 q, .string b]] wx fun e w' => e = .returned (.tuple #[.string S, .int .i64 c]) ∧ Onl non wx w') ∧
      (∀ wx, Calls Try.prog 22 #[.agg #[.int .i64 o, .int .i64 n, .int .i64 p, .int .i64 q, .string b]] wx fun e w' => e = .returned (.int .i64 c) ∧ Onl non wx w') ∧
      (∀ wx, Calls Try.prog 23 #[.agg #[.int .i64 o, .int .i64 n, .int .i64 p, .int .i64 q, .string b]] wx fun e w' => e = .returned (.int .i64 c) ∧ Onl non wx w') := by
    by_cases hk : OkF o n p q b.size
    · obtain ⟨o, rfl⟩ : ∃ o' : Nat, o = (o' : Int) := ⟨o.toNat, by have := hk.1; omega⟩
      obtain ⟨n, rfl⟩ : ∃ n' : Nat, n = (n' : Int) := ⟨n.toNat, by have := hk.2.1; omega⟩
      obtain ⟨p, rfl⟩ : ∃ p' : Nat, p = (p' : Int) := ⟨p.toNat, by have := hk.2.2.2.1; omega⟩
      obtain ⟨q, rfl⟩ : ∃ q' : Nat, q = (q' : Int) := ⟨q.toNat, by have := hk.2.2.1; omega⟩
      exact ⟨sb (enc o n p q b), 0, fun wx => Encode18_ok o n p q b wx hk, fun wx => REncode19_ok o n p q b wx hk, fun wx => CheckFrame_ok _ _ _ _ b wx hk, fun wx => RCheckFrame_ok _ _ _ _ b wx hk⟩
    · exact ⟨⟨#[]⟩, 90, fun wx => Encode18_no o n p q b wx hb hk, fun wx => REncode19_no o n p q b wx hb hk, fun wx => CheckFrame_no _ _ _ _ b wx hb hk, fun wx => RCheckFrame_no _ _ _ _ b wx hb hk⟩
  obtain ⟨a0, a1, a2, a3, b0, k0, c0, h20, h21⟩ : ∃ (a0 a1 a2 a3 : Int) (b0 : ByteArray) (k0 c0 : Int),
      (∀ wx, Calls Try.prog 20 #[.string s] wx fun e w' => e = .returned (.tuple #[.agg #[.int .i64 a0, .int .i64 a1, .int .i64 a2, .int .i64 a3, .string b0], .int .i64 k0, .int .i64 c0]) ∧ Onl non wx w') ∧
      (∀ wx, Calls Try.prog 21 #[.string s] wx fun e w' => e = .returned (.tuple #[.agg #[.int .i64 a0, .int .i64 a1, .int .i64 a2, .int .i64 a3, .string b0], .int .i64 k0, .int .i64 c0]) ∧ Onl non wx w') := by
    have h1 := fun wx => Decode20 s wx hs
    have h2 := fun wx => RDecode21 s wx hs
    cases hd : dec (bl s) with
    | none => rw [hd] at h1 h2; exact ⟨0, 0, 0, 0, ⟨#[]⟩, 0, 91, h1, h2⟩
    | some d => rw [hd] at h1 h2; exact ⟨d.o, d.n, d.p, d.q, sb d.body, d.k, 0, h1, h2⟩
  have H18 := Lib.hid h18
  have H19 := Lib.hid h19
  have H20 := Lib.hid h20
  have H21 := Lib.hid h21
  have H22 := Lib.hid h22
  have H23 := Lib.hid h23
  clear h18 h19 h20 h21 h22 h23
  obtain ⟨w1, hw1⟩ : ∃ w1, w1 = w.alloc (.cells #[.int .i64 o, .int .i64 n, .int .i64 p, .int .i64 q, .string b] 23) := ⟨_, rfl⟩
  have HX1 : Hid (Blk w1 w.heap.size 23 [.int .i64 o, .int .i64 n, .int .i64 p, .int .i64 q, .string b]) := Lib.hid (by rw [hw1]; exact Blk.new w 23 _)
  have HO1 : Hid (Onl non w w1) := Lib.hid (by rw [hw1]; exact (Onl.refl _ _).alloc _)
  go_enter Try.func3, Try.ntmps3
  go_wp2_with fail
  rw [← hw1]
  clear hw1
  refine (sane17 w1).mono ?_
  rintro e w2 ⟨rfl, hO2⟩
  have HX2 := Lib.hid (HX1.out.onl hO2 (fun h => h))
  have HO2 := Lib.hid (HO1.out.trans hO2 (fun _ _ h => h))
  clear hO2 HX1 HO1
  have x0 : w2.cell? ⟨w.heap.size, 0, none⟩ = some (.int .i64 o) := HX2.out.cell' rfl
  have x1 : w2.cell? ⟨w.heap.size, 1, none⟩ = some (.int .i64 n) := HX2.out.cell' rfl
  have x2 : w2.cell? ⟨w.heap.size, 2, none⟩ = some (.int .i64 p) := HX2.out.cell' rfl
  have x3 : w2.cell? ⟨w.heap.size, 3, none⟩ = some (.int .i64 q) := HX2.out.cell' rfl
  have x4 : w2.cell? ⟨w.heap.size, 4, none⟩ = some (.string b) := HX2.out.cell' rfl
  by_cases g1 : 300 < (s.size : Int)
  · go_wp2
    go_ret
    exact ⟨rfl, HO2.out⟩
  by_cases g2 : 300 < (b.size : Int)
  · go_wp2
    go_ret
    exact ⟨rfl, HO2.out⟩
  go_wp2_with fail
  refine (H18.out _).mono ?_
  rintro e w3 ⟨rfl, hO3⟩
  have HX3 := Lib.hid (HX2.out.onl hO3 (fun h => h))
  have HO3 := Lib.hid (HO2.out.trans hO3 (fun _ _ h => h))
  clear hO3 HX2 HO2 x0 x1 x2 x3 x4
  have x0 : w3.cell? ⟨w.heap.size, 0, none⟩ = some (.int .i64 o) := HX3.out.cell' rfl
  have x1 : w3.cell? ⟨w.heap.size, 1, none⟩ = some (.int .i64 n) := HX3.out.cell' rfl
  have x2 : w3.cell? ⟨w.heap.size, 2, none⟩ = some (.int .i64 p) := HX3.out.cell' rfl
  have x3 : w3.cell? ⟨w.heap.size, 3, none⟩ = some (.int .i64 q) := HX3.out.cell' rfl
  have x4 : w3.cell? ⟨w.heap.size, 4, none⟩ = some (.string b) := HX3.out.cell' rfl
  go_wp2_with fail
  refine (H19.out _).mono ?_
  rintro e w4 ⟨rfl, hO4⟩
  have HX4 := Lib.hid (HX3.out.onl hO4 (fun h => h))
  have HO4 := Lib.hid (HO3.out.trans hO4 (fun _ _ h => h))
  clear hO4 HX3 HO3 x0 x1 x2 x3 x4
  go_wp2_with fail
  refine (H20.out _).mono ?_
  rintro e w5 ⟨rfl, hO5⟩
  have HX5 := Lib.hid (HX4.out.onl hO5 (fun h => h))
  have HO5 := Lib.hid (HO4.out.trans hO5 (fun _ _ h => h))
  clear hO5 HX4 HO4
  go_wp2_with fail
  obtain ⟨w6, hw6⟩ : ∃ w6, w6 = w5.alloc (.cells #[.int .i64 a0, .int .i64 a1, .int .i64 a2, .int .i64 a3, .string b0] 23) := ⟨_, rfl⟩
  rw [← hw6]
  have HO6 : Hid (Onl non w w6) := Lib.hid (by rw [hw6]; exact HO5.out.alloc _)
  have HX6 : Hid (Blk w6 w.heap.size 23 [.int .i64 o, .int .i64 n, .int .i64 p, .int .i64 q, .string b]) := Lib.hid (by rw [hw6]; exact HX5.out.alloc _)
  have HA6 : Hid (Blk w6 w5.heap.size 23 [.int .i64 a0, .int .i64 a1, .int .i64 a2, .int .i64 a3, .string b0]) := Lib.hid (by rw [hw6]; exact Blk.new w5 23 _)
  clear hw6 HO5 HX5
  obtain ⟨ga, hga⟩ : ∃ ga, ga = w5.heap.size := ⟨_, rfl⟩
  rw [← hga] at HA6 ⊢
  clear hga
  refine (H21.out _).mono ?_
  rintro e w7 ⟨rfl, hO7⟩
  have HX7 := Lib.hid (HX6.out.onl hO7 (fun h => h))
  have HA7 := Lib.hid (HA6.out.onl hO7 (fun h => h))
  have HO7 := Lib.hid (HO6.out.trans hO7 (fun _ _ h => h))
  clear hO7 HX6 HA6 HO6
  have hgd : Try.prog.eqGuardType Try.prog.depth 23 = false := by kernel_rfl
  have heq : ∀ wx, (binOp .eql 23 (.agg #[.int .i64 a0, .int .i64 a1, .int .i64 a2, .int .i64 a3, .string b0]) (.agg #[.int .i64 a0, .int .i64 a1, .int .i64 a2, .int .i64 a3, .string b0])).run Try.prog wx = .ok (.bool true) wx := fun wx => by
    rw [eql23, eqF_iff, decide_eq_true ⟨rfl, rfl, rfl, rfl, rfl⟩]
  have hcc : (c == c) = true := by simp
  have hSS : (S.toList == S.toList) = true := by simp
  have hk0 : (k0 == k0) = true := by simp
  have hc0 : (c0 == c0) = true := by simp
  go_wp2_with fail
  obtain ⟨w8, hw8⟩ : ∃ w8, w8 = w7.alloc (.cells #[.int .i64 a0, .int .i64 a1, .int .i64 a2, .int .i64 a3, .string b0] 23) := ⟨_, rfl⟩
  rw [← hw8]
  have HO8 : Hid (Onl non w w8) := Lib.hid (by rw [hw8]; exact HO7.out.alloc _)
  have HX8 : Hid (Blk w8 w.heap.size 23 [.int .i64 o, .int .i64 n, .int .i64 p, .int .i64 q, .string b]) := Lib.hid (by rw [hw8]; exact HX7.out.alloc _)
  have HA8 : Hid (Blk w8 ga 23 [.int .i64 a0, .int .i64 a1, .int .i64 a2, .int .i64 a3, .string b0]) := Lib.hid (by rw [hw8]; exact HA7.out.alloc _)
  have HC8 : Hid (Blk w8 w7.heap.size 23 [.int .i64 a0, .int .i64 a1, .int .i64 a2, .int .i64 a3, .string b0]) := Lib.hid (by rw [hw8]; exact Blk.new w7 23 _)
  clear hw8 HO7 HX7 HA7
  obtain ⟨gc, hgc⟩ : ∃ gc, gc = w7.heap.size := ⟨_, rfl⟩
  rw [← hgc] at HC8 ⊢
  clear hgc
  have y0 : ∀ x : Ext non w8, x.val.cell? ⟨w.heap.size, 0, none⟩ = some (.int .i64 o) := fun x => (HX8.out.onl x.property (fun h => h)).cell' rfl
  have y1 : ∀ x : Ext non w8, x.val.cell? ⟨w.heap.size, 1, none⟩ = some (.int .i64 n) := fun x => (HX8.out.onl x.property (fun h => h)).cell' rfl
  have y2 : ∀ x : Ext non w8, x.val.cell? ⟨w.heap.size, 2, none⟩ = some (.int .i64 p) := fun x => (HX8.out.onl x.property (fun h => h)).cell' rfl
  have y3 : ∀ x : Ext non w8, x.val.cell? ⟨w.heap.size, 3, none⟩ = some (.int .i64 q) := fun x => (HX8.out.onl x.property (fun h => h)).cell' rfl
  have y4 : ∀ x : Ext non w8, x.val.cell? ⟨w.heap.size, 4, none⟩ = some (.string b) := fun x => (HX8.out.onl x.property (fun h => h)).cell' rfl
  have z0 : ∀ x : Ext non w8, x.val.cell? ⟨ga, 0, none⟩ = some (.int .i64 a0) := fun x => (HA8.out.onl x.property (fun h => h)).cell' rfl
  have z1 : ∀ x : Ext non w8, x.val.cell? ⟨ga, 1, none⟩ = some (.int .i64 a1) := fun x => (HA8.out.onl x.property (fun h => h)).cell' rfl
  have z2 : ∀ x : Ext non w8, x.val.cell? ⟨ga, 2, none⟩ = some (.int .i64 a2) := fun x => (HA8.out.onl x.property (fun h => h)).cell' rfl
  have z3 : ∀ x : Ext non w8, x.val.cell? ⟨ga, 3, none⟩ = some (.int .i64 a3) := fun x => (HA8.out.onl x.property (fun h => h)).cell' rfl
  have z4 : ∀ x : Ext non w8, x.val.cell? ⟨ga, 4, none⟩ = some (.string b0) := fun x => (HA8.out.onl x.property (fun h => h)).cell' rfl
  have u0 : ∀ x : Ext non w8, x.val.cell? ⟨gc, 0, none⟩ = some (.int .i64 a0) := fun x => (HC8.out.onl x.property (fun h => h)).cell' rfl
  have u1 : ∀ x : Ext non w8, x.val.cell? ⟨gc, 1, none⟩ = some (.int .i64 a1) := fun x => (HC8.out.onl x.property (fun h => h)).cell' rfl
  have u2 : ∀ x : Ext non w8, x.val.cell? ⟨gc, 2, none⟩ = some (.int .i64 a2) := fun x => (HC8.out.onl x.property (fun h => h)).cell' rfl
  have u3 : ∀ x : Ext non w8, x.val.cell? ⟨gc, 3, none⟩ = some (.int .i64 a3) := fun x => (HC8.out.onl x.property (fun h => h)).cell' rfl
  have u4 : ∀ x : Ext non w8, x.val.cell? ⟨gc, 4, none⟩ = some (.string b0) := fun x => (HC8.out.onl x.property (fun h => h)).cell' rfl
  refine wp_region_quiet_class (fun w' => ∃ x : Ext non w8, w' = x.val) (by kernel_rfl) (by kernel_rfl) ⟨⟨w8.drew, (Onl.refl non w8).drew⟩, rfl⟩ ?_
  repeat (go_big_quiet_step ((first | (go_at_call 22; exact qext (H22.out _)) | (go_at_call 23; exact qext (H23.out _)))))
  refine wpQuiet_nil ?_
  intro w9 hw'
  obtain ⟨x, hx⟩ := hw'
  have hO9 := x.property
  rw [← hx] at hO9
  clear y0 y1 y2 y3 y4 z0 z1 z2 z3 z4 u0 u1 u2 u3 u4 hx heq
  go_wp2
  go_ret
  exact ⟨rfl, HO8.out.trans hO9 (fun _ _ h => h)⟩
end Go.Proofs.Ytenngchidlfaeaa
/- RadioFrames: for every frame and every string the law returns true, and its arguments read as they did; no condition. -/
namespace Go.Proofs.Ytenngchidlfaeaa.radioFrames
open Go.ChangeShapes Go.WideShapes Go.ChangeAt Go.RowKit
open Go.ChangeMaps (open_string shut_string)

set_option maxRecDepth 100000 in
theorem lifted (os : Os) (started : os.Started) (H : Type) (enc : TypeId × Value → H) :
    ReturnsInHanded {} Try.checked os 3 .any (Rows.radioFramesSpec.pre6 enc Try.prog Try.f3 Rows.radioFramesRow.domain false) (Rows.radioFramesSpec.post enc Try.prog Try.f3 false true false false) := by
  refine returnsInHanded_of_change (C := Try.checked) own started (by kernel_rfl) Try.func3
    (ChangeSpec.witness6 (enc := enc) (C := Try.checked) false ⟨#[], #[.agg #[.int .i64 0, .int .i64 0, .int .i64 0, .int .i64 0, .string ⟨#[]⟩], .string ⟨#[]⟩], []⟩ 8 (by kernel_rfl) (by kernel_rfl) (by kernel_rfl) (by kernel_rfl)) ?_
  intro W base args ds gs before hval0 hW hcnd _
  have hval : ∀ (j : Nat) t v, Try.f3.params[j]? = some t → args[j]? = some v → Value.okWide Try.prog W .any base t v := hval0
  have hW' := hW
  obtain ⟨p, q, hA0, hV, rfl, hfz, hnd⟩ := hW
  have hA : DataW.TrodAll enc Try.prog W 0 (fun _ => true) true Try.f3.params.toList args.toList ds p := hA0
  rw [Try.params3] at hA hval
  obtain ⟨v0, vs0, d0, ds0, p0, q0, hargs, rfl, rfl, h0, r0⟩ := trodAll_cons hA
  obtain ⟨v1, vs1, d1, ds1, p1, q1, rfl, rfl, rfl, h1, r1⟩ := trodAll_cons r0
  obtain ⟨rfl, rfl, rfl⟩ := trodAll_nil r1
  obtain rfl : args = #[v0, v1] := by cases args; simp_all
  obtain ⟨a, b, c, e, s, rfl, wa, wb, wc, we, ws⟩ := open_frame (hval 0 23 v0 rfl rfl) h0
  obtain ⟨t, rfl, _, _, wt⟩ := open_string Try.underlying9 (hval 1 9 v1 rfl rfl) h1
  clear hA0 hval0
  refine (RadioFrames3 a b c e s t W ws wt).mono fun x W' ⟨he, hg⟩ => ?_
  subst he
  exact ⟨_, rfl, law_post (by kernel_rfl) (by kernel_rfl) rfl ⟨rfl, rfl, rfl⟩ hW' hg.below⟩

theorem over : Rows.radioFramesRow.holds Try.pinned (OpenSpec.ofChange Rows.radioFramesSpec) :=
  OpenClaim.holds_of_wide 3 Try.f3 rfl rfl rfl rfl rfl rfl rfl ⟨rfl, rfl, rfl, rfl, rfl⟩ rfl rfl rfl rfl rfl (by kernel_rfl) Try.func3 (by kernel_rfl)
    (of_decide_eq_true (by kernel_rfl)) (by unfold Func.isWrapper; first | (rw [if_pos (by decide +kernel)]; kernel_rfl) | (rw [if_neg (by decide +kernel)]; exact ⟨rfl, rfl⟩))
    (fun os started H enc _ => lifted os started H enc)
/-- the statement -/
theorem proved : Rows.RadioFramesSaid := over
#print axioms proved
end Go.Proofs.Ytenngchidlfaeaa.radioFrames
