/- RadioCorrects: for all frames and all bytes to be changed on the way the law returns true, and its arguments read as they did; no condition. -/
import Derived.Test.YtenngchidlfaeaaB1
import Derived.Test.YtenngchidlfaeaaA8
import Derived.Test.YtenngchidlfaeaaA6
import Derived.Test.YtenngchidlfaeaaA9
/- The law RadioCorrects, walked. -/
namespace Go.Proofs.Ytenngchidlfaeaa
open Go.RowKit

theorem enc_inj {o n p q o2 n2 p2 q2 : Nat} {b b2 : ByteArray} (h : OkF o n p q b.size) (h2 : OkF o2 n2 p2 q2 b2.size) (he : enc o n p q b = enc o2 n2 p2 q2 b2) : o = o2 ∧ n = n2 ∧ p = p2 ∧ q = q2 ∧ b = b2 := by
  have l1 := enc_length o n p q b
  have l2 := enc_length o2 n2 p2 q2 b2
  have hl : b2.size = b.size := by rw [he] at l1; omega
  have e1 := dec_enc h l1 (by rw [Rad.dist_self]; omega)
  have e2 := dec_enc h2 (t := enc o n p q b) (by rw [l1, hl]) (by rw [← he, Rad.dist_self]; omega)
  rw [e1] at e2
  have e := Option.some.inj e2
  injection e with x1 x2 x3 x4 x5 _
  exact ⟨x1, x2, x3, x4, bl_inj x5⟩
theorem enc_apart {o n p q o2 n2 p2 q2 : Nat} {b b2 : ByteArray} (h : OkF o n p q b.size) (h2 : OkF o2 n2 p2 q2 b2.size) (hl : b2.size = b.size) (hne : ¬ (o = o2 ∧ n = n2 ∧ p = p2 ∧ q = q2 ∧ b = b2)) : 7 ≤ Rad.dist (enc o n p q b) (enc o2 n2 p2 q2 b2) := by
  by_cases hd : 7 ≤ Rad.dist (enc o n p q b) (enc o2 n2 p2 q2 b2)
  · exact hd
  · have hm := (okF_lt h).2.2.2.2
    exact absurd (enc_inj h h2 (Rad.code_apart (enc_bytes h) (enc_bytes h2) (by rw [enc_length, enc_length, hl]) (by rw [enc_length]; omega) (enc_code h) (enc_code h2) (by omega))) hne
/-- what is decoded from an encoding with k wrong bytes -/
structure Got8 (o n p q : Int) (b : ByteArray) (T : ByteArray) (k : Nat) (a0 a1 a2 a3 : Int) (b0 : ByteArray) (k0 c0 : Int) : Prop where
  call : ∀ wx, Calls Try.prog 20 #[.string T] wx fun e w' => e = .returned (.tuple #[.agg #[.int .i64 a0, .int .i64 a1, .int .i64 a2, .int .i64 a3, .string b0], .int .i64 k0, .int .i64 c0]) ∧ Onl non wx w'
  near : k ≤ 2 → c0 = 0 ∧ a0 = o ∧ a1 = n ∧ a2 = p ∧ a3 = q ∧ b0 = b ∧ k0 = k
  mid : k = 3 ∨ k = 4 → c0 = 91
  none : c0 ≠ 0 → c0 = 91 ∧ a0 = 0 ∧ a1 = 0 ∧ a2 = 0 ∧ a3 = 0 ∧ b0 = ⟨#[]⟩ ∧ k0 = 0
  some : c0 = 0 → ∃ S : ByteArray, (∀ wx, Calls Try.prog 18 #[.agg #[.int .i64 a0, .int .i64 a1, .int .i64 a2, .int .i64 a3, .string b0]] wx fun e w' => e = .returned (.tuple #[.string S, .int .i64 0]) ∧ Onl non wx w') ∧ (∀ wx, Calls Try.prog 31 #[.string S, .string T] wx fun e w' => e = .returned (.tuple #[.int .i64 k0, .bool true]) ∧ Drw wx w') ∧ k0 ≤ 2
theorem got8 {o n p q : Nat} {b : ByteArray} (h : OkF o n p q b.size) {t : List Nat} (hb : Rad.Bytes t) (hl : t.length = 10 + b.size) :
    ∃ (a0 a1 a2 a3 : Int) (b0 : ByteArray) (k0 c0 : Int), Got8 o n p q b (sb t) (Rad.dist t (enc o n p q b)) a0 a1 a2 a3 b0 k0 c0 := by
  have hm := (okF_lt h).2.2.2.2
  have hs : (sb t).size ≤ 9223372036854775807 := by rw [sb_size]; omega
  have hc := fun wx => Decode20 (sb t) wx hs
  rw [bl_sb hb] at hc
  cases hd : dec t with
  | none =>
    rw [hd] at hc
    refine ⟨0, 0, 0, 0, ⟨#[]⟩, 0, 91, hc, fun hk => ?_, fun _ => rfl, fun _ => ⟨rfl, rfl, rfl, rfl, rfl, rfl, rfl⟩, fun hx => absurd hx (by omega)⟩
    rw [Rad.dist_comm] at hk
    rw [dec_enc h hl hk] at hd; cases hd
  | some d =>
    rw [hd] at hc
    obtain ⟨hok, hby, hln, hdk, hk2, _, _⟩ := dec_some hd
    refine ⟨d.o, d.n, d.p, d.q, sb d.body, d.k, 0, hc, fun hk => ?_, fun hk => ?_, fun hx => absurd rfl hx, fun _ => ⟨sb (enc d.o d.n d.p d.q (sb d.body)), ?_, fun wx => ?_, by omega⟩⟩
    · rw [Rad.dist_comm] at hk
      rw [dec_enc h hl hk] at hd
      have e := Option.some.inj hd
      subst e
      exact ⟨rfl, rfl, rfl, rfl, rfl, sb_bl b, by rw [Rad.dist_comm]⟩
    · rw [Rad.dist_comm] at hk
      rw [dec_far h hl (by omega) (by omega)] at hd; cases hd
    · intro wx; exact Encode18_ok _ _ _ _ _ wx (by rw [sb_size]; exact hok)
    · have h5 : OkF d.o d.n d.p d.q (sb d.body).size := by rw [sb_size]; exact hok
      have h6 := Apart31_eq (sb (enc d.o d.n d.p d.q (sb d.body))) (sb t) wx (by rw [sb_size, sb_size, hln]) (by rw [sb_size, hln]; omega)
      rw [bl_sb (enc_bytes h5), bl_sb hb, hdk] at h6
      exact h6
set_option maxRecDepth 100000 in
set_option maxHeartbeats 1000000 in
theorem RadioCorrects8 (o n p q : Int) (b : ByteArray) (o2 n2 p2 q2 : Int) (b2 : ByteArray) (A B : List Nat) (ao bo : Option Addr) (na nb ca cb : Nat) (w : World) (hb : b.size ≤ 9223372036854775807) (hb2 : b2.size ≤ 9223372036854775807)
    (hna : na = A.length) (hnb : nb = B.length) (hna2 : na ≤ 9223372036854775807) (hnb2 : nb ≤ 9223372036854775807) (hA : RdU w ao A) (hB : RdU w bo B) (hA2 : Rad.Bytes A) (hB2 : Rad.Bytes B) :
    Calls Try.prog 8 #[.agg #[.int .i64 o, .int .i64 n, .int .i64 p, .int .i64 q, .string b], .agg #[.int .i64 o2, .int .i64 n2, .int .i64 p2, .int .i64 q2, .string b2], .slice ao na ca, .slice bo nb cb] w fun e w' => e = .returned (.bool true) ∧ Onl non w w' := by
  obtain ⟨w1, hw1⟩ : ∃ w1, w1 = (w.alloc (.cells #[.int .i64 o, .int .i64 n, .int .i64 p, .int .i64 q, .string b] 23)).alloc (.cells #[.int .i64 o2, .int .i64 n2, .int .i64 p2, .int .i64 q2, .string b2] 23) := ⟨_, rfl⟩
  have HX1 : Hid (Blk w1 w.heap.size 23 [.int .i64 o, .int .i64 n, .int .i64 p, .int .i64 q, .string b]) := Lib.hid (by rw [hw1]; exact (Blk.new w 23 _).onl ((Onl.refl non _).alloc _) (fun h => h))
  have HY1 : Hid (Blk w1 (w.heap.size + 1) 23 [.int .i64 o2, .int .i64 n2, .int .i64 p2, .int .i64 q2, .string b2]) := Lib.hid (by rw [hw1]; have h := Blk.new (w.alloc (.cells #[.int .i64 o, .int .i64 n, .int .i64 p, .int .i64 q, .string b] 23)) 23 [.int .i64 o2, .int .i64 n2, .int .i64 p2, .int .i64 q2, .string b2]; simpa using h)
  have HO1 : Hid (Onl non w w1) := Lib.hid (by rw [hw1]; exact ((Onl.refl _ _).alloc _).alloc _)
  have HNa := Lib.hid hna
  have HNb := Lib.hid hnb
  have HRA := Lib.hid hA
  have HRB := Lib.hid hB
  clear hA hB hna hnb
  go_enter Try.func8, Try.ntmps8
  go_wp2_with fail
  rw [← hw1]
  clear hw1

  refine (sane17 w1).mono ?_
  rintro e w2 ⟨rfl, hOw2⟩
  have HX2 := Lib.hid (HX1.out.onl hOw2 (fun h => h))
  have HY2 := Lib.hid (HY1.out.onl hOw2 (fun h => h))
  have HO2 := Lib.hid (HO1.out.trans hOw2 (fun _ _ h => h))
  clear hOw2 HX1 HY1 HO1
  have x0 : w2.cell? ⟨w.heap.size, 0, none⟩ = some (.int .i64 o) := HX2.out.cell' rfl
  have x1 : w2.cell? ⟨w.heap.size, 1, none⟩ = some (.int .i64 n) := HX2.out.cell' rfl
  have x2 : w2.cell? ⟨w.heap.size, 2, none⟩ = some (.int .i64 p) := HX2.out.cell' rfl
  have x3 : w2.cell? ⟨w.heap.size, 3, none⟩ = some (.int .i64 q) := HX2.out.cell' rfl
  have x4 : w2.cell? ⟨w.heap.size, 4, none⟩ = some (.string b) := HX2.out.cell' rfl
  by_cases hk : OkF o n p q b.size
  rotate_left
  · go_wp2_with fail
    refine (Encode18_no o n p q b w2 hb hk).mono ?_
    rintro e w3 ⟨rfl, hOw3⟩
    have HX3 := Lib.hid (HX2.out.onl hOw3 (fun h => h))
    have HY3 := Lib.hid (HY2.out.onl hOw3 (fun h => h))
    have HO3 := Lib.hid (HO2.out.trans hOw3 (fun _ _ h => h))
    clear hOw3 HX2 HY2 HO2
    clear x0 x1 x2 x3 x4
    have x0 : w3.cell? ⟨w.heap.size, 0, none⟩ = some (.int .i64 o) := HX3.out.cell' rfl
    have x1 : w3.cell? ⟨w.heap.size, 1, none⟩ = some (.int .i64 n) := HX3.out.cell' rfl
    have x2 : w3.cell? ⟨w.heap.size, 2, none⟩ = some (.int .i64 p) := HX3.out.cell' rfl
    have x3 : w3.cell? ⟨w.heap.size, 3, none⟩ = some (.int .i64 q) := HX3.out.cell' rfl
    have x4 : w3.cell? ⟨w.heap.size, 4, none⟩ = some (.string b) := HX3.out.cell' rfl
    go_wp2_with fail
    refine (CheckFrame_no o n p q b w3 hb hk).mono ?_
    rintro e w4 ⟨rfl, hOw4⟩
    have HX4 := Lib.hid (HX3.out.onl hOw4 (fun h => h))
    have HY4 := Lib.hid (HY3.out.onl hOw4 (fun h => h))
    have HO4 := Lib.hid (HO3.out.trans hOw4 (fun _ _ h => h))
    clear hOw4 HX3 HY3 HO3
    clear x0 x1 x2 x3 x4
    go_wp2
    go_ret
    exact ⟨rfl, HO4.out⟩
  obtain ⟨o, rfl⟩ : ∃ o' : Nat, o = (o' : Int) := ⟨o.toNat, by have := hk.1; omega⟩
  obtain ⟨n, rfl⟩ : ∃ n' : Nat, n = (n' : Int) := ⟨n.toNat, by have := hk.2.1; omega⟩
  obtain ⟨p, rfl⟩ : ∃ p' : Nat, p = (p' : Int) := ⟨p.toNat, by have := hk.2.2.2.1; omega⟩
  obtain ⟨q, rfl⟩ : ∃ q' : Nat, q = (q' : Int) := ⟨q.toNat, by have := hk.2.2.1; omega⟩
  have HK := Lib.hid hk
  have hm := (okF_lt hk).2.2.2.2
  have hEl := enc_length o n p q b
  have hEb := enc_bytes hk
  have HG0 : Hid (∃ (T : ByteArray) (k : Nat) (a0 a1 a2 a3 : Int) (b0 : ByteArray) (k0 c0 : Int), (∀ wx, Onl non w wx → Calls Try.prog 44 #[.string (sb (enc o n p q b)), .slice ao na ca, .slice bo nb cb] wx fun e w' => e = .returned (.tuple #[.string T, .int .i64 k]) ∧ Onl non wx w') ∧ Got8 o n p q b T k a0 a1 a2 a3 b0 k0 c0) := Lib.hid (by
    obtain ⟨a0, a1, a2, a3, b0, k0, c0, hg⟩ := got8 hk (t := garb (enc o n p q b) (A.zip B)) (garb_bytes _ (fun p hp => hB2 _ (by obtain ⟨a, c⟩ := p; exact (List.of_mem_zip hp).2)) _ hEb) (by rw [garb_length, hEl])
    refine ⟨_, _, a0, a1, a2, a3, b0, k0, c0, fun wx hx => ?_, hg⟩
    have h := garbled44 (sb (enc o n p q b)) A B ao bo na nb ca cb wx (by rw [sb_size, hEl]; omega) HNa.out HNb.out hna2 hnb2 (HRA.out.onl hx) (HRB.out.onl hx) hA2 hB2
    refine h.mono fun e w' hp => ?_
    rw [GarPost, bl_sb hEb] at hp
    exact hp)
  obtain ⟨S, hS⟩ : ∃ S, S = sb (enc o n p q b) := ⟨_, rfl⟩
  have hSz : S.size = 10 + b.size := by rw [hS, sb_size, hEl]
  have HS := Lib.hid hS
  have HSb : Hid (bl S = enc o n p q b) := Lib.hid (by rw [hS, bl_sb hEb])
  rw [← hS] at HG0
  have hE18 : ∀ wx, Calls Try.prog 18 #[.agg #[.int .i64 o, .int .i64 n, .int .i64 p, .int .i64 q, .string b]] wx fun e w' => e = .returned (.tuple #[.string S, .int .i64 0]) ∧ Onl non wx w' := fun wx => by rw [hS]; exact Encode18_ok o n p q b wx hk
  have H18 := Lib.hid hE18
  clear hS hE18 hk hEl hEb
  obtain ⟨T, k, a0, a1, a2, a3, b0, k0, c0, h44, hgot⟩ := HG0.out
  have H44 := Lib.hid h44
  have HGOT := Lib.hid hgot
  clear HG0 h44 hgot
  go_wp2_with fail
  refine (H18.out _).mono ?_
  rintro e w3 ⟨rfl, hOw3⟩
  have HX3 := Lib.hid (HX2.out.onl hOw3 (fun h => h))
  have HY3 := Lib.hid (HY2.out.onl hOw3 (fun h => h))
  have HO3 := Lib.hid (HO2.out.trans hOw3 (fun _ _ h => h))
  clear hOw3 HX2 HY2 HO2
  clear x0 x1 x2 x3 x4
  go_wp2_with fail
  have h44 := H44.out _ HO3.out
  refine (h44).mono ?_
  rintro e w4 ⟨rfl, hOw4⟩
  have HX4 := Lib.hid (HX3.out.onl hOw4 (fun h => h))
  have HY4 := Lib.hid (HY3.out.onl hOw4 (fun h => h))
  have HO4 := Lib.hid (HO3.out.trans hOw4 (fun _ _ h => h))
  clear hOw4 HX3 HY3 HO3
  go_wp2_with fail
  refine (HGOT.out.call _).mono ?_
  rintro e w5 ⟨rfl, hOw5⟩
  have HX5 := Lib.hid (HX4.out.onl hOw5 (fun h => h))
  have HY5 := Lib.hid (HY4.out.onl hOw5 (fun h => h))
  have HO5 := Lib.hid (HO4.out.trans hOw5 (fun _ _ h => h))
  clear hOw5 HX4 HY4 HO4
  have HO6 : Hid (Onl non w (w5.alloc (.cells #[.int .i64 a0, .int .i64 a1, .int .i64 a2, .int .i64 a3, .string b0] 23))) := Lib.hid (HO5.out.alloc _)
  have HX6 : Hid (Blk (w5.alloc (.cells #[.int .i64 a0, .int .i64 a1, .int .i64 a2, .int .i64 a3, .string b0] 23)) w.heap.size 23 [.int .i64 o, .int .i64 n, .int .i64 p, .int .i64 q, .string b]) := Lib.hid (HX5.out.alloc _)
  have HY6 : Hid (Blk (w5.alloc (.cells #[.int .i64 a0, .int .i64 a1, .int .i64 a2, .int .i64 a3, .string b0] 23)) (w.heap.size + 1) 23 [.int .i64 o2, .int .i64 n2, .int .i64 p2, .int .i64 q2, .string b2]) := Lib.hid (HY5.out.alloc _)
  have HA6 : Hid (Blk (w5.alloc (.cells #[.int .i64 a0, .int .i64 a1, .int .i64 a2, .int .i64 a3, .string b0] 23)) w5.heap.size 23 [.int .i64 a0, .int .i64 a1, .int .i64 a2, .int .i64 a3, .string b0]) := Lib.hid (Blk.new w5 23 _)
  have x0 : (w5.alloc (.cells #[.int .i64 a0, .int .i64 a1, .int .i64 a2, .int .i64 a3, .string b0] 23)).cell? ⟨w.heap.size, 0, none⟩ = some (.int .i64 o) := HX6.out.cell' rfl
  have x1 : (w5.alloc (.cells #[.int .i64 a0, .int .i64 a1, .int .i64 a2, .int .i64 a3, .string b0] 23)).cell? ⟨w.heap.size, 1, none⟩ = some (.int .i64 n) := HX6.out.cell' rfl
  have x2 : (w5.alloc (.cells #[.int .i64 a0, .int .i64 a1, .int .i64 a2, .int .i64 a3, .string b0] 23)).cell? ⟨w.heap.size, 2, none⟩ = some (.int .i64 p) := HX6.out.cell' rfl
  have x3 : (w5.alloc (.cells #[.int .i64 a0, .int .i64 a1, .int .i64 a2, .int .i64 a3, .string b0] 23)).cell? ⟨w.heap.size, 3, none⟩ = some (.int .i64 q) := HX6.out.cell' rfl
  have x4 : (w5.alloc (.cells #[.int .i64 a0, .int .i64 a1, .int .i64 a2, .int .i64 a3, .string b0] 23)).cell? ⟨w.heap.size, 4, none⟩ = some (.string b) := HX6.out.cell' rfl
  have y0 : (w5.alloc (.cells #[.int .i64 a0, .int .i64 a1, .int .i64 a2, .int .i64 a3, .string b0] 23)).cell? ⟨w.heap.size + 1, 0, none⟩ = some (.int .i64 o2) := HY6.out.cell' rfl
  have y1 : (w5.alloc (.cells #[.int .i64 a0, .int .i64 a1, .int .i64 a2, .int .i64 a3, .string b0] 23)).cell? ⟨w.heap.size + 1, 1, none⟩ = some (.int .i64 n2) := HY6.out.cell' rfl
  have y2 : (w5.alloc (.cells #[.int .i64 a0, .int .i64 a1, .int .i64 a2, .int .i64 a3, .string b0] 23)).cell? ⟨w.heap.size + 1, 2, none⟩ = some (.int .i64 p2) := HY6.out.cell' rfl
  have y3 : (w5.alloc (.cells #[.int .i64 a0, .int .i64 a1, .int .i64 a2, .int .i64 a3, .string b0] 23)).cell? ⟨w.heap.size + 1, 3, none⟩ = some (.int .i64 q2) := HY6.out.cell' rfl
  have y4 : (w5.alloc (.cells #[.int .i64 a0, .int .i64 a1, .int .i64 a2, .int .i64 a3, .string b0] 23)).cell? ⟨w.heap.size + 1, 4, none⟩ = some (.string b2) := HY6.out.cell' rfl
  have z0 : (w5.alloc (.cells #[.int .i64 a0, .int .i64 a1, .int .i64 a2, .int .i64 a3, .string b0] 23)).cell? ⟨w5.heap.size, 0, none⟩ = some (.int .i64 a0) := HA6.out.cell' rfl
  have z1 : (w5.alloc (.cells #[.int .i64 a0, .int .i64 a1, .int .i64 a2, .int .i64 a3, .string b0] 23)).cell? ⟨w5.heap.size, 1, none⟩ = some (.int .i64 a1) := HA6.out.cell' rfl
  have z2 : (w5.alloc (.cells #[.int .i64 a0, .int .i64 a1, .int .i64 a2, .int .i64 a3, .string b0] 23)).cell? ⟨w5.heap.size, 2, none⟩ = some (.int .i64 a2) := HA6.out.cell' rfl
  have z3 : (w5.alloc (.cells #[.int .i64 a0, .int .i64 a1, .int .i64 a2, .int .i64 a3, .string b0] 23)).cell? ⟨w5.heap.size, 3, none⟩ = some (.int .i64 a3) := HA6.out.cell' rfl
  have z4 : (w5.alloc (.cells #[.int .i64 a0, .int .i64 a1, .int .i64 a2, .int .i64 a3, .string b0] 23)).cell? ⟨w5.heap.size, 4, none⟩ = some (.string b0) := HA6.out.cell' rfl
  have hgd : Try.prog.eqGuardType Try.prog.depth 23 = false := by kernel_rfl
  have hq : k ≤ 2 ∨ (2 < k ∧ c0 = 91) ∨ (4 < k ∧ c0 = 0) := by
    by_cases h : c0 = 0
    · by_cases h2 : k ≤ 2
      · exact Or.inl h2
      · refine Or.inr (Or.inr ⟨?_, h⟩)
        by_cases h3 : 4 < k
        · exact h3
        · have h4 := HGOT.out.mid (by omega); omega
    · have h1 := (HGOT.out.none h).1
      by_cases h2 : k ≤ 2
      · exact Or.inl h2
      · exact Or.inr (Or.inl ⟨by omega, h1⟩)
  clear HO5 HX5 HY5
  rcases hq with hk2 | ⟨hk2, hc0⟩ | ⟨hk4, hc0⟩
  case' inl =>
    obtain ⟨hc0, e0, e1, e2, e3, e4, e5⟩ := HGOT.out.near hk2
    have hneq : ∀ wx, (binOp .neq 23 (.agg #[.int .i64 a0, .int .i64 a1, .int .i64 a2, .int .i64 a3, .string b0]) (.agg #[.int .i64 o, .int .i64 n, .int .i64 p, .int .i64 q, .string b])).run Try.prog wx = .ok (.bool false) wx := fun wx => by
      rw [neq23, eqF_iff, decide_eq_true ⟨e0, e1, e2, e3, e4⟩]; rfl
    have hkk : (k0 != (k : Int)) = false := by rw [e5]; simp
    have hk2' : (k : Int) ≤ 2 := by omega
    have hk3 : ¬ (k : Int) = 3 := by omega
    have hk4 : ¬ (k : Int) = 4 := by omega
    subst hc0
    clear e0 e1 e2 e3 e4 e5 hk2
    go_wp2_with fail
    clear hneq hkk hk2' hk3 hk4
  case' inr.inl =>
    obtain ⟨_, e0, e1, e2, e3, e4, e5⟩ := HGOT.out.none (by omega)
    have hneq : ∀ wx, (binOp .neq 23 (.agg #[.int .i64 a0, .int .i64 a1, .int .i64 a2, .int .i64 a3, .string b0]) (.agg #[.int .i64 0, .int .i64 0, .int .i64 0, .int .i64 0, .string ⟨#[]⟩])).run Try.prog wx = .ok (.bool false) wx := fun wx => by
      rw [neq23, eqF_iff, decide_eq_true ⟨e0, e1, e2, e3, e4⟩]; rfl
    have hkk : (k0 != (0 : Int)) = false := by rw [e5]; simp
    have hk2' : ¬ (k : Int) ≤ 2 := by omega
    subst hc0
    clear e0 e1 e2 e3 e4 e5 hk2
    go_wp2_with fail
    clear hneq hkk hk2'
  case' inr.inr =>
    have hk2' : ¬ (k : Int) ≤ 2 := by omega
    have hk3 : ¬ (k : Int) = 3 := by omega
    have hk4' : ¬ (k : Int) = 4 := by omega
    subst hc0
    clear hk4
    go_wp2_with fail
    clear hk2' hk3 hk4'

  · skip
    obtain ⟨w6, hw6⟩ : ∃ w6, w6 = w5.alloc (.cells #[.int .i64 a0, .int .i64 a1, .int .i64 a2, .int .i64 a3, .string b0] 23) := ⟨_, rfl⟩
    obtain ⟨ga, hga⟩ : ∃ ga, ga = w5.heap.size := ⟨_, rfl⟩
    rw [← hw6] at HO6 HX6 HY6 HA6 ⊢
    rw [← hga] at HA6 ⊢
    clear hw6 hga x0 x1 x2 x3 x4 y0 y1 y2 y3 y4 z0 z1 z2 z3 z4
    obtain ⟨S2, h18, h31, hk02⟩ := HGOT.out.some rfl
    have H18' := Lib.hid h18
    have H31' := Lib.hid h31
    clear h18 h31
    refine (H18'.out _).mono ?_
    rintro e w7 ⟨rfl, hOw7⟩
    have HX7 := Lib.hid (HX6.out.onl hOw7 (fun h => h))
    have HY7 := Lib.hid (HY6.out.onl hOw7 (fun h => h))
    have HO7 := Lib.hid (HO6.out.trans hOw7 (fun _ _ h => h))
    clear hOw7 HX6 HY6 HO6
    have hk00 : (k0 != k0) = false := by simp
    have hk0n : ¬ 2 < k0 := by omega
    clear hk02
    go_wp2_with fail
    refine (H31'.out _).mono ?_
    rintro e w8 ⟨rfl, hOw8⟩
    have HX8 := Lib.hid (HX7.out.drw hOw8)
    have HY8 := Lib.hid (HY7.out.drw hOw8)
    have HO8 := Lib.hid (HO7.out.of_drw hOw8)
    clear hOw8 HX7 HY7 HO7
    have y0 : w8.cell? ⟨w.heap.size + 1, 0, none⟩ = some (.int .i64 o2) := HY8.out.cell' rfl
    have y1 : w8.cell? ⟨w.heap.size + 1, 1, none⟩ = some (.int .i64 n2) := HY8.out.cell' rfl
    have y2 : w8.cell? ⟨w.heap.size + 1, 2, none⟩ = some (.int .i64 p2) := HY8.out.cell' rfl
    have y3 : w8.cell? ⟨w.heap.size + 1, 3, none⟩ = some (.int .i64 q2) := HY8.out.cell' rfl
    have y4 : w8.cell? ⟨w.heap.size + 1, 4, none⟩ = some (.string b2) := HY8.out.cell' rfl
    go_wp2_with fail
    clear y0 y1 y2 y3 y4 hk00 hk0n
    by_cases hky : OkF o2 n2 p2 q2 b2.size
    rotate_left
    · refine (Encode18_no o2 n2 p2 q2 b2 _ hb2 hky).mono ?_
      rintro e w9 ⟨rfl, hO9⟩
      have HO9 := Lib.hid (HO8.out.trans hO9 (fun _ _ h => h))
      clear hO9 HX8 HY8 HO8
      go_wp2
      go_ret
      exact ⟨rfl, HO9.out⟩
    obtain ⟨o2, rfl⟩ : ∃ o' : Nat, o2 = (o' : Int) := ⟨o2.toNat, by have := hky.1; omega⟩
    obtain ⟨n2, rfl⟩ : ∃ n' : Nat, n2 = (n' : Int) := ⟨n2.toNat, by have := hky.2.1; omega⟩
    obtain ⟨p2, rfl⟩ : ∃ p' : Nat, p2 = (p' : Int) := ⟨p2.toNat, by have := hky.2.2.2.1; omega⟩
    obtain ⟨q2, rfl⟩ : ∃ q' : Nat, q2 = (q' : Int) := ⟨q2.toNat, by have := hky.2.2.1; omega⟩
    have HKY := Lib.hid hky
    obtain ⟨Sy, hSy⟩ : ∃ Sy, Sy = sb (enc o2 n2 p2 q2 b2) := ⟨_, rfl⟩
    have hSyz : Sy.size = 10 + b2.size := by rw [hSy, sb_size, enc_length]
    have HSy := Lib.hid hSy
    have h18y := Encode18_ok o2 n2 p2 q2 b2 w8 hky
    rw [← hSy] at h18y
    clear hSy hky
    refine (h18y).mono ?_
    rintro e w9 ⟨rfl, hOw9⟩
    have HX9 := Lib.hid (HX8.out.onl hOw9 (fun h => h))
    have HY9 := Lib.hid (HY8.out.onl hOw9 (fun h => h))
    have HO9 := Lib.hid (HO8.out.trans hOw9 (fun _ _ h => h))
    clear hOw9 HX8 HY8 HO8
    clear h18y
    have x0 : w9.cell? ⟨w.heap.size, 0, none⟩ = some (.int .i64 o) := HX9.out.cell' rfl
    have x1 : w9.cell? ⟨w.heap.size, 1, none⟩ = some (.int .i64 n) := HX9.out.cell' rfl
    have x2 : w9.cell? ⟨w.heap.size, 2, none⟩ = some (.int .i64 p) := HX9.out.cell' rfl
    have x3 : w9.cell? ⟨w.heap.size, 3, none⟩ = some (.int .i64 q) := HX9.out.cell' rfl
    have x4 : w9.cell? ⟨w.heap.size, 4, none⟩ = some (.string b) := HX9.out.cell' rfl
    have y0 : w9.cell? ⟨w.heap.size + 1, 0, none⟩ = some (.int .i64 o2) := HY9.out.cell' rfl
    have y1 : w9.cell? ⟨w.heap.size + 1, 1, none⟩ = some (.int .i64 n2) := HY9.out.cell' rfl
    have y2 : w9.cell? ⟨w.heap.size + 1, 2, none⟩ = some (.int .i64 p2) := HY9.out.cell' rfl
    have y3 : w9.cell? ⟨w.heap.size + 1, 3, none⟩ = some (.int .i64 q2) := HY9.out.cell' rfl
    have y4 : w9.cell? ⟨w.heap.size + 1, 4, none⟩ = some (.string b2) := HY9.out.cell' rfl
    by_cases heq : (o : Int) = o2 ∧ (n : Int) = n2 ∧ (p : Int) = p2 ∧ (q : Int) = q2 ∧ b = b2
    · have heql : ∀ wx, (binOp .eql 23 (.agg #[.int .i64 o, .int .i64 n, .int .i64 p, .int .i64 q, .string b]) (.agg #[.int .i64 o2, .int .i64 n2, .int .i64 p2, .int .i64 q2, .string b2])).run Try.prog wx = .ok (.bool true) wx := fun wx => by
        rw [eql23, eqF_iff, decide_eq_true heq]
      clear heq
      go_wp2
      go_ret
      exact ⟨rfl, HO9.out⟩
    have heql : ∀ wx, (binOp .eql 23 (.agg #[.int .i64 o, .int .i64 n, .int .i64 p, .int .i64 q, .string b]) (.agg #[.int .i64 o2, .int .i64 n2, .int .i64 p2, .int .i64 q2, .string b2])).run Try.prog wx = .ok (.bool false) wx := fun wx => by
      rw [eql23, eqF_iff, decide_eq_false heq]
    have HNe := Lib.hid heq
    clear heq
    by_cases hsz : b2.size = b.size
    rotate_left
    · have hsn : ((Sy.size : Int) != (S.size : Int)) = true := by rw [hSyz, hSz, bne_iff_ne]; omega
      go_wp2
      go_ret
      exact ⟨rfl, HO9.out⟩
    have hsn : ((Sy.size : Int) != (S.size : Int)) = false := by rw [hSyz, hSz, hsz]; simp
    have h31 := Apart31_eq S Sy w9 (by omega) (by omega)
    have h7 : 7 ≤ Rad.dist (bl S) (bl Sy) := by
      rw [HSb.out, HSy.out, bl_sb (enc_bytes HKY.out)]
      refine enc_apart HK.out HKY.out hsz (fun h => HNe.out ?_)
      obtain ⟨h1, h2, h3, h4, h5⟩ := h
      exact ⟨by omega, by omega, by omega, by omega, h5⟩
    obtain ⟨m, hm⟩ : ∃ m, m = Rad.dist (bl S) (bl Sy) := ⟨_, rfl⟩
    rw [← hm] at h31 h7
    have H31y := Lib.hid h31
    clear hm h31
    go_wp2_with fail
    clear x0 x1 x2 x3 x4 y0 y1 y2 y3 y4 heql hsn
    refine (H31y.out).mono ?_
    rintro e wA ⟨rfl, hOwA⟩
    have HXA := Lib.hid (HX9.out.drw hOwA)
    have HYA := Lib.hid (HY9.out.drw hOwA)
    have HOA := Lib.hid (HO9.out.of_drw hOwA)
    clear hOwA HX9 HY9 HO9
    have h7' : (7 : Int) ≤ (m : Int) := by omega
    go_wp2
    go_ret
    exact ⟨rfl, HOA.out⟩
  · skip
    obtain ⟨w6, hw6⟩ : ∃ w6, w6 = w5.alloc (.cells #[.int .i64 a0, .int .i64 a1, .int .i64 a2, .int .i64 a3, .string b0] 23) := ⟨_, rfl⟩
    obtain ⟨ga, hga⟩ : ∃ ga, ga = w5.heap.size := ⟨_, rfl⟩
    rw [← hw6] at HO6 HX6 HY6 HA6 ⊢
    rw [← hga] at HA6 ⊢
    clear hw6 hga x0 x1 x2 x3 x4 y0 y1 y2 y3 y4 z0 z1 z2 z3 z4
    by_cases hky : OkF o2 n2 p2 q2 b2.size
    rotate_left
    · refine (Encode18_no o2 n2 p2 q2 b2 _ hb2 hky).mono ?_
      rintro e w9 ⟨rfl, hO9⟩
      have HO9 := Lib.hid (HO6.out.trans hO9 (fun _ _ h => h))
      clear hO9 HX6 HY6 HO6
      go_wp2
      go_ret
      exact ⟨rfl, HO9.out⟩
    obtain ⟨o2, rfl⟩ : ∃ o' : Nat, o2 = (o' : Int) := ⟨o2.toNat, by have := hky.1; omega⟩
    obtain ⟨n2, rfl⟩ : ∃ n' : Nat, n2 = (n' : Int) := ⟨n2.toNat, by have := hky.2.1; omega⟩
    obtain ⟨p2, rfl⟩ : ∃ p' : Nat, p2 = (p' : Int) := ⟨p2.toNat, by have := hky.2.2.2.1; omega⟩
    obtain ⟨q2, rfl⟩ : ∃ q' : Nat, q2 = (q' : Int) := ⟨q2.toNat, by have := hky.2.2.1; omega⟩
    have HKY := Lib.hid hky
    obtain ⟨Sy, hSy⟩ : ∃ Sy, Sy = sb (enc o2 n2 p2 q2 b2) := ⟨_, rfl⟩
    have hSyz : Sy.size = 10 + b2.size := by rw [hSy, sb_size, enc_length]
    have HSy := Lib.hid hSy
    have h18y := Encode18_ok o2 n2 p2 q2 b2 w6 hky
    rw [← hSy] at h18y
    clear hSy hky
    refine (h18y).mono ?_
    rintro e w9 ⟨rfl, hOw9⟩
    have HX9 := Lib.hid (HX6.out.onl hOw9 (fun h => h))
    have HY9 := Lib.hid (HY6.out.onl hOw9 (fun h => h))
    have HO9 := Lib.hid (HO6.out.trans hOw9 (fun _ _ h => h))
    clear hOw9 HX6 HY6 HO6
    clear h18y
    have x0 : w9.cell? ⟨w.heap.size, 0, none⟩ = some (.int .i64 o) := HX9.out.cell' rfl
    have x1 : w9.cell? ⟨w.heap.size, 1, none⟩ = some (.int .i64 n) := HX9.out.cell' rfl
    have x2 : w9.cell? ⟨w.heap.size, 2, none⟩ = some (.int .i64 p) := HX9.out.cell' rfl
    have x3 : w9.cell? ⟨w.heap.size, 3, none⟩ = some (.int .i64 q) := HX9.out.cell' rfl
    have x4 : w9.cell? ⟨w.heap.size, 4, none⟩ = some (.string b) := HX9.out.cell' rfl
    have y0 : w9.cell? ⟨w.heap.size + 1, 0, none⟩ = some (.int .i64 o2) := HY9.out.cell' rfl
    have y1 : w9.cell? ⟨w.heap.size + 1, 1, none⟩ = some (.int .i64 n2) := HY9.out.cell' rfl
    have y2 : w9.cell? ⟨w.heap.size + 1, 2, none⟩ = some (.int .i64 p2) := HY9.out.cell' rfl
    have y3 : w9.cell? ⟨w.heap.size + 1, 3, none⟩ = some (.int .i64 q2) := HY9.out.cell' rfl
    have y4 : w9.cell? ⟨w.heap.size + 1, 4, none⟩ = some (.string b2) := HY9.out.cell' rfl
    by_cases heq : (o : Int) = o2 ∧ (n : Int) = n2 ∧ (p : Int) = p2 ∧ (q : Int) = q2 ∧ b = b2
    · have heql : ∀ wx, (binOp .eql 23 (.agg #[.int .i64 o, .int .i64 n, .int .i64 p, .int .i64 q, .string b]) (.agg #[.int .i64 o2, .int .i64 n2, .int .i64 p2, .int .i64 q2, .string b2])).run Try.prog wx = .ok (.bool true) wx := fun wx => by
        rw [eql23, eqF_iff, decide_eq_true heq]
      clear heq
      go_wp2
      go_ret
      exact ⟨rfl, HO9.out⟩
    have heql : ∀ wx, (binOp .eql 23 (.agg #[.int .i64 o, .int .i64 n, .int .i64 p, .int .i64 q, .string b]) (.agg #[.int .i64 o2, .int .i64 n2, .int .i64 p2, .int .i64 q2, .string b2])).run Try.prog wx = .ok (.bool false) wx := fun wx => by
      rw [eql23, eqF_iff, decide_eq_false heq]
    have HNe := Lib.hid heq
    clear heq
    by_cases hsz : b2.size = b.size
    rotate_left
    · have hsn : ((Sy.size : Int) != (S.size : Int)) = true := by rw [hSyz, hSz, bne_iff_ne]; omega
      go_wp2
      go_ret
      exact ⟨rfl, HO9.out⟩
    have hsn : ((Sy.size : Int) != (S.size : Int)) = false := by rw [hSyz, hSz, hsz]; simp
    have h31 := Apart31_eq S Sy w9 (by omega) (by omega)
    have h7 : 7 ≤ Rad.dist (bl S) (bl Sy) := by
      rw [HSb.out, HSy.out, bl_sb (enc_bytes HKY.out)]
      refine enc_apart HK.out HKY.out hsz (fun h => HNe.out ?_)
      obtain ⟨h1, h2, h3, h4, h5⟩ := h
      exact ⟨by omega, by omega, by omega, by omega, h5⟩
    obtain ⟨m, hm⟩ : ∃ m, m = Rad.dist (bl S) (bl Sy) := ⟨_, rfl⟩
    rw [← hm] at h31 h7
    have H31y := Lib.hid h31
    clear hm h31
    go_wp2_with fail
    clear x0 x1 x2 x3 x4 y0 y1 y2 y3 y4 heql hsn
    refine (H31y.out).mono ?_
    rintro e wA ⟨rfl, hOwA⟩
    have HXA := Lib.hid (HX9.out.drw hOwA)
    have HYA := Lib.hid (HY9.out.drw hOwA)
    have HOA := Lib.hid (HO9.out.of_drw hOwA)
    clear hOwA HX9 HY9 HO9
    have h7' : (7 : Int) ≤ (m : Int) := by omega
    go_wp2
    go_ret
    exact ⟨rfl, HOA.out⟩
  · skip
    obtain ⟨w6, hw6⟩ : ∃ w6, w6 = w5.alloc (.cells #[.int .i64 a0, .int .i64 a1, .int .i64 a2, .int .i64 a3, .string b0] 23) := ⟨_, rfl⟩
    obtain ⟨ga, hga⟩ : ∃ ga, ga = w5.heap.size := ⟨_, rfl⟩
    rw [← hw6] at HO6 HX6 HY6 HA6 ⊢
    rw [← hga] at HA6 ⊢
    clear hw6 hga x0 x1 x2 x3 x4 y0 y1 y2 y3 y4 z0 z1 z2 z3 z4
    by_cases hky : OkF o2 n2 p2 q2 b2.size
    rotate_left
    · refine (Encode18_no o2 n2 p2 q2 b2 _ hb2 hky).mono ?_
      rintro e w9 ⟨rfl, hO9⟩
      have HO9 := Lib.hid (HO6.out.trans hO9 (fun _ _ h => h))
      clear hO9 HX6 HY6 HO6
      go_wp2
      go_ret
      exact ⟨rfl, HO9.out⟩
    obtain ⟨o2, rfl⟩ : ∃ o' : Nat, o2 = (o' : Int) := ⟨o2.toNat, by have := hky.1; omega⟩
    obtain ⟨n2, rfl⟩ : ∃ n' : Nat, n2 = (n' : Int) := ⟨n2.toNat, by have := hky.2.1; omega⟩
    obtain ⟨p2, rfl⟩ : ∃ p' : Nat, p2 = (p' : Int) := ⟨p2.toNat, by have := hky.2.2.2.1; omega⟩
    obtain ⟨q2, rfl⟩ : ∃ q' : Nat, q2 = (q' : Int) := ⟨q2.toNat, by have := hky.2.2.1; omega⟩
    have HKY := Lib.hid hky
    obtain ⟨Sy, hSy⟩ : ∃ Sy, Sy = sb (enc o2 n2 p2 q2 b2) := ⟨_, rfl⟩
    have hSyz : Sy.size = 10 + b2.size := by rw [hSy, sb_size, enc_length]
    have HSy := Lib.hid hSy
    have h18y := Encode18_ok o2 n2 p2 q2 b2 w6 hky
    rw [← hSy] at h18y
    clear hSy hky
    refine (h18y).mono ?_
    rintro e w9 ⟨rfl, hOw9⟩
    have HX9 := Lib.hid (HX6.out.onl hOw9 (fun h => h))
    have HY9 := Lib.hid (HY6.out.onl hOw9 (fun h => h))
    have HO9 := Lib.hid (HO6.out.trans hOw9 (fun _ _ h => h))
    clear hOw9 HX6 HY6 HO6
    clear h18y
    have x0 : w9.cell? ⟨w.heap.size, 0, none⟩ = some (.int .i64 o) := HX9.out.cell' rfl
    have x1 : w9.cell? ⟨w.heap.size, 1, none⟩ = some (.int .i64 n) := HX9.out.cell' rfl
    have x2 : w9.cell? ⟨w.heap.size, 2, none⟩ = some (.int .i64 p) := HX9.out.cell' rfl
    have x3 : w9.cell? ⟨w.heap.size, 3, none⟩ = some (.int .i64 q) := HX9.out.cell' rfl
    have x4 : w9.cell? ⟨w.heap.size, 4, none⟩ = some (.string b) := HX9.out.cell' rfl
    have y0 : w9.cell? ⟨w.heap.size + 1, 0, none⟩ = some (.int .i64 o2) := HY9.out.cell' rfl
    have y1 : w9.cell? ⟨w.heap.size + 1, 1, none⟩ = some (.int .i64 n2) := HY9.out.cell' rfl
    have y2 : w9.cell? ⟨w.heap.size + 1, 2, none⟩ = some (.int .i64 p2) := HY9.out.cell' rfl
    have y3 : w9.cell? ⟨w.heap.size + 1, 3, none⟩ = some (.int .i64 q2) := HY9.out.cell' rfl
    have y4 : w9.cell? ⟨w.heap.size + 1, 4, none⟩ = some (.string b2) := HY9.out.cell' rfl
    by_cases heq : (o : Int) = o2 ∧ (n : Int) = n2 ∧ (p : Int) = p2 ∧ (q : Int) = q2 ∧ b = b2
    · have heql : ∀ wx, (binOp .eql 23 (.agg #[.int .i64 o, .int .i64 n, .int .i64 p, .int .i64 q, .string b]) (.agg #[.int .i64 o2, .int .i64 n2, .int .i64 p2, .int .i64 q2, .string b2])).run Try.prog wx = .ok (.bool true) wx := fun wx => by
        rw [eql23, eqF_iff, decide_eq_true heq]
      clear heq
      go_wp2
      go_ret
      exact ⟨rfl, HO9.out⟩
    have heql : ∀ wx, (binOp .eql 23 (.agg #[.int .i64 o, .int .i64 n, .int .i64 p, .int .i64 q, .string b]) (.agg #[.int .i64 o2, .int .i64 n2, .int .i64 p2, .int .i64 q2, .string b2])).run Try.prog wx = .ok (.bool false) wx := fun wx => by
      rw [eql23, eqF_iff, decide_eq_false heq]
    have HNe := Lib.hid heq
    clear heq
    by_cases hsz : b2.size = b.size
    rotate_left
    · have hsn : ((Sy.size : Int) != (S.size : Int)) = true := by rw [hSyz, hSz, bne_iff_ne]; omega
      go_wp2
      go_ret
      exact ⟨rfl, HO9.out⟩
    have hsn : ((Sy.size : Int) != (S.size : Int)) = false := by rw [hSyz, hSz, hsz]; simp
    have h31 := Apart31_eq S Sy w9 (by omega) (by omega)
    have h7 : 7 ≤ Rad.dist (bl S) (bl Sy) := by
      rw [HSb.out, HSy.out, bl_sb (enc_bytes HKY.out)]
      refine enc_apart HK.out HKY.out hsz (fun h => HNe.out ?_)
      obtain ⟨h1, h2, h3, h4, h5⟩ := h
      exact ⟨by omega, by omega, by omega, by omega, h5⟩
    obtain ⟨m, hm⟩ : ∃ m, m = Rad.dist (bl S) (bl Sy) := ⟨_, rfl⟩
    rw [← hm] at h31 h7
    have H31y := Lib.hid h31
    clear hm h31
    go_wp2_with fail
    clear x0 x1 x2 x3 x4 y0 y1 y2 y3 y4 heql hsn
    refine (H31y.out).mono ?_
    rintro e wA ⟨rfl, hOwA⟩
    have HXA := Lib.hid (HX9.out.drw hOwA)
    have HYA := Lib.hid (HY9.out.drw hOwA)
    have HOA := Lib.hid (HO9.out.of_drw hOwA)
    clear hOwA HX9 HY9 HO9
    have h7' : (7 : Int) ≤ (m : Int) := by omega
    go_wp2
    go_ret
    exact ⟨rfl, HOA.out⟩
  · skip
    obtain ⟨w6, hw6⟩ : ∃ w6, w6 = w5.alloc (.cells #[.int .i64 a0, .int .i64 a1, .int .i64 a2, .int .i64 a3, .string b0] 23) := ⟨_, rfl⟩
    obtain ⟨ga, hga⟩ : ∃ ga, ga = w5.heap.size := ⟨_, rfl⟩
    rw [← hw6] at HO6 HX6 HY6 HA6 ⊢
    rw [← hga] at HA6 ⊢
    clear hw6 hga x0 x1 x2 x3 x4 y0 y1 y2 y3 y4 z0 z1 z2 z3 z4
    by_cases hky : OkF o2 n2 p2 q2 b2.size
    rotate_left
    · refine (Encode18_no o2 n2 p2 q2 b2 _ hb2 hky).mono ?_
      rintro e w9 ⟨rfl, hO9⟩
      have HO9 := Lib.hid (HO6.out.trans hO9 (fun _ _ h => h))
      clear hO9 HX6 HY6 HO6
      go_wp2
      go_ret
      exact ⟨rfl, HO9.out⟩
    obtain ⟨o2, rfl⟩ : ∃ o' : Nat, o2 = (o' : Int) := ⟨o2.toNat, by have := hky.1; omega⟩
    obtain ⟨n2, rfl⟩ : ∃ n' : Nat, n2 = (n' : Int) := ⟨n2.toNat, by have := hky.2.1; omega⟩
    obtain ⟨p2, rfl⟩ : ∃ p' : Nat, p2 = (p' : Int) := ⟨p2.toNat, by have := hky.2.2.2.1; omega⟩
    obtain ⟨q2, rfl⟩ : ∃ q' : Nat, q2 = (q' : Int) := ⟨q2.toNat, by have := hky.2.2.1; omega⟩
    have HKY := Lib.hid hky
    obtain ⟨Sy, hSy⟩ : ∃ Sy, Sy = sb (enc o2 n2 p2 q2 b2) := ⟨_, rfl⟩
    have hSyz : Sy.size = 10 + b2.size := by rw [hSy, sb_size, enc_length]
    have HSy := Lib.hid hSy
    have h18y := Encode18_ok o2 n2 p2 q2 b2 w6 hky
    rw [← hSy] at h18y
    clear hSy hky
    refine (h18y).mono ?_
    rintro e w9 ⟨rfl, hOw9⟩
    have HX9 := Lib.hid (HX6.out.onl hOw9 (fun h => h))
    have HY9 := Lib.hid (HY6.out.onl hOw9 (fun h => h))
    have HO9 := Lib.hid (HO6.out.trans hOw9 (fun _ _ h => h))
    clear hOw9 HX6 HY6 HO6
    clear h18y
    have x0 : w9.cell? ⟨w.heap.size, 0, none⟩ = some (.int .i64 o) := HX9.out.cell' rfl
    have x1 : w9.cell? ⟨w.heap.size, 1, none⟩ = some (.int .i64 n) := HX9.out.cell' rfl
    have x2 : w9.cell? ⟨w.heap.size, 2, none⟩ = some (.int .i64 p) := HX9.out.cell' rfl
    have x3 : w9.cell? ⟨w.heap.size, 3, none⟩ = some (.int .i64 q) := HX9.out.cell' rfl
    have x4 : w9.cell? ⟨w.heap.size, 4, none⟩ = some (.string b) := HX9.out.cell' rfl
    have y0 : w9.cell? ⟨w.heap.size + 1, 0, none⟩ = some (.int .i64 o2) := HY9.out.cell' rfl
    have y1 : w9.cell? ⟨w.heap.size + 1, 1, none⟩ = some (.int .i64 n2) := HY9.out.cell' rfl
    have y2 : w9.cell? ⟨w.heap.size + 1, 2, none⟩ = some (.int .i64 p2) := HY9.out.cell' rfl
    have y3 : w9.cell? ⟨w.heap.size + 1, 3, none⟩ = some (.int .i64 q2) := HY9.out.cell' rfl
    have y4 : w9.cell? ⟨w.heap.size + 1, 4, none⟩ = some (.string b2) := HY9.out.cell' rfl
    by_cases heq : (o : Int) = o2 ∧ (n : Int) = n2 ∧ (p : Int) = p2 ∧ (q : Int) = q2 ∧ b = b2
    · have heql : ∀ wx, (binOp .eql 23 (.agg #[.int .i64 o, .int .i64 n, .int .i64 p, .int .i64 q, .string b]) (.agg #[.int .i64 o2, .int .i64 n2, .int .i64 p2, .int .i64 q2, .string b2])).run Try.prog wx = .ok (.bool true) wx := fun wx => by
        rw [eql23, eqF_iff, decide_eq_true heq]
      clear heq
      go_wp2
      go_ret
      exact ⟨rfl, HO9.out⟩
    have heql : ∀ wx, (binOp .eql 23 (.agg #[.int .i64 o, .int .i64 n, .int .i64 p, .int .i64 q, .string b]) (.agg #[.int .i64 o2, .int .i64 n2, .int .i64 p2, .int .i64 q2, .string b2])).run Try.prog wx = .ok (.bool false) wx := fun wx => by
      rw [eql23, eqF_iff, decide_eq_false heq]
    have HNe := Lib.hid heq
    clear heq
    by_cases hsz : b2.size = b.size
    rotate_left
    · have hsn : ((Sy.size : Int) != (S.size : Int)) = true := by rw [hSyz, hSz, bne_iff_ne]; omega
      go_wp2
      go_ret
      exact ⟨rfl, HO9.out⟩
    have hsn : ((Sy.size : Int) != (S.size : Int)) = false := by rw [hSyz, hSz, hsz]; simp
    have h31 := Apart31_eq S Sy w9 (by omega) (by omega)
    have h7 : 7 ≤ Rad.dist (bl S) (bl Sy) := by
      rw [HSb.out, HSy.out, bl_sb (enc_bytes HKY.out)]
      refine enc_apart HK.out HKY.out hsz (fun h => HNe.out ?_)
      obtain ⟨h1, h2, h3, h4, h5⟩ := h
      exact ⟨by omega, by omega, by omega, by omega, h5⟩
    obtain ⟨m, hm⟩ : ∃ m, m = Rad.dist (bl S) (bl Sy) := ⟨_, rfl⟩
    rw [← hm] at h31 h7
    have H31y := Lib.hid h31
    clear hm h31
    go_wp2_with fail
    clear x0 x1 x2 x3 x4 y0 y1 y2 y3 y4 heql hsn
    refine (H31y.out).mono ?_
    rintro e wA ⟨rfl, hOwA⟩
    have HXA := Lib.hid (HX9.out.drw hOwA)
    have HYA := Lib.hid (HY9.out.drw hOwA)
    have HOA := Lib.hid (HO9.out.of_drw hOwA)
    clear hOwA HX9 HY9 HO9
    have h7' : (7 : Int) ≤ (m : Int) := by omega
    go_wp2
    go_ret
    exact ⟨rfl, HOA.out⟩
  · skip
    obtain ⟨w6, hw6⟩ : ∃ w6, w6 = w5.alloc (.cells #[.int .i64 a0, .int .i64 a1, .int .i64 a2, .int .i64 a3, .string b0] 23) := ⟨_, rfl⟩
    obtain ⟨ga, hga⟩ : ∃ ga, ga = w5.heap.size := ⟨_, rfl⟩
    rw [← hw6] at HO6 HX6 HY6 HA6 ⊢
    rw [← hga] at HA6 ⊢
    clear hw6 hga x0 x1 x2 x3 x4 y0 y1 y2 y3 y4 z0 z1 z2 z3 z4
    obtain ⟨S2, h18, h31, hk02⟩ := HGOT.out.some rfl
    have H18' := Lib.hid h18
    have H31' := Lib.hid h31
    clear h18 h31
    refine (H18'.out _).mono ?_
    rintro e w7 ⟨rfl, hOw7⟩
    have HX7 := Lib.hid (HX6.out.onl hOw7 (fun h => h))
    have HY7 := Lib.hid (HY6.out.onl hOw7 (fun h => h))
    have HO7 := Lib.hid (HO6.out.trans hOw7 (fun _ _ h => h))
    clear hOw7 HX6 HY6 HO6
    have hk00 : (k0 != k0) = false := by simp
    have hk0n : ¬ 2 < k0 := by omega
    clear hk02
    go_wp2_with fail
    refine (H31'.out _).mono ?_
    rintro e w8 ⟨rfl, hOw8⟩
    have HX8 := Lib.hid (HX7.out.drw hOw8)
    have HY8 := Lib.hid (HY7.out.drw hOw8)
    have HO8 := Lib.hid (HO7.out.of_drw hOw8)
    clear hOw8 HX7 HY7 HO7
    have y0 : w8.cell? ⟨w.heap.size + 1, 0, none⟩ = some (.int .i64 o2) := HY8.out.cell' rfl
    have y1 : w8.cell? ⟨w.heap.size + 1, 1, none⟩ = some (.int .i64 n2) := HY8.out.cell' rfl
    have y2 : w8.cell? ⟨w.heap.size + 1, 2, none⟩ = some (.int .i64 p2) := HY8.out.cell' rfl
    have y3 : w8.cell? ⟨w.heap.size + 1, 3, none⟩ = some (.int .i64 q2) := HY8.out.cell' rfl
    have y4 : w8.cell? ⟨w.heap.size + 1, 4, none⟩ = some (.string b2) := HY8.out.cell' rfl
    go_wp2_with fail
    clear y0 y1 y2 y3 y4 hk00 hk0n
    by_cases hky : OkF o2 n2 p2 q2 b2.size
    rotate_left
    · refine (Encode18_no o2 n2 p2 q2 b2 _ hb2 hky).mono ?_
      rintro e w9 ⟨rfl, hO9⟩
      have HO9 := Lib.hid (HO8.out.trans hO9 (fun _ _ h => h))
      clear hO9 HX8 HY8 HO8
      go_wp2
      go_ret
      exact ⟨rfl, HO9.out⟩
    obtain ⟨o2, rfl⟩ : ∃ o' : Nat, o2 = (o' : Int) := ⟨o2.toNat, by have := hky.1; omega⟩
    obtain ⟨n2, rfl⟩ : ∃ n' : Nat, n2 = (n' : Int) := ⟨n2.toNat, by have := hky.2.1; omega⟩
    obtain ⟨p2, rfl⟩ : ∃ p' : Nat, p2 = (p' : Int) := ⟨p2.toNat, by have := hky.2.2.2.1; omega⟩
    obtain ⟨q2, rfl⟩ : ∃ q' : Nat, q2 = (q' : Int) := ⟨q2.toNat, by have := hky.2.2.1; omega⟩
    have HKY := Lib.hid hky
    obtain ⟨Sy, hSy⟩ : ∃ Sy, Sy = sb (enc o2 n2 p2 q2 b2) := ⟨_, rfl⟩
    have hSyz : Sy.size = 10 + b2.size := by rw [hSy, sb_size, enc_length]
    have HSy := Lib.hid hSy
    have h18y := Encode18_ok o2 n2 p2 q2 b2 w8 hky
    rw [← hSy] at h18y
    clear hSy hky
    refine (h18y).mono ?_
    rintro e w9 ⟨rfl, hOw9⟩
    have HX9 := Lib.hid (HX8.out.onl hOw9 (fun h => h))
    have HY9 := Lib.hid (HY8.out.onl hOw9 (fun h => h))
    have HO9 := Lib.hid (HO8.out.trans hOw9 (fun _ _ h => h))
    clear hOw9 HX8 HY8 HO8
    clear h18y
    have x0 : w9.cell? ⟨w.heap.size, 0, none⟩ = some (.int .i64 o) := HX9.out.cell' rfl
    have x1 : w9.cell? ⟨w.heap.size, 1, none⟩ = some (.int .i64 n) := HX9.out.cell' rfl
    have x2 : w9.cell? ⟨w.heap.size, 2, none⟩ = some (.int .i64 p) := HX9.out.cell' rfl
    have x3 : w9.cell? ⟨w.heap.size, 3, none⟩ = some (.int .i64 q) := HX9.out.cell' rfl
    have x4 : w9.cell? ⟨w.heap.size, 4, none⟩ = some (.string b) := HX9.out.cell' rfl
    have y0 : w9.cell? ⟨w.heap.size + 1, 0, none⟩ = some (.int .i64 o2) := HY9.out.cell' rfl
    have y1 : w9.cell? ⟨w.heap.size + 1, 1, none⟩ = some (.int .i64 n2) := HY9.out.cell' rfl
    have y2 : w9.cell? ⟨w.heap.size + 1, 2, none⟩ = some (.int .i64 p2) := HY9.out.cell' rfl
    have y3 : w9.cell? ⟨w.heap.size + 1, 3, none⟩ = some (.int .i64 q2) := HY9.out.cell' rfl
    have y4 : w9.cell? ⟨w.heap.size + 1, 4, none⟩ = some (.string b2) := HY9.out.cell' rfl
    by_cases heq : (o : Int) = o2 ∧ (n : Int) = n2 ∧ (p : Int) = p2 ∧ (q : Int) = q2 ∧ b = b2
    · have heql : ∀ wx, (binOp .eql 23 (.agg #[.int .i64 o, .int .i64 n, .int .i64 p, .int .i64 q, .string b]) (.agg #[.int .i64 o2, .int .i64 n2, .int .i64 p2, .int .i64 q2, .string b2])).run Try.prog wx = .ok (.bool true) wx := fun wx => by
        rw [eql23, eqF_iff, decide_eq_true heq]
      clear heq
      go_wp2
      go_ret
      exact ⟨rfl, HO9.out⟩
    have heql : ∀ wx, (binOp .eql 23 (.agg #[.int .i64 o, .int .i64 n, .int .i64 p, .int .i64 q, .string b]) (.agg #[.int .i64 o2, .int .i64 n2, .int .i64 p2, .int .i64 q2, .string b2])).run Try.prog wx = .ok (.bool false) wx := fun wx => by
      rw [eql23, eqF_iff, decide_eq_false heq]
    have HNe := Lib.hid heq
    clear heq
    by_cases hsz : b2.size = b.size
    rotate_left
    · have hsn : ((Sy.size : Int) != (S.size : Int)) = true := by rw [hSyz, hSz, bne_iff_ne]; omega
      go_wp2
      go_ret
      exact ⟨rfl, HO9.out⟩
    have hsn : ((Sy.size : Int) != (S.size : Int)) = false := by rw [hSyz, hSz, hsz]; simp
    have h31 := Apart31_eq S Sy w9 (by omega) (by omega)
    have h7 : 7 ≤ Rad.dist (bl S) (bl Sy) := by
      rw [HSb.out, HSy.out, bl_sb (enc_bytes HKY.out)]
      refine enc_apart HK.out HKY.out hsz (fun h => HNe.out ?_)
      obtain ⟨h1, h2, h3, h4, h5⟩ := h
      exact ⟨by omega, by omega, by omega, by omega, h5⟩
    obtain ⟨m, hm⟩ : ∃ m, m = Rad.dist (bl S) (bl Sy) := ⟨_, rfl⟩
    rw [← hm] at h31 h7
    have H31y := Lib.hid h31
    clear hm h31
    go_wp2_with fail
    clear x0 x1 x2 x3 x4 y0 y1 y2 y3 y4 heql hsn
    refine (H31y.out).mono ?_
    rintro e wA ⟨rfl, hOwA⟩
    have HXA := Lib.hid (HX9.out.drw hOwA)
    have HYA := Lib.hid (HY9.out.drw hOwA)
    have HOA := Lib.hid (HO9.out.of_drw hOwA)
    clear hOwA HX9 HY9 HO9
    have h7' : (7 : Int) ≤ (m : Int) := by omega
    go_wp2
    go_ret
    exact ⟨rfl, HOA.out⟩
end Go.Proofs.Ytenngchidlfaeaa
/- RadioCorrects: for all frames and all bytes to be changed on the way the law returns true, and its arguments read as they did; no condition. -/
namespace Go.Proofs.Ytenngchidlfaeaa.radioCorrects
open Go.ChangeShapes Go.WideShapes Go.ChangeAt Go.RowKit
open Go.ChangeMaps (open_string shut_string)

set_option maxRecDepth 100000 in
theorem lifted (os : Os) (started : os.Started) (H : Type) (enc : TypeId × Value → H) :
    ReturnsInHanded {} Try.checked os 8 .any (Rows.radioCorrectsSpec.pre6 enc Try.prog Try.f8 Rows.radioCorrectsRow.domain false) (Rows.radioCorrectsSpec.post enc Try.prog Try.f8 false true false false) := by
  refine returnsInHanded_of_change (C := Try.checked) own started (by kernel_rfl) Try.func8
    (ChangeSpec.witness6 (enc := enc) (C := Try.checked) false ⟨#[], #[.agg #[.int .i64 0, .int .i64 0, .int .i64 0, .int .i64 0, .string ⟨#[]⟩], .agg #[.int .i64 0, .int .i64 0, .int .i64 0, .int .i64 0, .string ⟨#[]⟩], .slice none 0 0, .slice none 0 0], []⟩ 8 (by kernel_rfl) (by kernel_rfl) (by kernel_rfl) (by kernel_rfl)) ?_
  intro W base args ds gs before hval0 hW hcnd _
  have hval : ∀ (j : Nat) t v, Try.f8.params[j]? = some t → args[j]? = some v → Value.okWide Try.prog W .any base t v := hval0
  have hW' := hW
  obtain ⟨p, q, hA0, hV, rfl, hfz, hnd⟩ := hW
  have hA : DataW.TrodAll enc Try.prog W 0 (fun _ => true) true Try.f8.params.toList args.toList ds p := hA0
  rw [Try.params8] at hA hval
  obtain ⟨v0, vs0, d0, ds0, p0, q0, hargs, rfl, rfl, h0, r0⟩ := trodAll_cons hA
  obtain ⟨v1, vs1, d1, ds1, p1, q1, rfl, rfl, rfl, h1, r1⟩ := trodAll_cons r0
  obtain ⟨v2, vs2, d2, ds2, p2, q2, rfl, rfl, rfl, h2, r2⟩ := trodAll_cons r1
  obtain ⟨v3, vs3, d3, ds3, p3, q3, rfl, rfl, rfl, h3, r3⟩ := trodAll_cons r2
  obtain ⟨rfl, rfl, rfl⟩ := trodAll_nil r3
  obtain rfl : args = #[v0, v1, v2, v3] := by cases args; simp_all
  obtain ⟨a, b, c, e, s, rfl, _, _, _, _, ws⟩ := open_frame (hval 0 23 v0 rfl rfl) h0
  obtain ⟨a2, b2, c2, e2, s2, rfl, _, _, _, _, ws2⟩ := open_frame (hval 1 23 v1 rfl rfl) h1
  obtain ⟨ao, A, na, ca, rfl, hna, hna2, hA2, hRA⟩ := open_bytes (hval 2 57 v2 rfl rfl) h2
  obtain ⟨bo, B, nb, cb, rfl, hnb, hnb2, hB2, hRB⟩ := open_bytes (hval 3 57 v3 rfl rfl) h3
  clear hA0 hval0
  refine (RadioCorrects8 a b c e s a2 b2 c2 e2 s2 A B ao bo na nb ca cb W ws ws2 hna hnb hna2 hnb2 hRA hRB hA2 hB2).mono fun x W' ⟨he, hg⟩ => ?_
  subst he
  exact ⟨_, rfl, law_post (by kernel_rfl) (by kernel_rfl) rfl ⟨rfl, rfl, rfl⟩ hW' hg.below⟩

theorem over : Rows.radioCorrectsRow.holds Try.pinned (OpenSpec.ofChange Rows.radioCorrectsSpec) :=
  OpenClaim.holds_of_wide 8 Try.f8 rfl rfl rfl rfl rfl rfl rfl ⟨rfl, rfl, rfl, rfl, rfl⟩ rfl rfl rfl rfl rfl (by kernel_rfl) Try.func8 (by kernel_rfl)
    (of_decide_eq_true (by kernel_rfl)) (by unfold Func.isWrapper; first | (rw [if_pos (by decide +kernel)]; kernel_rfl) | (rw [if_neg (by decide +kernel)]; exact ⟨rfl, rfl⟩))
    (fun os started H enc _ => lifted os started H enc)
/-- the statement -/
theorem proved : Rows.RadioCorrectsSaid := over
#print axioms proved
end Go.Proofs.Ytenngchidlfaeaa.radioCorrects
