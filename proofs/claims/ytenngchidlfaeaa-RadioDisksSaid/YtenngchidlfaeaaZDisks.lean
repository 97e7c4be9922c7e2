/- RadioDisks: for all numbers of sectors and all lists of operations the law returns true, and its arguments read as they did; no condition. -/
import Derived.Test.YtenngchidlfaeaaB2
import Derived.Test.YtenngchidlfaeaaA8
import Derived.Test.YtenngchidlfaeaaA9
import Derived.Deep.DeepCutAuto
/- The law RadioDisks, walked. -/
namespace Go.Proofs.Ytenngchidlfaeaa
open Go.RowKit
open Rad (Dsk)

theorem restart_len (D : Dsk) (b : List Nat) : (D.restart b).safe.length = D.safe.length := by
  unfold Rad.Dsk.restart Rad.layK
  simp only
  split
  · rfl
  · rw [List.length_set, Rad.lay_length]
set_option maxRecDepth 100000 in
set_option maxHeartbeats 2000000 in
theorem RadioDisks9 (n : Int) (ao : Option Addr) (nl cl : Nat) (L : List Ent) (w : World) (hn : -9223372036854775808 ≤ n ∧ n ≤ 9223372036854775807) (hnl : nl = L.length) (hnl2 : nl ≤ maxLen) (hL : RdE w ao L) (hfit : ∀ e ∈ L, e.fit) :
    Calls Try.prog 9 #[.int .i64 n, .slice ao nl cl] w fun e w' => e = .returned (.bool true) ∧ Onl non w w' := by
  have HL := Lib.hid hL
  have HNl := Lib.hid hnl
  have HFit := Lib.hid hfit
  have hnl3 : nl ≤ 9223372036854775807 := by unfold maxLen at hnl2; omega
  clear hL hnl hfit hnl2
  go_enter Try.func9, Try.ntmps9
  go_wp2_with fail
  refine (sane17 w).mono ?_
  rintro e w1 ⟨rfl, ho1⟩
  have HO1 := Lib.hid ho1
  clear ho1
  obtain ⟨bq, hbq⟩ : ∃ bq, bq = decide ((8 < n ∧ n ≤ 4096) ∨ 60 < nl) := ⟨_, rfl⟩
  have HBq := Lib.hid hbq
  clear hbq
  go_upto_region 3 with fail
  go_cut [27] (fun t wx => t = .bool bq ∧ wx = w1)
  case first =>
    by_cases h1 : 8 < n
    · by_cases h2 : n ≤ 4096
      · have hb : bq = true := by rw [HBq.out]; exact decide_eq_true (by omega)
        go_wp2
        go_meet
        exact ⟨by rw [hb], rfl⟩
      · have hb : bq = decide ((60 : Int) < (nl : Int)) := by rw [HBq.out]; exact decide_eq_decide.2 (by omega)
        go_wp2
        go_meet
        exact ⟨by rw [hb], rfl⟩
    · have hb : bq = decide ((60 : Int) < (nl : Int)) := by rw [HBq.out]; exact decide_eq_decide.2 (by omega)
      go_wp2
      go_meet
      exact ⟨by rw [hb], rfl⟩
  case rest =>
    obtain ⟨rfl, rfl⟩ := hcut
    cases bq with
    | true =>
      go_wp2
      go_ret
      exact ⟨rfl, HO1.out⟩
    | false =>
      have hq := of_decide_eq_false HBq.out.symm
      by_cases hno : n < 1 ∨ 4096 < n
      · have hP := fun wx => NewDisk47_no n wx hno
        have hR := fun wx => RNewDisk48_no n wx hno
        go_wp2_with fail
        refine (hP wc).mono ?_
        rintro e w' ⟨rfl, rfl⟩
        go_wp2_with fail
        refine (hR wc).mono ?_
        rintro e w' ⟨rfl, rfl⟩
        go_wp2
        go_ret
        exact ⟨rfl, HO1.out⟩
      · obtain ⟨m, rfl⟩ : ∃ m : Nat, n = (m : Int) := ⟨n.toNat, by omega⟩
        have hm1 : 1 ≤ m := by omega
        have hm8 : m ≤ 8 := by omega
        have hnl60 : nl ≤ 60 := by omega
        clear hno hq
        have HS0 : Hid (St w wc []) := Lib.hid ((St.start w).onl HO1.out)
        clear HO1
        go_wp2_with fail
        refine (HS0.out.newDisk m hm1 (by omega)).mono ?_
        rintro e w2 ⟨gd, rfl, hs1⟩
        have HS1 := Lib.hid hs1
        clear hs1 HS0
        go_wp2_with fail
        refine (HS1.out.rnewDisk m hm1 (by omega)).mono ?_
        rintro e w3 ⟨ge, rfl, hs2⟩
        have HS2 := Lib.hid hs2
        clear hs2 HS1
        go_wp2
        go_loopw [9] (fun x wr => ∃ (k : Nat) (D : Dsk), k ≤ nl ∧ x = .int .i64 k ∧ Hid (St w wr [rdskR ge D, dskR gd D]) ∧ Hid (Fits D k ∧ D.Full ∧ D.safe.length = m)) (fun x _ => nl - (intOf x).toNat)
        case atStart => exact ⟨0, newD m, by omega, rfl, HS2, Lib.hid ⟨newD_fits m, newD_full m, newD_len m⟩⟩
        case round =>
          clear HS2
          obtain ⟨wo, rfl⟩ : ∃ wo : World, wo = wr := ⟨_, rfl⟩
          obtain ⟨k, D, hk, rfl, HS, HD⟩ := hrel
          by_cases hlt : k < nl
          · obtain ⟨⟨o, i, s⟩, he⟩ : ∃ e, L[k]? = some e := ⟨_, List.getElem?_eq_getElem (by have := HNl.out; omega)⟩
            have hef := HFit.out _ (List.mem_of_getElem? he)
            obtain ⟨gx, off, hao, hx0, hx1, hx2⟩ := (HL.out.onl HS.out.base) k _ he
            subst hao
            obtain ⟨hfo, hfi, hfs⟩ := hef
            have i0 : (0 : Int) ≤ (k : Int) := by omega
            have i1 : (k : Int) < (nl : Int) := by omega
            obtain ⟨wq, hwq⟩ : ∃ wq, wq = wo.alloc (.cells #[.int .i64 o, .int .i64 i, .string s] 74) := ⟨_, rfl⟩
            have HSq : Hid (St w wq [blkR wo.heap.size 74 [.int .i64 o, .int .i64 i, .string s], rdskR ge D, dskR gd D]) := Lib.hid (by rw [hwq]; exact HS.out.newBlk 74 _)
            dsimp only at hx0 hx1 hx2
            clear he HS
            obtain ⟨bx, hbx⟩ : ∃ bx, bx = wo.heap.size := ⟨_, rfl⟩
            rw [← hbx] at HSq
            have hb := (HSq.out).blk (l1 := [])
            have y0 : wq.cell? ⟨bx, 0, none⟩ = some (.int .i64 o) := hb.cell' rfl
            have y1 : wq.cell? ⟨bx, 1, none⟩ = some (.int .i64 i) := hb.cell' rfl
            have y2 : wq.cell? ⟨bx, 2, none⟩ = some (.string s) := hb.cell' rfl
            have hi64 : -9223372036854775808 ≤ i ∧ i ≤ 9223372036854775807 := hfi
            have hs64 : s.size ≤ 9223372036854775807 := hfs
            clear hb hfo hfi hfs
            go_upto_region 15 with fail
            rw [← hwq, ← hbx]
            clear hx0 hx1 hx2 hwq hbx
            by_cases k0 : o = 0
            · subst k0
              have HSec := fun wx => sector50 s wx hs64
              have hsc : (sec s).size ≤ 9223372036854775807 := by
                unfold sec
                split
                · rw [ByteArray.size_append, zer_size]; omega
                · exact hs64
              have HW := fun wx E (hE : St w wx [blkR bx 74 [.int .i64 0, .int .i64 i, .string s], rdskR ge E, dskR gd D]) => St.write (l1 := [_, _]) hE HD.out.1 (by omega) i hi64 (sec s) hsc
              have HR := fun wx E (hE : St w wx [blkR bx 74 [.int .i64 0, .int .i64 i, .string s], rdskR ge D, dskR gd E]) => St.rwrite (l1 := [_]) hE HD.out.1 (by omega) i hi64 (sec s) hsc
              have HD2 : Hid (Fits (D.write i (sec s)) (k + 1) ∧ (D.write i (sec s)).Full ∧ (D.write i (sec s)).safe.length = m) := Lib.hid ⟨HD.out.1.write _ _, HD.out.2.1.write _ _, by rw [write_len]; exact HD.out.2.2⟩
              go_upto_region 17 with fail
              have hsq : St w wq.drew [blkR bx 74 [.int .i64 0, .int .i64 i, .string s], rdskR ge D, dskR gd D] := HSq.out.drewN 1
              have z1 : wq.drew.cell? ⟨bx, 1, none⟩ = some (.int .i64 i) := y1
              have z2 : wq.drew.cell? ⟨bx, 2, none⟩ = some (.string s) := y2
              clear y0 y1 y2 HSq
              go_cut [82] (fun t wx => t = .bool false ∧ Hid (St w wx [blkR bx 74 [.int .i64 0, .int .i64 i, .string s], rdskR ge (D.write i (sec s)), dskR gd (D.write i (sec s))]))
              case first =>
                go_region_held3 (fun w' => w'.cell? ⟨bx, 1, none⟩ = some (.int .i64 i) ∧ w'.cell? ⟨bx, 2, none⟩ = some (.string s)) (go_keep) (first
                  | (go_at_call 50; (with_reducible refine (HSec _).mono ?_); rintro e w' ⟨rfl, ho⟩; have hs2 : St w w' [_, _, _] := St.onl (by assumption) ho; have z1 := (hs2.blk (l1 := [])).cell' (i := 1) rfl; have z2 := (hs2.blk (l1 := [])).cell' (i := 2) rfl; clear ho)
                  | (go_at_call 49; (with_reducible refine (HW _ _ (by assumption)).mono ?_); rintro e w' ⟨rfl, hs2⟩; have z1 := (hs2.blk (l1 := [])).cell' (i := 1) rfl; have z2 := (hs2.blk (l1 := [])).cell' (i := 2) rfl)
                  | (go_at_call 51; (with_reducible refine (HR _ _ (by assumption)).mono ?_); rintro e w' ⟨rfl, hs2⟩; have z1 := (hs2.blk (l1 := [])).cell' (i := 1) rfl; have z2 := (hs2.blk (l1 := [])).cell' (i := 2) rfl))
                all_goals
                  go_wp2_with fail
                  go_meet
                  exact ⟨rfl, Lib.hid (by assumption)⟩
              case rest =>
                obtain ⟨rfl, HT⟩ := hcut
                clear hsq z1 z2 HSec HW HR
                go_wp2_with fail
                refine (St.up (l1 := [_, _]) HT.out).mono ?_
                rintro e w' ⟨rfl, rfl⟩
                go_wp2_with fail
                refine (St.rup (l1 := [_]) HT.out).mono ?_
                rintro e w' ⟨rfl, rfl⟩
                go_wp2_with fail
                refine (St.sectors (l1 := [_, _]) HT.out).mono ?_
                rintro e w' ⟨rfl, rfl⟩
                go_wp2_with fail
                refine (St.rsectors (l1 := [_]) HT.out).mono ?_
                rintro e w' ⟨rfl, rfl⟩
                go_wp2
                go_roundw
                case rel => exact ⟨k + 1, D.write i (sec s), by omega, by go_num, Lib.hid (HT.out.drop []), HD2⟩
                case measure => simp [intOf]; omega
            have b0 : (o == 0) = false := beq_eq_false_iff_ne.2 k0
            by_cases k1 : o = 1
            · subst k1
              have HD2 : Hid (Fits D.sync (k + 1) ∧ D.sync.Full ∧ D.sync.safe.length = m) := Lib.hid ⟨HD.out.1.sync, HD.out.2.1.sync, by rw [sync_len]; exact HD.out.2.2⟩
              go_wp2_with fail
              refine (St.sync (l1 := [_, _]) HSq.out HD.out.1 (by omega)).mono ?_
              rintro e w4 ⟨rfl, hs4⟩
              have HS4 := Lib.hid hs4
              clear hs4
              go_wp2_with fail
              refine (St.rsync (l1 := [_]) HS4.out HD.out.1 (by omega)).mono ?_
              rintro e w5 ⟨rfl, hs5⟩
              have HT : Hid (St w w5 [blkR bx 74 [.int .i64 1, .int .i64 i, .string s], rdskR ge D.sync, dskR gd D.sync]) := Lib.hid hs5
              clear hs5 HSq HS4 y0 y1 y2
              go_wp2_with fail
              refine (St.up (l1 := [_, _]) HT.out).mono ?_
              rintro e w' ⟨rfl, rfl⟩
              go_wp2_with fail
              refine (St.rup (l1 := [_]) HT.out).mono ?_
              rintro e w' ⟨rfl, rfl⟩
              go_wp2_with fail
              refine (St.sectors (l1 := [_, _]) HT.out).mono ?_
              rintro e w' ⟨rfl, rfl⟩
              go_wp2_with fail
              refine (St.rsectors (l1 := [_]) HT.out).mono ?_
              rintro e w' ⟨rfl, rfl⟩
              go_wp2
              go_roundw
              case rel => exact ⟨k + 1, D.sync, by omega, by go_num, Lib.hid (HT.out.drop []), HD2⟩
              case measure => simp [intOf]; omega
            have b1 : (o == 1) = false := beq_eq_false_iff_ne.2 k1
            by_cases k2 : o = 2
            · subst k2
              have HD2 : Hid (Fits D (k + 1) ∧ D.Full ∧ D.safe.length = m) := Lib.hid ⟨HD.out.1.mono (by omega), HD.out.2⟩
              go_wp2_with fail
              refine (St.read (l1 := [_, _]) HSq.out HD.out.1 (by omega) i hi64).mono ?_
              rintro e w4 ⟨rfl, ho4⟩
              have HS4 := Lib.hid (HSq.out.onl ho4)
              have y1 : w4.cell? ⟨bx, 1, none⟩ = some (.int .i64 i) := (HS4.out.blk (l1 := [])).cell' rfl
              clear ho4 HSq
              go_wp2_with fail
              refine (St.rread (l1 := [_]) HS4.out HD.out.1 (by omega) i hi64).mono ?_
              rintro e w5 ⟨rfl, ho5⟩
              have HT : Hid (St w w5 [blkR bx 74 [.int .i64 2, .int .i64 i, .string s], rdskR ge D, dskR gd D]) := Lib.hid (HS4.out.onl ho5)
              clear ho5 HS4 y0 y1 y2
              go_wp2_with fail
              refine (St.up (l1 := [_, _]) HT.out).mono ?_
              rintro e w' ⟨rfl, rfl⟩
              go_wp2_with fail
              refine (St.rup (l1 := [_]) HT.out).mono ?_
              rintro e w' ⟨rfl, rfl⟩
              go_wp2_with fail
              refine (St.sectors (l1 := [_, _]) HT.out).mono ?_
              rintro e w' ⟨rfl, rfl⟩
              go_wp2_with fail
              refine (St.rsectors (l1 := [_]) HT.out).mono ?_
              rintro e w' ⟨rfl, rfl⟩
              go_wp2
              go_roundw
              case rel => exact ⟨k + 1, D, by omega, by go_num, Lib.hid (HT.out.drop []), HD2⟩
              case measure => simp [intOf]; omega
            have b2 : (o == 2) = false := beq_eq_false_iff_ne.2 k2
            by_cases k3 : o = 3
            · subst k3
              have HD2 : Hid (Fits (D.arm i) (k + 1) ∧ (D.arm i).Full ∧ (D.arm i).safe.length = m) := Lib.hid ⟨(Rad.Fits.arm HD.out.1 hi64.2).mono (by omega), HD.out.2.1.arm i, HD.out.2.2⟩
              go_wp2_with fail
              refine (St.arm (l1 := [_, _]) HSq.out i).mono ?_
              rintro e w4 ⟨rfl, hs4⟩
              have HS4 := Lib.hid hs4
              have y1 : w4.cell? ⟨bx, 1, none⟩ = some (.int .i64 i) := (HS4.out.blk (l1 := [])).cell' rfl
              clear hs4 HSq
              go_wp2_with fail
              refine (St.rarm (l1 := [_]) HS4.out i).mono ?_
              rintro e w5 ⟨rfl, hs5⟩
              have HT : Hid (St w w5 [blkR bx 74 [.int .i64 3, .int .i64 i, .string s], rdskR ge (D.arm i), dskR gd (D.arm i)]) := Lib.hid hs5
              clear hs5 HS4 y0 y1 y2
              go_wp2_with fail
              refine (St.up (l1 := [_, _]) HT.out).mono ?_
              rintro e w' ⟨rfl, rfl⟩
              go_wp2_with fail
              refine (St.rup (l1 := [_]) HT.out).mono ?_
              rintro e w' ⟨rfl, rfl⟩
              go_wp2_with fail
              refine (St.sectors (l1 := [_, _]) HT.out).mono ?_
              rintro e w' ⟨rfl, rfl⟩
              go_wp2_with fail
              refine (St.rsectors (l1 := [_]) HT.out).mono ?_
              rintro e w' ⟨rfl, rfl⟩
              go_wp2
              go_roundw
              case rel => exact ⟨k + 1, D.arm i, by omega, by go_num, Lib.hid (HT.out.drop []), HD2⟩
              case measure => simp [intOf]; omega
            have b3 : (o == 3) = false := beq_eq_false_iff_ne.2 k3
            by_cases k4 : o = 4
            · subst k4
              have hin : ∀ p ∈ D.waits, p.1 < D.safe.length := by obtain ⟨A, ⟨gs, cs, o', cw, hd, hA⟩, _⟩ := St.get (l1 := [_, _]) HSq.out; exact hd.in1
              have HD2 : Hid (Fits (D.restart (bl s)) (k + 1) ∧ (D.restart (bl s)).Full ∧ (D.restart (bl s)).safe.length = m) := Lib.hid ⟨Rad.Fits.restart HD.out.1 _, Rad.Dsk.restart_full HD.out.2.1 hin _, by rw [restart_len]; exact HD.out.2.2⟩
              clear hin
              go_wp2_with fail
              refine (St.restart (l1 := [_, _]) HSq.out HD.out.1 (by omega) HD.out.2.1 s hs64).mono ?_
              rintro e w4 ⟨rfl, hs4⟩
              have HS4 := Lib.hid hs4
              have y2 : w4.cell? ⟨bx, 2, none⟩ = some (.string s) := (HS4.out.blk (l1 := [])).cell' rfl
              clear hs4
              go_wp2_with fail
              refine (St.rrestart (l1 := [_]) HS4.out HD.out.1 (by omega) HD.out.2.1 s hs64).mono ?_
              rintro e w5 ⟨rfl, hs5⟩
              have HT : Hid (St w w5 [blkR bx 74 [.int .i64 4, .int .i64 i, .string s], rdskR ge (D.restart (bl s)), dskR gd (D.restart (bl s))]) := Lib.hid hs5
              clear hs5 HS4 y0 y1 y2
              go_wp2_with fail
              refine (St.up (l1 := [_, _]) HT.out).mono ?_
              rintro e w' ⟨rfl, rfl⟩
              go_wp2_with fail
              refine (St.rup (l1 := [_]) HT.out).mono ?_
              rintro e w' ⟨rfl, rfl⟩
              go_wp2_with fail
              refine (St.sectors (l1 := [_, _]) HT.out).mono ?_
              rintro e w' ⟨rfl, rfl⟩
              go_wp2_with fail
              refine (St.rsectors (l1 := [_]) HT.out).mono ?_
              rintro e w' ⟨rfl, rfl⟩
              go_wp2
              go_roundw
              case rel => exact ⟨k + 1, D.restart (bl s), by omega, by go_num, Lib.hid (HT.out.drop []), HD2⟩
              case measure => simp [intOf]; omega
            have b4 : (o == 4) = false := beq_eq_false_iff_ne.2 k4
            have HD2 : Hid (Fits D (k + 1) ∧ D.Full ∧ D.safe.length = m) := Lib.hid ⟨HD.out.1.mono (by omega), HD.out.2⟩
            have HT := HSq
            go_wp2_with fail
            refine (St.up (l1 := [_, _]) HT.out).mono ?_
            rintro e w' ⟨rfl, rfl⟩
            go_wp2_with fail
            refine (St.rup (l1 := [_]) HT.out).mono ?_
            rintro e w' ⟨rfl, rfl⟩
            go_wp2_with fail
            refine (St.sectors (l1 := [_, _]) HT.out).mono ?_
            rintro e w' ⟨rfl, rfl⟩
            go_wp2_with fail
            refine (St.rsectors (l1 := [_]) HT.out).mono ?_
            rintro e w' ⟨rfl, rfl⟩
            go_wp2
            go_roundw
            case rel => exact ⟨k + 1, D, by omega, by go_num, Lib.hid (HT.out.drop []), HD2⟩
            case measure => simp [intOf]; omega
          · have hkn : k = nl := by omega
            have HE := fun wx (hx : St w wx [rdskR ge D, dskR gd D]) => equalDisks64 (l1 := [_]) (m1 := []) hx hx HD.out.1 (by omega)
            go_wp2_with fail
            refine (HE wo HS.out).mono ?_
            rintro e w2 ⟨rfl, ho2⟩
            have HO2 := Lib.hid (HS.out.base.trans ho2 (fun _ _ h => h))
            clear ho2
            go_wp2
            go_ret
            exact ⟨rfl, HO2.out⟩
end Go.Proofs.Ytenngchidlfaeaa
/- RadioDisks: for all numbers of sectors and all lists of operations the law returns true, and its arguments read as they did; no condition. -/
namespace Go.Proofs.Ytenngchidlfaeaa.radioDisks
open Go.ChangeShapes Go.WideShapes Go.ChangeAt Go.RowKit
open Go.ChangeMaps (open_string shut_string)

set_option maxRecDepth 100000 in
theorem lifted (os : Os) (started : os.Started) (H : Type) (enc : TypeId × Value → H) :
    ReturnsInHanded {} Try.checked os 9 .any (Rows.radioDisksSpec.pre6 enc Try.prog Try.f9 Rows.radioDisksRow.domain false) (Rows.radioDisksSpec.post enc Try.prog Try.f9 false true false false) := by
  refine returnsInHanded_of_change (C := Try.checked) own started (by kernel_rfl) Try.func9
    (ChangeSpec.witness6 (enc := enc) (C := Try.checked) false ⟨#[], #[.int .i64 0, .slice none 0 0], []⟩ 8 (by kernel_rfl) (by kernel_rfl) (by kernel_rfl) (by kernel_rfl)) ?_
  intro W base args ds gs before hval0 hW hcnd _
  have hval : ∀ (j : Nat) t v, Try.f9.params[j]? = some t → args[j]? = some v → Value.okWide Try.prog W .any base t v := hval0
  have hW' := hW
  obtain ⟨p, q, hA0, hV, rfl, hfz, hnd⟩ := hW
  have hA : DataW.TrodAll enc Try.prog W 0 (fun _ => true) true Try.f9.params.toList args.toList ds p := hA0
  rw [Try.params9] at hA hval
  obtain ⟨v0, vs0, d0, ds0, p0, q0, hargs, rfl, rfl, h0, r0⟩ := trodAll_cons hA
  obtain ⟨v1, vs1, d1, ds1, p1, q1, rfl, rfl, rfl, h1, r1⟩ := trodAll_cons r0
  obtain ⟨rfl, rfl, rfl⟩ := trodAll_nil r1
  obtain rfl : args = #[v0, v1] := by cases args; simp_all
  obtain ⟨a, rfl, _, _, wa⟩ := open_int Try.underlying3 (hval 0 3 v0 rfl rfl) h0
  obtain ⟨ao, L, nl, cl, rfl, hnl, hnl2, hL, hfit⟩ := open_ops (hval 1 66 v1 rfl rfl) h1
  clear hA0 hval0
  refine (RadioDisks9 a ao nl cl L W (wf_range wa) hnl hnl2 hL hfit).mono fun x W' ⟨he, hg⟩ => ?_
  subst he
  exact ⟨_, rfl, law_post (by kernel_rfl) (by kernel_rfl) rfl ⟨rfl, rfl, rfl⟩ hW' hg.below⟩

theorem over : Rows.radioDisksRow.holds Try.pinned (OpenSpec.ofChange Rows.radioDisksSpec) :=
  OpenClaim.holds_of_wide 9 Try.f9 rfl rfl rfl rfl rfl rfl rfl ⟨rfl, rfl, rfl, rfl, rfl⟩ rfl rfl rfl rfl rfl (by kernel_rfl) Try.func9 (by kernel_rfl)
    (of_decide_eq_true (by kernel_rfl)) (by unfold Func.isWrapper; first | (rw [if_pos (by decide +kernel)]; kernel_rfl) | (rw [if_neg (by decide +kernel)]; exact ⟨rfl, rfl⟩))
    (fun os started H enc _ => lifted os started H enc)
/-- the statement -/
theorem proved : Rows.RadioDisksSaid := over
#print axioms proved
end Go.Proofs.Ytenngchidlfaeaa.radioDisks
