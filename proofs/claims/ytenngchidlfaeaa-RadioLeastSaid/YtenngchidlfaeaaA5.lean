/- A5: texts T19 T20 T21 T22 T23 T24, joined. -/
import Derived.Test.YtenngchidlfaeaaA2
import Derived.Test.YtenngchidlfaeaaA3
import Derived.Lib.SliceRun
/- The program's disk, its small functions, walked. -/
namespace Go.Proofs.Ytenngchidlfaeaa
open Go.RowKit
open Rad (Dsk)

set_option maxRecDepth 100000 in
theorem Up60 (g gs cs : Nat) (o : Option Addr) (cw : Nat) (D : Dsk) (w : World) (h : DskAt w g gs cs o cw D) : Calls Try.prog 60 #[.pointer (some ⟨g, 0, none⟩)] w fun e w' => e = .returned (.bool (!D.off)) ∧ w = w' := by
  have hc := h.c2
  clear h
  go_enter Try.func60, Try.ntmps60
  go_wp2
  go_ret
  exact ⟨rfl, rfl⟩
set_option maxRecDepth 100000 in
theorem Sectors62 (g gs cs : Nat) (o : Option Addr) (cw : Nat) (D : Dsk) (w : World) (h : DskAt w g gs cs o cw D) : Calls Try.prog 62 #[.pointer (some ⟨g, 0, none⟩)] w fun e w' => e = .returned (.int .i64 (D.safe.length : Int)) ∧ w = w' := by
  have hc := h.c0
  clear h
  go_enter Try.func62, Try.ntmps62
  go_wp2
  go_ret
  exact ⟨rfl, rfl⟩
set_option maxRecDepth 100000 in
theorem fall116 (g gs cs : Nat) (o : Option Addr) (cw : Nat) (D : Dsk) (w : World) (h : DskAt w g gs cs o cw D) (hf : D.falls < 1000000000) : Calls Try.prog 116 #[.pointer (some ⟨g, 0, none⟩)] w fun e w' => e = .returned (.tuple #[]) ∧ DskAt w' g gs cs o cw D.fall ∧ Onl (one g) w w' := by
  have hf0 := h.disk.free 2
  have hf1 := h.disk.free 3
  have hf2 := h.disk.free 4
  have hc2 := h.c2
  have hc3 := h.c3
  have hc4 := h.c4
  have H := Lib.hid h
  clear h
  obtain ⟨safe, waits, off, armed, falls⟩ := D
  cases off with
  | true =>
    go_enter Try.func116, Try.ntmps116
    go_wp2
    refine bodyPost_end (v := .tuple #[]) (by simp [results, Try.results116, go_sem]) rfl ⟨rfl, ?_, ?_⟩
    rotate_left
    · exact (Onl.refl _ w).set _ _ (fun _ => rfl)
    exact H.out.put 3 _ rfl rfl rfl
  | false =>
    go_enter Try.func116, Try.ntmps116
    go_wp2
    refine bodyPost_end (v := .tuple #[]) (by simp [results, Try.results116, go_sem]) rfl ⟨rfl, ?_, ?_⟩
    rotate_left
    · exact (((Onl.refl (one g) w).set ⟨g, 2, none⟩ _ (fun _ => rfl)).set ⟨g, 4, none⟩ _ (fun _ => rfl)).set ⟨g, 3, none⟩ _ (fun _ => rfl)
    have h1 := H.out.put 2 (.bool true) (D' := ⟨safe, waits, true, armed, falls⟩) rfl rfl rfl
    have h2 := h1.put 4 (.int .i64 ((falls + 1 : Nat) : Int)) (D' := ⟨safe, waits, true, armed, falls + 1⟩) rfl rfl rfl
    have e : wrap64 ((falls : Int) + 1) = ((falls + 1 : Nat) : Int) := by rw [IntWalk.wrap64_in _ (by omega)]; omega
    rw [e]
    exact h2.put 3 (.int .i64 0) (D' := (Dsk.mk safe waits false armed falls).fall) rfl rfl rfl
set_option maxRecDepth 100000 in
theorem strikes112 (g gs cs : Nat) (o : Option Addr) (cw : Nat) (D : Dsk) (w : World) (h : DskAt w g gs cs o cw D) (hf : D.falls < 1000000000) (ha : D.armed < 9223372036854775808) : Calls Try.prog 112 #[.pointer (some ⟨g, 0, none⟩)] w fun e w' => e = .returned (.bool D.hit) ∧ DskAt w' g gs cs o cw D.strike ∧ Onl (one g) w w' := by
  have hf3 := h.disk.free 3
  have hc3 := h.c3
  have H := Lib.hid h
  clear h
  obtain ⟨safe, waits, off, armed, falls⟩ := D
  by_cases h0 : armed = 0
  · subst h0
    go_enter Try.func112, Try.ntmps112
    go_wp2
    go_ret
    exact ⟨rfl, H.out, Onl.refl _ w⟩
  · by_cases h1 : armed = 1
    · subst h1
      go_enter Try.func112, Try.ntmps112
      go_wp2_with fail
      have h2 := H.out.put 3 (.int .i64 0) (D' := ⟨safe, waits, off, 0, falls⟩) rfl rfl rfl
      have ho : Onl (one g) w (w.setCell ⟨g, 3, none⟩ (.int .i64 0)) := (Onl.refl _ w).set _ _ (fun _ => rfl)
      refine (fall116 g gs cs o cw ⟨safe, waits, off, 0, falls⟩ _ h2 hf).mono ?_
      rintro e w' ⟨rfl, h3, h4⟩
      have H3 := Lib.hid h3
      have H4 := Lib.hid (ho.trans h4 (fun _ _ h => h))
      clear h2 ho h3 h4
      go_wp2
      go_ret
      exact ⟨rfl, H3.out, H4.out⟩
    · have hh : (Dsk.mk safe waits off armed falls).hit = false := by simp [Dsk.hit, h1]
      have hs : (Dsk.mk safe waits off armed falls).strike = ⟨safe, waits, off, armed - 1, falls⟩ := by simp [Dsk.strike, h0, h1]
      have HH := Lib.hid hh
      have HS := Lib.hid hs
      clear hh hs
      obtain ⟨c, hc⟩ : ∃ c, c = armed - 1 := ⟨_, rfl⟩
      have e1 : IntKind.i64.wrap ((armed : Int) - 1) = (c : Int) := by rw [IntWalk.i64_in _ (by simp only at ha; omega)]; omega
      have b0 : ((armed : Int) == 0) = false := ne_beq (b := 0) h0
      have hc1 : 0 < c := by omega
      rw [← hc] at HS
      clear h0 h1 hc
      go_enter Try.func112, Try.ntmps112
      go_wp2
      go_ret
      refine ⟨by rw [HH.out]; rfl, ?_, (Onl.refl _ w).set _ _ (fun _ => rfl)⟩
      rw [HS.out]
      exact H.out.put 3 _ (D' := ⟨safe, waits, off, c, falls⟩) rfl rfl rfl
set_option maxRecDepth 100000 in
theorem check111 (g gs cs : Nat) (o : Option Addr) (cw : Nat) (D : Dsk) (i : Int) (w : World) (h : DskAt w g gs cs o cw D) (hi : -9223372036854775808 ≤ i ∧ i ≤ 9223372036854775807) :
    Calls Try.prog 111 #[.pointer (some ⟨g, 0, none⟩), .int .i64 i] w fun e w' => e = .returned (.int .i64 (if D.off then 93 else if 0 ≤ i ∧ i < D.safe.length then 0 else 1)) ∧ w = w' := by
  have hc0 := h.c0
  have hc2 := h.c2
  have hl := h.in2
  clear h
  obtain ⟨safe, waits, off, armed, falls⟩ := D
  cases off with
  | true =>
    go_enter Try.func111, Try.ntmps111
    go_wp2
    go_ret
    exact ⟨rfl, rfl⟩
  | false =>
    obtain ⟨n, hn⟩ : ∃ n, n = safe.length := ⟨_, rfl⟩
    simp only [← hn] at hc0 hl ⊢
    clear hn
    by_cases h1 : 0 ≤ i ∧ i < (n : Int)
    · rw [if_neg (by simp), if_pos h1]
      go_enter Try.func111, Try.ntmps111
      go_wp2_with fail
      refine (within_t i (n : Int) _ h1.1 h1.2).mono ?_
      rintro e w' ⟨rfl, rfl⟩
      go_wp2
      go_ret
      exact ⟨rfl, rfl⟩
    · rw [if_neg (by simp), if_neg h1]
      go_enter Try.func111, Try.ntmps111
      go_wp2_with fail
      refine (within_f i (n : Int) _ (by omega)).mono ?_
      rintro e w' ⟨rfl, rfl⟩
      go_wp2
      go_ret
      exact ⟨rfl, rfl⟩
end Go.Proofs.Ytenngchidlfaeaa
/- The program's disk: settle, walked. -/
namespace Go.Proofs.Ytenngchidlfaeaa
open Go.RowKit
open Rad (Dsk)

set_option maxRecDepth 100000 in
theorem settle114 (g gs cs : Nat) (o : Option Addr) (cw : Nat) (D : Dsk) (ol : Option Addr) (cl : Nat) (l : List (Nat × ByteArray)) (w : World) (h : DskAt w g gs cs o cw D)
    (hl : Own w 0 157 2 ol l.length cl (wcs l)) (hln : l.length ≤ 100000000) (hin : ∀ p ∈ l, p.1 < D.safe.length) (hg : ¬ ownOf ol g) (hgs : ¬ ownOf ol gs) :
    Calls Try.prog 114 #[.pointer (some ⟨g, 0, none⟩), .slice ol l.length cl] w fun e w' => e = .returned (.tuple #[]) ∧ DskAt w' g gs cs o cw (D.settle l) ∧ Onl (dskOf g gs o) w w' := by
  obtain ⟨n, hn⟩ : ∃ n, n = l.length := ⟨_, rfl⟩
  obtain ⟨m, hm⟩ : ∃ m, m = D.safe.length := ⟨_, rfl⟩
  have hm2 := h.in2
  rw [← hn] at hl hln ⊢
  rw [← hm] at hin hm2
  have HN := Lib.hid hn
  have HM := Lib.hid hm
  have HI := Lib.hid hin
  have HG := Lib.hid hg
  have HGS := Lib.hid hgs
  have H := Lib.hid h
  have HL := Lib.hid hl
  clear hn hm hin hg hgs h hl
  go_enter Try.func114, Try.ntmps114
  go_wp2
  go_loopw [8] (fun x wr => ∃ k : Nat, k ≤ n ∧ x = .int .i64 k ∧ Hid (DskAt wr g gs cs o cw { D with safe := Rad.lay (l.take k) D.safe }) ∧ Hid (Own wr 0 157 2 ol n cl (wcs l)) ∧ Hid (Onl (dskOf g gs o) w wr)) (fun x _ => n - (intOf x).toNat)
  case atStart => exact ⟨0, by omega, rfl, H, HL, Lib.hid (Onl.refl _ _)⟩
  case round =>
    clear H HL
    obtain ⟨wo, rfl⟩ : ∃ wo : World, wo = wr := ⟨_, rfl⟩
    obtain ⟨k, hk, rfl, H, HL, HO⟩ := hrel
    by_cases hlt : k < n
    · obtain ⟨gl, ex, rfl, _, hbl, hnc, _, _⟩ := HL.out.shape (by omega)
      have hkl : k < l.length := by have := HN.out; omega
      obtain ⟨p, hp⟩ : ∃ p, l[k]? = some p := ⟨_, List.getElem?_eq_getElem hkl⟩
      have hpm : p.1 < m := HI.out p (List.mem_of_getElem? hp)
      have hw2 := wcs_get hp
      have hb0 : wo.cell? ⟨gl, k * 2, none⟩ = some (.int .i64 (p.1 : Int)) := hbl.cell_pre hw2.1
      have hb1 : wo.cell? ⟨gl, k * 2 + 1, none⟩ = some (.string p.2) := hbl.cell_pre hw2.2
      have hc0 := H.out.c0
      have HP := Lib.hid hp
      clear hp hw2
      go_wp2
      obtain ⟨wq, hq⟩ : ∃ wq, wq = wo.alloc (.cells #[.int .i64 (p.1 : Int), .string p.2] 157) := ⟨_, rfl⟩
      rw [← hq]
      have Hq : Hid (DskAt wq g gs cs o cw { D with safe := Rad.lay (l.take k) D.safe }) := Lib.hid (by rw [hq]; exact H.out.onl ((Onl.refl non wo).alloc _) (fun _ _ h => h))
      have HLq : Hid (Own wq 0 157 2 (some ⟨gl, 0, none⟩) n cl (wcs l)) := Lib.hid (by rw [hq]; exact HL.out.alloc _)
      have HOq : Hid (Onl (dskOf g gs o) w wq) := Lib.hid (by rw [hq]; exact HO.out.alloc _)
      have hn0 : wq.cell? ⟨wo.heap.size, 0, none⟩ = some (.int .i64 (p.1 : Int)) := by rw [hq]; exact (Blk.new wo 157 [.int .i64 (p.1 : Int), .string p.2]).cell' rfl
      have hn1 : wq.cell? ⟨wo.heap.size, 1, none⟩ = some (.string p.2) := by rw [hq]; exact (Blk.new wo 157 [.int .i64 (p.1 : Int), .string p.2]).cell' rfl
      clear hq hb0 hb1 hc0 H HL HO hbl
      obtain ⟨gw, hgw⟩ : ∃ gw, gw = wo.heap.size := ⟨_, rfl⟩
      rw [← hgw] at hn0 hn1 ⊢
      clear hgw
      have hlm : (Rad.lay (l.take k) D.safe).length = m := by rw [Rad.lay_length, HM.out]
      have hc0 : wq.cell? ⟨g, 0, none⟩ = some (.slice (some ⟨gs, 0, none⟩) m cs) := by rw [← hlm]; exact Hq.out.c0
      obtain ⟨s0, hs0⟩ : ∃ s0, (Rad.lay (l.take k) D.safe)[p.1]? = some s0 := ⟨_, List.getElem?_eq_getElem (by rw [hlm]; exact hpm)⟩
      have hcs : wq.cell? ⟨gs, p.1, none⟩ = some (.string s0) := Hq.out.safe.cell' (ss_get hs0)
      have hfs := Hq.out.safe.free p.1
      have i0 : (0 : Int) ≤ (p.1 : Int) := by omega
      have i1 : (p.1 : Int) < (m : Int) := by omega
      have HLM := Lib.hid hlm
      clear hs0 hlm
      refine wp_region_qt 9 (by kernel_rfl) (by kernel_rfl) ?_
      simp only [List.take_succ_cons, List.take_zero, List.drop_succ_cons, List.drop_zero]
      repeat (go_big_quiet_step (fail))
      refine wpQuiet_nil ?_
      intro _ hw'
      obtain ⟨nq, rfl⟩ := hw'
      clear i0 i1 hn0 hn1 hc0
      go_wp2
      go_roundw
      case rel =>
        refine ⟨k + 1, by omega, by go_num, Lib.hid ?_, Lib.hid ?_, Lib.hid ?_⟩
        · have e : Rad.lay (l.take (k + 1)) D.safe = (Rad.lay (l.take k) D.safe).set p.1 p.2 := by
            have hkl : k < l.length := by have := HN.out; omega
            have hp := HP.out
            rw [List.take_succ_eq_append_getElem hkl, Rad.lay_snoc]
            rw [List.getElem?_eq_getElem hkl] at hp
            rw [Option.some.inj hp]
          rw [e]
          exact (Hq.out.drw ⟨nq, rfl⟩).save p.1 p.2
        · exact (HLq.out.drewN nq).onl ((Onl.refl (one gs) _).set _ _ (fun _ => rfl)) (fun k hk e => HGS.out (by rw [← show k = gs from e]; exact hk))
        · exact (HOq.out.drewN nq).set _ _ (fun _ => .inr (.inl rfl))
      case measure => simp [intOf]; omega
    · have hkn : k = n := by omega
      have HA : Hid (DskAt wo g gs cs o cw { D with safe := Rad.lay l D.safe }) := Lib.hid (by have h := H.out; rwa [hkn, HN.out, List.take_length] at h)
      have hc1 := HA.out.c1
      obtain ⟨wl, hwl⟩ : ∃ wl, wl = D.waits.length := ⟨_, rfl⟩
      have HWL := Lib.hid hwl
      have hc1' : wo.cell? ⟨g, 1, none⟩ = some (.slice o wl cw) := by rw [hwl]; exact hc1
      have hwo : Own wo 0 157 2 o wl cw (wcs D.waits) := by rw [hwl]; exact HA.out.waits
      clear hc1 hwl H HL
      obtain ⟨w1, xs', hrun, hown, honl⟩ := run_clear147 wo 0 o wl cw _ hwo
      have hb1 : Blk w1 g 149 (dcs gs cs o cw { D with safe := Rad.lay l D.safe }) := HA.out.disk.onl honl HA.out.n2
      have hc2 : w1.cell? ⟨g, 1, none⟩ = some (.slice o wl cw) := by rw [HWL.out]; exact hb1.cell' rfl
      have hf2 := hb1.free 1
      have HB1 := Lib.hid hb1
      have HW1 := Lib.hid hown
      have HON := Lib.hid honl
      have HGLT : Hid (g < wo.heap.size) := Lib.hid HA.out.disk.lt
      clear hb1 hown honl hwo
      go_wp2
      refine bodyPost_end (v := .tuple #[]) (by simp [results, Try.results114, go_sem]) rfl ⟨rfl, ?_, ?_⟩
      · have hA := HA.out
        refine ⟨?_, ?_, ?_, hA.n1, hA.n2, hA.n3, fun p hp => (by cases hp), ?_, ?_⟩
        · exact HB1.out.set 1 _
        · exact (hA.safe.onl HON.out hA.n3).set_ne (fun e => hA.n1 e.symm) _
        · exact HW1.out.zero.onl ((Onl.refl (one g) _).set _ _ (fun _ => rfl)) (fun k hk e => hA.n2 (by rw [← show k = g from e]; exact hk))
        · exact hA.in2
        · exact hA.in3
      · exact (HO.out.trans HON.out (fun k _ hk => .inr (.inr hk))).set _ _ (fun _ => .inl rfl)
end Go.Proofs.Ytenngchidlfaeaa
/- The program's disk: Sync, Write, walked. -/
namespace Rad
def Dsk.sync (D : Dsk) : Dsk := if D.off then D else if D.hit then D.strike else D.strike.settle D.waits
def Dsk.syncE (D : Dsk) : Int := if D.off then 93 else if D.hit then 93 else 0
def Dsk.write (D : Dsk) (i : Int) (s : ByteArray) : Dsk := if D.off then D else if 0 ≤ i ∧ i < D.safe.length then if s.size = 64 then (D.put i.toNat s).strike else D else D
def Dsk.writeE (D : Dsk) (i : Int) (s : ByteArray) : Int := if D.off then 93 else if 0 ≤ i ∧ i < D.safe.length then if s.size = 64 then if D.hit then 93 else 0 else 1 else 1
theorem Dsk.strike_safe (D : Dsk) : D.strike.safe = D.safe := by unfold Dsk.strike Dsk.fall; (repeat' split) <;> rfl
theorem Dsk.strike_waits (D : Dsk) : D.strike.waits = D.waits := by unfold Dsk.strike Dsk.fall; (repeat' split) <;> rfl
end Rad
namespace Go.Proofs.Ytenngchidlfaeaa
open Go.RowKit
open Rad (Dsk)

set_option maxRecDepth 100000 in
theorem Sync52 (g gs cs : Nat) (o : Option Addr) (cw : Nat) (D : Dsk) (w : World) (h : DskAt w g gs cs o cw D) (hf : D.falls < 1000000000) (ha : D.armed < 9223372036854775808) (hw : D.waits.length ≤ 100000000) :
    Calls Try.prog 52 #[.pointer (some ⟨g, 0, none⟩)] w fun e w' => e = .returned (.int .i64 D.syncE) ∧ DskAt w' g gs cs o cw D.sync ∧ Onl (dskOf g gs o) w w' := by
  have hc2 := h.c2
  have H := Lib.hid h
  have HSY : Hid (D.sync = if D.off then D else if D.hit then D.strike else D.strike.settle D.waits) := Lib.hid rfl
  have HSE : Hid (D.syncE = if D.off then 93 else if D.hit then 93 else 0) := Lib.hid rfl
  clear h
  cases hoff : D.off with
  | true =>
    rw [hoff] at hc2
    have HOff := Lib.hid hoff
    clear hoff
    go_enter Try.func52, Try.ntmps52
    go_wp2
    go_ret
    refine ⟨by rw [HSE.out, HOff.out]; rfl, ?_, Onl.refl _ _⟩
    rw [HSY.out, if_pos HOff.out]; exact H.out
  | false =>
    rw [hoff] at hc2
    have HOff := Lib.hid hoff
    clear hoff
    cases hhit : D.hit with
    | true =>
      have HHit := Lib.hid hhit
      have hst := strikes112 g gs cs o cw D w H.out hf ha
      rw [hhit] at hst
      have HST := Lib.hid hst
      clear hhit hst
      go_enter Try.func52, Try.ntmps52
      go_wp2_with (go_at_call 112; refine HST.out.mono ?_; rintro e w1 ⟨rfl, h1, h2⟩; have H1 := Lib.hid h1; have H2 := Lib.hid h2; clear h1 h2)
      go_ret
      refine ⟨by rw [HSE.out, HOff.out, HHit.out]; rfl, ?_, H2.out.mono (fun k hk => .inl hk)⟩
      rw [HSY.out, HOff.out, HHit.out]; exact H1.out
    | false =>
      have HHit := Lib.hid hhit
      have hst := strikes112 g gs cs o cw D w H.out hf ha
      rw [hhit] at hst
      have HST := Lib.hid hst
      clear hhit hst
      go_enter Try.func52, Try.ntmps52
      go_wp2_with (go_at_call 112; refine HST.out.mono ?_; rintro e w1 ⟨rfl, h1, h2⟩; have H1 := Lib.hid h1; have H2 := Lib.hid h2; have hd1 := h1.c1; rw [Rad.Dsk.strike_waits] at hd1; clear h1 h2)
      have hown : Own w1 0 157 2 o D.waits.length cw (wcs D.waits) := by have := H1.out.waits; rwa [Rad.Dsk.strike_waits] at this
      refine (settle114 g gs cs o cw D.strike o cw D.waits w1 H1.out hown hw (by rw [Rad.Dsk.strike_safe]; exact H.out.in1) H.out.n2 H.out.n3).mono ?_
      rintro e w2 ⟨rfl, h3, h4⟩
      have H3 := Lib.hid h3
      have H4 := Lib.hid h4
      clear h3 h4 hown
      go_wp2
      go_ret
      refine ⟨by rw [HSE.out, HOff.out, HHit.out]; rfl, ?_, (H2.out.mono (fun k hk => .inl hk)).trans H4.out (fun _ _ h => h)⟩
      rw [HSY.out, HOff.out, HHit.out]; exact H3.out

set_option maxRecDepth 100000 in
theorem Write49 (g gs cs : Nat) (o : Option Addr) (cw : Nat) (D : Dsk) (i : Int) (s : ByteArray) (w : World) (h : DskAt w g gs cs o cw D) (hf : D.falls < 1000000000) (ha : D.armed < 9223372036854775808) (hw : D.waits.length < 100000000) (hi : -9223372036854775808 ≤ i ∧ i ≤ 9223372036854775807) (_hs : s.size ≤ 9223372036854775807) :
    Calls Try.prog 49 #[.pointer (some ⟨g, 0, none⟩), .int .i64 i, .string s] w fun e w' => e = .returned (.int .i64 (D.writeE i s)) ∧ ∃ o' cw', DskAt w' g gs cs o' cw' (D.write i s) ∧ Onl (dskOf g gs o) w w' ∧ (∀ k, ownOf o' k → ownOf o k ∨ w.heap.size ≤ k) := by
  have H := Lib.hid h
  have HWr : Hid (D.write i s = if D.off then D else if 0 ≤ i ∧ i < D.safe.length then if s.size = 64 then (D.put i.toNat s).strike else D else D) := Lib.hid rfl
  have HWE : Hid (D.writeE i s = if D.off then 93 else if 0 ≤ i ∧ i < D.safe.length then if s.size = 64 then if D.hit then 93 else 0 else 1 else 1) := Lib.hid rfl
  have HCK := Lib.hid (check111 g gs cs o cw D i w h hi)
  clear h
  cases hoff : D.off with
  | true =>
    have HOff := Lib.hid hoff
    clear hoff
    have hck := HCK.out
    rw [HOff.out] at hck
    have HCK2 := Lib.hid hck
    clear hck
    go_enter Try.func49, Try.ntmps49
    go_wp2_with fail
    refine HCK2.out.mono ?_
    rintro e w' ⟨rfl, rfl⟩
    go_wp2
    go_ret
    refine ⟨by rw [HWE.out, HOff.out]; rfl, o, cw, ?_, Onl.refl _ _, fun k hk => .inl hk⟩
    rw [HWr.out, HOff.out]; exact H.out
  | false =>
    have HOff := Lib.hid hoff
    clear hoff
    by_cases hin : 0 ≤ i ∧ i < (D.safe.length : Int)
    · have hck := HCK.out
      rw [HOff.out, if_neg (by simp), if_pos hin] at hck
      have HCK2 := Lib.hid hck
      have HIn := Lib.hid hin
      clear hck hin
      by_cases hsz : s.size = 64
      · have hb : ((s.size : Int) != 64) = false := eq_bne (b := 64) hsz
        have HSz := Lib.hid hsz
        clear hsz
        go_enter Try.func49, Try.ntmps49
        go_wp2_with fail
        refine HCK2.out.mono ?_
        rintro e w' ⟨rfl, rfl⟩
        have hc1 := H.out.c1
        have hlg : g < w.heap.size := H.out.disk.lt
        have hnb : ∀ j u, (wcs [(i.toNat, s)])[j]? = some u → (w.alloc (.cells #[.int .i64 i, .string s] 157)).cell? ((⟨w.heap.size, 0, none⟩ : Addr).add j) = some u := by
          have e : wcs [(i.toNat, s)] = [.int .i64 i, .string s] := by
            show [Value.int .i64 ((i.toNat : Nat) : Int), .string s] = _
            rw [Int.toNat_of_nonneg HIn.out.1]
          rw [e]
          exact (Blk.new w 157 [.int .i64 i, .string s]).cells
        have HNB := Lib.hid hnb
        have HOx : Hid (Own (w.alloc (.cells #[.int .i64 i, .string s] 157)) 0 157 2 o D.waits.length cw (wcs D.waits)) := Lib.hid (H.out.waits.alloc _)
        clear hnb
        go_wp2_with (first | (at_builtin; refine wpList_app rfl (.tmp 21) (.tmp 25) 147 rfl 0 157 (.agg #[.int .i64 0, .string ⟨#[]⟩]) 2 24 Try.underlying147 info157 rfl (by decide) _ _ _ _ rfl HOx.out ⟨w.heap.size, 0, none⟩ 1 1 (wcs [(i.toNat, s)]) rfl rfl HNB.out (wcs_one _) (by omega) (by omega) (by omega) ?_; intro o1 c1 wA hA1 hA2 hA3; have HA1 := Lib.hid hA1; have HA2 := Lib.hid hA2; have HA3 := Lib.hid hA3; have hbA := (H.out.disk.alloc _).onl hA2 H.out.n2; have hcA := hbA.cell' (i := 1) rfl; have hfA := hbA.free 1; clear hA1 hA2 hA3 hbA))
        have HDA : Hid (DskAt (wA.setCell ⟨g, 1, none⟩ (.slice o1 (D.waits.length + 1) c1)) g gs cs o1 c1 (D.put i.toNat s)) := Lib.hid (by
          have hA := H.out
          have hbd := (hA.disk.alloc (.cells #[.int .i64 i, .string s] 157)).onl HA2.out hA.n2
          have hbs := (hA.safe.alloc (.cells #[.int .i64 i, .string s] 157)).onl HA2.out hA.n3
          have hgl := hA.disk.lt
          have hsl := hA.safe.lt
          have hn : ∀ k, k < w.heap.size → ownOf o1 k → ownOf o k := fun k hk hk2 => by
            rcases HA3.out k hk2 with h | h
            · exact h
            · rw [World.size_alloc] at h; omega
          refine ⟨?_, ?_, ?_, hA.n1, fun e => hA.n2 (hn g hgl e), fun e => hA.n3 (hn gs hsl e), ?_, hA.in2, hA.in3⟩
          · have h2 := hbd.set 1 (.slice o1 (D.waits.length + 1) c1)
            have e : (D.put i.toNat s).waits.length = D.waits.length + 1 := by simp [Rad.Dsk.put]
            unfold dcs
            rw [e]
            exact h2
          · exact hbs.set_ne (fun e => hA.n1 e.symm) _
          · have h2 := HA1.out
            rw [← wcs_append] at h2
            have e : (D.put i.toNat s).waits.length = D.waits.length + 1 := by simp [Rad.Dsk.put]
            rw [e]
            exact h2.onl ((Onl.refl (one g) _).set _ _ (fun _ => rfl)) (fun k hk e => hA.n2 (hn g hgl (by rw [← show k = g from e]; exact hk)))
          · intro p hp
            rcases List.mem_append.1 hp with h | h
            · exact hA.in1 p h
            · rw [List.mem_singleton.1 h]; have := HIn.out; show i.toNat < D.safe.length; omega)
        have HOnl : Hid (Onl (dskOf g gs o) w (wA.setCell ⟨g, 1, none⟩ (.slice o1 (D.waits.length + 1) c1))) := Lib.hid
          ((((Onl.refl (dskOf g gs o) w).alloc _).trans HA2.out (fun k _ hk => .inr (.inr hk))).set _ _ (fun _ => .inl rfl))
        obtain ⟨w3, hw3⟩ : ∃ w3, w3 = wA.setCell ⟨g, 1, none⟩ (.slice o1 (D.waits.length + 1) c1) := ⟨_, rfl⟩
        rw [← hw3] at HDA HOnl ⊢
        clear hw3
        refine (strikes112 g gs cs o1 c1 (D.put i.toNat s) w3 HDA.out hf ha).mono ?_
        rintro e w4 ⟨rfl, h1, h2⟩
        have HA4 := Lib.hid h1
        have HO4 := Lib.hid (HOnl.out.trans (h2.mono (T := dskOf g gs o) (fun k hk => .inl hk)) (fun _ _ h => h))
        have HN4 : Hid (∀ k, ownOf o1 k → ownOf o k ∨ w.heap.size ≤ k) := Lib.hid (fun k hk => by
          rcases HA3.out k hk with h | h
          · exact .inl h
          · rw [World.size_alloc] at h; exact .inr (by omega))
        clear h1 h2
        have hph : (D.put i.toNat s).hit = D.hit := rfl
        rw [hph]
        clear hph
        cases hh : D.hit with
        | true =>
          have HH := Lib.hid hh
          clear hh
          go_wp2
          go_ret
          refine ⟨by rw [HWE.out, HOff.out, if_neg (by simp), if_pos HIn.out, if_pos HSz.out, HH.out]; rfl, o1, c1, ?_, HO4.out, HN4.out⟩
          rw [HWr.out, HOff.out, if_neg (by simp), if_pos HIn.out, if_pos HSz.out]; exact HA4.out
        | false =>
          have HH := Lib.hid hh
          clear hh
          go_wp2
          go_ret
          refine ⟨by rw [HWE.out, HOff.out, if_neg (by simp), if_pos HIn.out, if_pos HSz.out, HH.out]; rfl, o1, c1, ?_, HO4.out, HN4.out⟩
          rw [HWr.out, HOff.out, if_neg (by simp), if_pos HIn.out, if_pos HSz.out]; exact HA4.out
      · have hb : ((s.size : Int) != 64) = true := ne_bne (b := 64) hsz
        have HSz := Lib.hid hsz
        clear hsz
        go_enter Try.func49, Try.ntmps49
        go_wp2_with fail
        refine HCK2.out.mono ?_
        rintro e w' ⟨rfl, rfl⟩
        go_wp2
        go_ret
        refine ⟨by rw [HWE.out, HOff.out, if_neg (by simp), if_pos HIn.out, if_neg HSz.out]; rfl, o, cw, ?_, Onl.refl _ _, fun k hk => .inl hk⟩
        rw [HWr.out, HOff.out, if_neg (by simp), if_pos HIn.out, if_neg HSz.out]; exact H.out
    · have hck := HCK.out
      rw [HOff.out, if_neg (by simp), if_neg hin] at hck
      have HCK2 := Lib.hid hck
      have HIn := Lib.hid hin
      clear hck hin
      go_enter Try.func49, Try.ntmps49
      go_wp2_with fail
      refine HCK2.out.mono ?_
      rintro e w' ⟨rfl, rfl⟩
      go_wp2
      go_ret
      refine ⟨by rw [HWE.out, HOff.out, if_neg (by simp), if_neg HIn.out]; rfl, o, cw, ?_, Onl.refl _ _, fun k hk => .inl hk⟩
      rw [HWr.out, HOff.out, if_neg (by simp), if_neg HIn.out]; exact H.out
end Go.Proofs.Ytenngchidlfaeaa
/- The program's disk: zeros, NewDisk; payloads. -/
namespace Go.Proofs.Ytenngchidlfaeaa
open Go.RowKit
open Rad (Dsk)

def zer (n : Nat) : ByteArray := sb (List.replicate n 0)
set_option maxRecDepth 100000 in
theorem zeros109 (w : World) : Calls Try.prog 109 #[] w fun e w' => e = .returned (.string (zer 64)) ∧ Onl non w w' := by
  obtain ⟨w1, hw1⟩ : ∃ w1, w1 = w.alloc (.cells (bs (List.replicate 64 0)).toArray 5) := ⟨_, rfl⟩
  have hB : Blk w1 w.heap.size 5 (bs (List.replicate 64 0)) := by rw [hw1]; exact Blk.new w 5 _
  have hconv := conv_back w1 w.heap.size 0 64 (List.replicate 64 0) (fun b hb => by rw [List.eq_of_mem_replicate hb]; omega) (fun j hj => by rw [Nat.zero_add]; exact hB.cell' (bs_get (get_getD hj)))
  rw [List.length_replicate] at hconv
  have HO : Hid (Onl non w w1) := Lib.hid (by rw [hw1]; exact (Onl.refl non w).alloc _)
  have hw1' : (bs (List.replicate 64 0)).toArray = madeCells #[.int .u8 0] 64 := by rw [made_replicate]; simp [bs]
  have hmk := run_make_row' (P := Try.prog) 57 5 (.int .u8 0) 1 Try.underlying57 info5 rfl .i64 .i64 64 (by omega) (by omega) w
  have e64 : ((64 : Nat) : Int) = 64 := rfl
  rw [e64, ← hw1', ← hw1] at hmk
  clear hB hw1' hw1 e64
  go_enter Try.func109, Try.ntmps109
  go_wp2
  go_ret
  exact ⟨rfl, HO.out⟩
theorem qext {P : Program} {f : FuncId} {args : Array Value} {S : Nat → Prop} {w : World} {x : Ext S w} {v : Value}
    (h : Calls P f args x.val fun e w' => e = .returned v ∧ Onl non x.val w') : Calls P f args x.val fun e w'' => e = .returned v ∧ ∃ y : Ext S w, w'' = y.val :=
  h.mono fun _ w' ⟨a, b⟩ => ⟨a, ⟨w', x.property.trans b (fun _ _ h => h.elim)⟩, rfl⟩
instance (S : Nat → Prop) (w : World) : Nonempty (Ext S w) := ⟨⟨w, Onl.refl _ _⟩⟩
theorem rep_set {α : Type} (Z z : α) {k n : Nat} (h : k < n) : (List.replicate k Z ++ List.replicate (n - k) z).set k Z = List.replicate (k + 1) Z ++ List.replicate (n - (k + 1)) z := by
  rw [List.set_append_right _ _ (by simp), List.length_replicate, Nat.sub_self, show n - k = (n - (k + 1)) + 1 from by omega, List.replicate_succ, List.set_cons_zero, List.replicate_succ', List.append_assoc]
  rfl
theorem info9 : (Try.prog.info? 9).map (fun i => (i.zero, i.size, i.bytes)) = some (some (.string ⟨#[]⟩), 1, 16) := by kernel_rfl
def newD (n : Nat) : Dsk := ⟨List.replicate n (zer 64), [], false, 0, 0⟩
set_option maxRecDepth 100000 in
theorem NewDisk47_no (n : Int) (w : World) (h : n < 1 ∨ 4096 < n) : Calls Try.prog 47 #[.int .i64 n] w fun e w' => e = .returned (.tuple #[.pointer none, .int .i64 1]) ∧ w = w' := by
  rcases h with h | h
  · go_enter Try.func47, Try.ntmps47
    go_wp2
    go_ret2
    exact ⟨rfl, rfl⟩
  · have h1 : ¬ n < 1 := by omega
    go_enter Try.func47, Try.ntmps47
    go_wp2
    go_ret2
    exact ⟨rfl, rfl⟩
set_option maxRecDepth 100000 in
theorem NewDisk47_ok (n : Nat) (w : World) (h1 : 1 ≤ n) (h2 : n ≤ 4096) : Calls Try.prog 47 #[.int .i64 (n : Int)] w fun e w' => ∃ g gs cs, e = .returned (.tuple #[.pointer (some ⟨g, 0, none⟩), .int .i64 0]) ∧ DskAt w' g gs cs none 0 (newD n) ∧ Onl non w w' ∧ w.heap.size ≤ g ∧ w.heap.size ≤ gs := by
  have hmk := run_make_row' (P := Try.prog) 58 9 (.string ⟨#[]⟩) 16 Try.underlying58 info9 rfl .i64 .i64 n (by omega) (by omega) w
  obtain ⟨w1, hw1⟩ : ∃ w1, w1 = w.alloc (.cells (madeCells #[.string ⟨#[]⟩] n) 9) := ⟨_, rfl⟩
  have HB1 : Hid (Blk w1 w.heap.size 9 (ss (List.replicate n ⟨#[]⟩))) := Lib.hid (by
    rw [hw1, made_replicate]
    have := Blk.new w 9 (List.replicate n (.string ⟨#[]⟩))
    simpa [ss] using this)
  have HO1 : Hid (Onl non w w1) := Lib.hid (by rw [hw1]; exact (Onl.refl non w).alloc _)
  have HS1 : Hid (w1.heap.size = w.heap.size + 1) := Lib.hid (by rw [hw1]; simp)
  rw [← hw1] at hmk
  clear hw1
  go_enter Try.func47, Try.ntmps47
  go_wp2
  obtain ⟨w2, hw2⟩ : ∃ w2, w2 = w1.alloc (.cells #[.slice (some ⟨w.heap.size, 0, none⟩) n n, .slice none 0 0, .bool false, .int .i64 0, .int .i64 0] 149) := ⟨_, rfl⟩
  rw [← hw2]
  have HD2 : Hid (Blk w2 w1.heap.size 149 [.slice (some ⟨w.heap.size, 0, none⟩) n n, .slice none 0 0, .bool false, .int .i64 0, .int .i64 0]) := Lib.hid (by rw [hw2]; exact Blk.new w1 149 _)
  have HB2 : Hid (Blk w2 w.heap.size 9 (ss (List.replicate n ⟨#[]⟩))) := Lib.hid (by rw [hw2]; exact HB1.out.alloc _)
  have HO2 : Hid (Onl non w w2) := Lib.hid (by rw [hw2]; exact HO1.out.alloc _)
  have hgd : w.heap.size < w1.heap.size := by have := HS1.out; omega
  clear hw2 HB1 HO1 HS1 hmk
  obtain ⟨gd, hgdd⟩ : ∃ gd, gd = w1.heap.size := ⟨_, rfl⟩
  obtain ⟨gs, hgs⟩ : ∃ gs, gs = w.heap.size := ⟨_, rfl⟩
  rw [← hgdd, ← hgs] at HD2
  rw [← hgs] at HB2
  rw [← hgdd, ← hgs] at hgd ⊢
  have HGS := Lib.hid hgs
  clear hgdd hgs
  obtain ⟨Z, hZ⟩ : ∃ Z, Z = zer 64 := ⟨_, rfl⟩
  have HZe : Hid (newD n = ⟨List.replicate n Z, [], false, 0, 0⟩) := Lib.hid (by rw [hZ]; rfl)
  have HZ : Hid (∀ wx, Calls Try.prog 109 #[] wx fun e w' => e = .returned (.string Z) ∧ Onl non wx w') := Lib.hid (by intro wx; rw [hZ]; exact zeros109 wx)
  clear hZ
  go_loopw [21] (fun x wr => ∃ k : Nat, k ≤ n ∧ x = .int .i64 k ∧ Hid (Blk wr gd 149 [.slice (some ⟨gs, 0, none⟩) n n, .slice none 0 0, .bool false, .int .i64 0, .int .i64 0]) ∧ Hid (Blk wr gs 9 (ss (List.replicate k Z ++ List.replicate (n - k) ⟨#[]⟩))) ∧ Hid (Onl non w wr)) (fun x _ => n - (intOf x).toNat)
  case atStart => exact ⟨0, by omega, rfl, HD2, HB2, HO2⟩
  case round =>
    clear HD2 HB2 HO2
    obtain ⟨wo, rfl⟩ : ∃ wo : World, wo = wr := ⟨_, rfl⟩
    obtain ⟨k, hk, rfl, HD, HB, HO⟩ := hrel
    by_cases hlt : k < n
    · have hcl : ∀ x : Ext non wo, x.val.cell? ⟨gd, 0, none⟩ = some (.slice (some ⟨gs, 0, none⟩) n n) := fun x => (HD.out.onl x.property (fun h => h)).cell' rfl
      have i0 : (0 : Int) ≤ (k : Int) := by omega
      have i1 : (k : Int) < (n : Int) := by omega
      go_wp2
      refine wp_region_quiet_tail (fun w' => ∃ x : Ext non wo, w' = x.val) 7 (by kernel_rfl) (by kernel_rfl) ⟨⟨wo.drew, (Onl.refl non wo).drew⟩, rfl⟩ ?_
      simp only [List.take_succ_cons, List.take_zero, List.drop_succ_cons, List.drop_zero]
      repeat (go_big_quiet_step ((go_at_call 109; exact qext (HZ.out _))))
      refine wpQuiet_nil ?_
      intro wq hw'
      obtain ⟨x, hx⟩ := hw'
      have hO := x.property
      rw [← hx] at hO
      have HDq : Hid (Blk wq gd 149 [.slice (some ⟨gs, 0, none⟩) n n, .slice none 0 0, .bool false, .int .i64 0, .int .i64 0]) := Lib.hid (HD.out.onl hO (fun h => h))
      have HBq : Hid (Blk wq gs 9 (ss (List.replicate k Z ++ List.replicate (n - k) ⟨#[]⟩))) := Lib.hid (HB.out.onl hO (fun h => h))
      have HOq : Hid (Onl non w wq) := Lib.hid (HO.out.trans hO (fun _ _ h => h))
      have hcs : wq.cell? ⟨gs, k, none⟩ = some (.string ⟨#[]⟩) := HBq.out.cell' (ss_get (by
        rw [List.getElem?_append_right (by simp), List.length_replicate, Nat.sub_self, List.getElem?_replicate, if_pos (by omega)]))
      have hfs := HBq.out.free k
      clear hO hx hcl i0 i1 HD HB HO
      go_wp2
      go_roundw
      case rel =>
        refine ⟨k + 1, by omega, by go_num, Lib.hid ?_, Lib.hid ?_, Lib.hid ?_⟩
        · exact HDq.out.set_ne (by show gd ≠ gs; omega) _
        · have h := HBq.out.set k (.string Z)
          rw [ss_set] at h
          have e := rep_set Z ⟨#[]⟩ hlt
          rwa [e] at h
        · exact HOq.out.set _ _ (fun h => absurd h (by have := HGS.out; show ¬ gs < w.heap.size; omega))
      case measure => simp [intOf]; omega
    · have hkn : k = n := by omega
      have HBn : Hid (Blk wo gs 9 (ss (List.replicate n Z))) := Lib.hid (by have h := HB.out; rw [hkn, Nat.sub_self] at h; simpa using h)
      go_wp2
      go_ret2
      refine ⟨gd, gs, n, rfl, ?_, HO.out, by have := HGS.out; omega, by have := HGS.out; omega⟩
      rw [HZe.out]
      refine ⟨?_, HBn.out, Own.nil _ _ _ _, by omega, by simp [ownOf], by simp [ownOf], by simp, by simp; omega, by simp; omega⟩
      have h := HD.out
      simpa [dcs] using h
end Go.Proofs.Ytenngchidlfaeaa
/- The book's records: payloads, sectors. -/
namespace Go.Proofs.Ytenngchidlfaeaa
open Go.RowKit

theorem Blk.newB (w : World) (a : Obj) (t : TypeId) (cs : List Value) : Blk ((w.alloc a).alloc (.cells cs.toArray t)) (w.heap.size + 1) t cs := by
  have h := Blk.new (w.alloc a) t cs
  rwa [World.size_alloc] at h
def sectorsOf (n : Nat) : Nat := 1 + (n + 4) / 64
set_option maxRecDepth 100000 in
theorem sectors128 (n : Nat) (w : World) (hn : n ≤ 1000000) : Calls Try.prog 128 #[.int .i64 (n : Int)] w fun e w' => e = .returned (.int .i64 (sectorsOf n : Int)) ∧ w = w' := by
  have hs : (sectorsOf n : Int) = 1 + ((n : Int) + 4) / 64 := by unfold sectorsOf; omega
  have hm : sectorsOf n ≤ 1000000 := by unfold sectorsOf; omega
  have e1 : IntKind.i64.wrap ((n : Int) + 4) = (n : Int) + 4 := IntWalk.i64_in _ (by omega)
  have e2 : ((n : Int) + 4).tdiv 64 = ((n : Int) + 4) / 64 := Int.tdiv_eq_ediv_of_nonneg (by omega)
  have e3 : IntKind.i64.wrap (((n : Int) + 4) / 64) = ((n : Int) + 4) / 64 := IntWalk.i64_in _ (by omega)
  have HS := Lib.hid hs
  clear hs hm
  go_enter Try.func128, Try.ntmps128
  go_wp2
  go_ret
  exact ⟨retInt (by rw [HS.out]), rfl⟩
def bpay (n : Nat) : ByteArray := sb [1, n]
set_option maxRecDepth 100000 in
theorem beginPayload142 (n : Nat) (w : World) (hn : n < 256) : Calls Try.prog 142 #[.int .i64 (n : Int)] w fun e w' => e = .returned (.string (bpay n)) ∧ Onl non w w' := by
  have e1 : IntKind.u8.wrap (n : Int) = (n : Int) := u8w hn
  have hb : Rad.Bytes [1, n] := by intro b hb; simp at hb; omega
  have hconv := conv_back (w.alloc (.cells #[.int .u8 1, .int .u8 (n : Int)] 5)) w.heap.size 0 2 [1, n] hb (fun j hj => by rw [Nat.zero_add]; exact (Blk.new w 5 (bs [1, n])).cell' (bs_get (get_getD hj)))
  have el : [1, n].length = 2 := rfl
  rw [el] at hconv
  clear hb el
  go_enter Try.func142, Try.ntmps142
  go_wp2
  go_ret
  exact ⟨rfl, (Onl.refl non w).alloc _⟩
def epay (o n : Nat) (b : ByteArray) : ByteArray := sb [2, o, n] ++ b
set_option maxRecDepth 100000 in
theorem entryPayload162 (o n : Nat) (b : ByteArray) (w : World) (ho : o < 256) (hn : n < 256) (hb : b.size ≤ 1000000) : Calls Try.prog 162 #[.agg #[.int .i64 (o : Int), .int .i64 (n : Int), .string b]] w fun e w' => e = .returned (.string (epay o n b)) ∧ Onl non w w' := by
  have e1 : IntKind.u8.wrap (o : Int) = (o : Int) := u8w ho
  have e2 : IntKind.u8.wrap (n : Int) = (n : Int) := u8w hn
  have hb2 : Rad.Bytes [2, o, n] := by intro x hx; simp at hx; omega
  have hB := Blk.newB w (.cells #[.int .i64 (o : Int), .int .i64 (n : Int), .string b] 42) 5 (bs [2, o, n])
  have hconv := conv_back ((w.alloc (.cells #[.int .i64 (o : Int), .int .i64 (n : Int), .string b] 42)).alloc (.cells #[.int .u8 2, .int .u8 (o : Int), .int .u8 (n : Int)] 5)) (w.heap.size + 1) 0 3 [2, o, n] hb2 (fun j hj => by rw [Nat.zero_add]; exact hB.cell' (bs_get (get_getD hj)))
  have el : [2, o, n].length = 3 := rfl
  rw [el] at hconv
  have hb3 : (sb [2, o, n]).size = 3 := sb_size _
  obtain ⟨t, ht⟩ : ∃ t, t = sb [2, o, n] := ⟨_, rfl⟩
  rw [← ht] at hconv hb3
  have HT := Lib.hid ht
  clear hb2 hB el ht
  go_enter Try.func162, Try.ntmps162
  go_wp2
  go_ret
  refine ⟨?_, ((Onl.refl non w).alloc _).alloc _⟩
  rw [epay, ← HT.out]
  rfl
end Go.Proofs.Ytenngchidlfaeaa
/- The book's records: the sectors of a record, walked. -/
namespace Rad
/-- from place a on n numbers, filled with zeros -/
def part (p : List Nat) (a n : Nat) : List Nat := ((p.drop a).take n) ++ List.replicate (n - (p.length - a)) 0
theorem part_length (p : List Nat) (a n : Nat) : (part p a n).length = n := by
  unfold part; rw [List.length_append, List.length_take, List.length_drop, List.length_replicate]; omega
def four (n : Nat) : List Nat := [n % 256, n / 256 % 256, n / 65536 % 256, n / 16777216 % 256]
/-- sector i of the record of p -/
def sect (p : List Nat) (i : Nat) : List Nat := if i = 0 then four p.length ++ part p 0 59 ++ [1] else part p (59 + 64 * (i - 1)) 64
theorem sect_length (p : List Nat) (i : Nat) : (sect p i).length = 64 := by
  unfold sect; split
  · simp [part_length, four]
  · exact part_length _ _ _
end Rad
namespace Go.Proofs.Ytenngchidlfaeaa
open Go.RowKit

theorem buf_set {l : List Nat} {k n : Nat} (hk : k < n) (hl : k < l.length) : (bs (l.take k ++ List.replicate (n - k) 0)).set k (.int .u8 ((l.getD k 0 : Nat) : Int)) = bs (l.take (k + 1) ++ List.replicate (n - (k + 1)) 0) := by
  rw [bs_set, List.set_append_right _ _ (by simp; omega), List.length_take, Nat.min_eq_left (by omega), Nat.sub_self, show n - k = (n - (k + 1)) + 1 from by omega, List.replicate_succ, List.set_cons_zero, take_succ_getD hl, List.append_assoc]
  rfl
/-- copy of a string into a place of a row, as much as fits -/
theorem run_copy_row_min {P : Program} (w : World) (dT sT ty elem : TypeId) (g o dLen dCap : Nat) (s : ByteArray) (cur : Array Value) (t : TypeId)
    (hu : P.underlying dT = some (.slice elem)) (hs : (P.info? elem).map (·.size) = some 1) (hg : w.heap[g]? = some (.cells cur t (0, 0))) (hfit : o + min s.size dLen ≤ cur.size) :
    (Builtin.copy_ #[dT, sT] ty #[.slice (some ⟨g, o, none⟩) dLen dCap, .string s]).run P w =
      .ok (goInt (min s.size dLen : Nat)) (w.setRow g (cur.toList.take o ++ Lib.byteCells (s.data.toList.take (min s.size dLen)) ++ cur.toList.drop (o + min s.size dLen)).toArray) := by
  have hlen : (Lib.byteCells (s.data.toList.take (min s.size dLen))).length = min s.size dLen := by
    rw [Lib.byteCells_length, List.length_take, ← Lib.size_eq]; omega
  have hst := run_storeCells_at P g o t (Lib.byteCells (s.data.toList.take (min s.size dLen))) 0 cur w hg (by rw [hlen]; simpa using hfit) (Lib.byteCells_one _)
  have htk : List.take (min s.size dLen) (List.map (fun b : UInt8 => Value.int IntKind.u8 (b.toNat : Int)) s.data.toList) = Lib.byteCells (s.data.toList.take (min s.size dLen)) := by
    unfold Lib.byteCells; rw [List.map_take]
  rw [hlen] at hst
  simp only [Nat.add_zero] at hst
  obtain ⟨m, hm⟩ : ∃ m, m = min s.size dLen := ⟨_, rfl⟩
  have hmin : Nat.min s.size dLen = m := hm.symm
  rw [← hm] at hst htk ⊢
  cases hq : P.info? elem with
  | none => simp [hq] at hs
  | some i =>
    simp [Builtin.copy_, run_underlying hu, Builtin.lenOf, Builtin.firstCells, sizeOf, typeInfo, hq, hmin]
    rw [htk, hst]
    simp [Result.andThen]
theorem Blk.copy_at {w : World} {g : Nat} {t : TypeId} {cs : List Value} (h : Blk w g t cs) (o n c : Nat) (s : ByteArray) (hfit : o + min s.size n ≤ cs.length) :
    ∃ w', (Builtin.copy_ #[57, 9] 3 #[.slice (some ⟨g, o, none⟩) n c, .string s]).run Try.prog w = .ok (goInt (min s.size n : Nat)) w' ∧ Blk w' g t (cs.take o ++ bs ((bl s).take (min s.size n)) ++ cs.drop (o + min s.size n)) ∧ Onl (one g) w w' := by
  refine ⟨_, run_copy_row_min w 57 9 3 5 g o n c s cs.toArray t Try.underlying57 info5s h (by simpa using hfit), ?_, ?_⟩
  · unfold Blk
    have e : Lib.byteCells (s.data.toList.take (min s.size n)) = bs ((bl s).take (min s.size n)) := by simp [Lib.byteCells, bs, bl, List.map_take]; rfl
    rw [e]
    have hl := h.lt
    simp [World.setRow, Array.getElem?_modify, show w.heap[g]? = _ from h]
  · refine ⟨rfl, rfl, rfl, by simp [World.setRow], fun k _ hk => ?_⟩
    simp only [World.setRow, Array.getElem?_modify]
    rw [if_neg (fun e => hk e.symm)]
theorem Blk.setCells_all {g : Nat} {t : TypeId} : ∀ (vs : List Value) (o : Nat) {w : World} {cs : List Value}, Blk w g t cs → o + vs.length ≤ cs.length →
    Blk (w.setCells g o vs) g t (cs.take o ++ vs ++ cs.drop (o + vs.length))
  | [], o, w, cs, h, _ => by simp only [List.append_nil, List.length_nil, Nat.add_zero, List.take_append_drop]; exact h
  | v :: r, o, w, cs, h, hl => by
    have h2 := Blk.setCells_all r (o + 1) (h.set o v) (by simp at hl ⊢; omega)
    have e : (cs.set o v).take (o + 1) ++ r ++ (cs.set o v).drop (o + 1 + r.length) = cs.take o ++ (v :: r) ++ cs.drop (o + (v :: r).length) := by
      have ho : o < cs.length := by simp at hl; omega
      rw [List.take_succ_eq_append_getElem (by simpa using ho), List.take_set_of_le (by omega), List.getElem_set_self, List.drop_set_of_lt (by omega)]
      simp [Nat.add_comm 1, Nat.add_assoc]
    rw [← e]; exact h2
theorem first_cells (f p : List Nat) (hf : f.length = 4) : (bs (f ++ List.replicate 60 0)).take 4 ++ bs (p.take (min p.length 59)) ++ (bs (f ++ List.replicate 60 0)).drop (4 + min p.length 59) = bs (f ++ Rad.part p 0 59 ++ [0]) := by
  have e1 : (f ++ List.replicate 60 0).take 4 = f := by rw [List.take_append_of_le_length (by omega), List.take_of_length_le (by omega)]
  have e2 : (f ++ List.replicate 60 0).drop (4 + min p.length 59) = List.replicate (59 - p.length) 0 ++ [0] := by
    rw [List.drop_append, List.drop_of_length_le (by omega), List.nil_append, List.drop_replicate, hf, show 60 - (4 + min p.length 59 - 4) = (59 - p.length) + 1 from by omega, List.replicate_succ']
  have e3 : p.take (min p.length 59) = p.take 59 := by
    rcases Nat.le_total p.length 59 with h | h
    · rw [Nat.min_eq_left h, List.take_of_length_le (Nat.le_refl _), List.take_of_length_le h]
    · rw [Nat.min_eq_right h]
  unfold bs
  rw [← List.map_take, ← List.map_drop, e1, e2, e3, ← List.map_append, ← List.map_append]
  simp [Rad.part]
/-- clear of a buffer of 64 bytes -/
theorem Blk.clear64 {w : World} {g : Nat} {l : List Nat} (h : Blk w g 5 (bs l)) (hl : l.length = 64) :
    ∃ w', (Builtin.clear_ #[57] 0 #[.slice (some ⟨g, 0, none⟩) 64 64]).run Try.prog w = .ok (.tuple #[]) w' ∧ Blk w' g 5 (bs (List.replicate 64 0)) ∧ Onl (one g) w w' := by
  refine ⟨_, Lib.run_clear_slice w 57 5 0 (.int .u8 0) Try.underlying57 ?_ (by simp [Value.cells]) rfl g 0 64 64 (by omega) (fun j hj => by rw [Nat.zero_add, h.cell, List.getElem?_eq_getElem (by rw [bs_length, hl]; exact hj)]; rfl) (fun j _ => h.free _), ?_, ?_⟩
  · intro w
    obtain ⟨i, hi, hz0, _, _⟩ := info_parts info5
    simp [zeroValue, typeInfo, Sem.run_bind, hi, hz0, go_sem]
  · have h2 := Blk.setCells_all (List.replicate 64 (.int .u8 0)) 0 h (by simp [bs_length, hl])
    have e : (bs l).take 0 ++ List.replicate 64 (.int .u8 0) ++ (bs l).drop (0 + (List.replicate 64 (Value.int .u8 0)).length) = bs (List.replicate 64 0) := by
      rw [List.take_zero, List.nil_append, List.length_replicate, Nat.zero_add, List.drop_of_length_le (by rw [bs_length, hl]; omega), List.append_nil]
      simp [bs]
    rw [e] at h2; exact h2
  · obtain ⟨_, _, _, h3⟩ := Blk.setCells (List.replicate 64 (.int .u8 0)) 0 h (by simp [bs_length, hl])
    exact h3
theorem ss_one (l : List ByteArray) : ∀ u ∈ ss l, u.oneCell' = true := by
  intro u hu; obtain ⟨x, _, rfl⟩ := List.mem_map.1 hu; rfl
theorem sect_bytes (p : List Nat) (i : Nat) (hp : Rad.Bytes p) : Rad.Bytes (Rad.sect p i) := by
  have hpart : ∀ a n, Rad.Bytes (Rad.part p a n) := by
    intro a n b hb
    rcases List.mem_append.1 hb with h | h
    · exact hp b (List.mem_of_mem_drop (List.mem_of_mem_take h))
    · rw [List.eq_of_mem_replicate h]; omega
  unfold Rad.sect
  split
  · intro b hb
    rcases List.mem_append.1 hb with h | h
    · rcases List.mem_append.1 h with h | h
      · simp [Rad.four] at h; omega
      · exact hpart _ _ b h
    · rw [List.mem_singleton.1 h]; omega
  · exact hpart _ _
theorem next_cells (p : ByteArray) (n j : Nat) (hj : 1 ≤ j) (hn : n = min p.size (59 + 64 * (j - 1))) (_hnp : n ≤ p.size) :
    (bs (List.replicate 64 0)).take 0 ++ bs ((bl (p.extract n p.size)).take (min (p.size - n) 64)) ++ (bs (List.replicate 64 0)).drop (0 + min (p.size - n) 64) = bs (Rad.sect (bl p) j) := by
  have e0 : bl (p.extract n p.size) = (bl p).drop n := by
    simp [bl, ByteArray.data_extract, List.map_drop]
    rw [List.take_of_length_le]
    simp
  have hl := bl_length p
  rw [e0, List.take_zero, List.nil_append, Nat.zero_add]
  have e1 : Rad.sect (bl p) j = ((bl p).drop (59 + 64 * (j - 1))).take 64 ++ List.replicate (64 - (p.size - (59 + 64 * (j - 1)))) 0 := by
    rw [Rad.sect, if_neg (by omega), Rad.part, hl]
  rw [e1]
  unfold bs
  rw [← List.map_drop, ← List.map_append, List.drop_replicate]
  congr 1
  rcases Nat.le_total p.size (59 + 64 * (j - 1)) with h | h
  · rw [hn, Nat.min_eq_left h]
    rw [List.drop_of_length_le (by omega), List.drop_of_length_le (by omega), Nat.sub_self]
    rw [show p.size - (59 + 64 * (j - 1)) = 0 from by omega]
    simp
  · rw [hn, Nat.min_eq_right h]
    congr 1
    · rcases Nat.le_total (p.size - (59 + 64 * (j - 1))) 64 with h2 | h2
      · rw [Nat.min_eq_left h2, List.take_of_length_le (by simp; omega), List.take_of_length_le (by simp; omega)]
      · rw [Nat.min_eq_right h2]
    · congr 1; omega
/-- the sectors of a record -/
def laid (p : ByteArray) : List ByteArray := (List.range (sectorsOf p.size)).map fun i => sb (Rad.sect (bl p) i)
def LaidPost (p : ByteArray) (w : World) (e : Ending) (w' : World) : Prop := ∃ gl c, e = .returned (.slice (some ⟨gl, 0, none⟩) (sectorsOf p.size) c) ∧ sectorsOf p.size ≤ c ∧ w.heap.size ≤ gl ∧ (∃ ex, Blk w' gl 9 (ss (laid p) ++ ex)) ∧ Onl non w w'
set_option maxRecDepth 100000 in
set_option maxHeartbeats 1000000 in
theorem laid166 (p : ByteArray) (w : World) (hp : p.size ≤ 8000) : Calls Try.prog 166 #[.string p] w fun e w' => LaidPost p w e w' := by
  have hmk := run_make_row' (P := Try.prog) 57 5 (.int .u8 0) 1 Try.underlying57 info5 rfl .i64 .i64 64 (by omega) (by omega) w
  obtain ⟨w1, hw1⟩ : ∃ w1, w1 = w.alloc (.cells (madeCells #[.int .u8 0] 64) 5) := ⟨_, rfl⟩
  have HB1 : Hid (Blk w1 w.heap.size 5 (bs (List.replicate 64 0))) := Lib.hid (by
    rw [hw1, made_replicate]
    have := Blk.new w 5 (List.replicate 64 (.int .u8 0))
    simpa [bs] using this)
  have HO1 : Hid (Onl non w w1) := Lib.hid (by rw [hw1]; exact (Onl.refl non w).alloc _)
  have e64 : ((64 : Nat) : Int) = 64 := rfl
  rw [e64, ← hw1] at hmk
  clear e64 hw1
  go_enter Try.func166, Try.ntmps166
  go_wp2
  go_loopw [7] (fun x wr => ∃ k : Nat, k ≤ 4 ∧ x = .int .i64 k ∧ Hid (Blk wr w.heap.size 5 (bs ((Rad.four p.size).take k ++ List.replicate (64 - k) 0))) ∧ Hid (Onl non w wr)) (fun x _ => 4 - (intOf x).toNat)
  case atStart => exact ⟨0, by omega, rfl, HB1, HO1⟩
  case round =>
    clear HB1 HO1 hmk
    obtain ⟨k, hk, rfl, HB, HO⟩ := hrel
    by_cases hlt : k < 4
    · have hk4 : k = 0 ∨ k = 1 ∨ k = 2 ∨ k = 3 := by omega
      have hc : wr.cell? ⟨w.heap.size, k, none⟩ = some (.int .u8 0) := HB.out.cell' (bs_get (x := 0) (by
        rw [List.getElem?_append_right (by simp [Rad.four]; omega)]
        simp [Rad.four, List.getElem?_replicate]
        omega))
      have hf := HB.out.free k
      rcases hk4 with rfl | rfl | rfl | rfl
      · go_wp2
        go_roundw
        case rel =>
          refine ⟨1, by omega, rfl, Lib.hid ?_, Lib.hid (HO.out.set _ _ (fun h => absurd h (by simp)))⟩
          have e : ((p.size : Int) % 256) = (((Rad.four p.size).getD 0 0 : Nat) : Int) := by show _ = ((p.size % 256 : Nat) : Int); omega
          rw [e, ← buf_set (by decide) (by simp [Rad.four])]
          exact HB.out.set 0 _
        case measure => simp [intOf]
      · go_wp2
        go_roundw
        case rel =>
          refine ⟨2, by omega, rfl, Lib.hid ?_, Lib.hid (HO.out.set _ _ (fun h => absurd h (by simp)))⟩
          have e : ((p.size : Int) / 256) = (((Rad.four p.size).getD 1 0 : Nat) : Int) := by show _ = ((p.size / 256 % 256 : Nat) : Int); omega
          rw [e, ← buf_set (by decide) (by simp [Rad.four])]
          exact HB.out.set 1 _
        case measure => simp [intOf]
      · go_wp2
        go_roundw
        case rel =>
          refine ⟨3, by omega, rfl, Lib.hid ?_, Lib.hid (HO.out.set _ _ (fun h => absurd h (by simp)))⟩
          have e : ((p.size : Int) / 65536) = (((Rad.four p.size).getD 2 0 : Nat) : Int) := by show _ = ((p.size / 65536 % 256 : Nat) : Int); omega
          rw [e, ← buf_set (by decide) (by simp [Rad.four])]
          exact HB.out.set 2 _
        case measure => simp [intOf]
      · go_wp2
        go_roundw
        case rel =>
          refine ⟨4, by omega, rfl, Lib.hid ?_, Lib.hid (HO.out.set _ _ (fun h => absurd h (by simp)))⟩
          have e : ((p.size : Int) / 16777216) = (((Rad.four p.size).getD 3 0 : Nat) : Int) := by show _ = ((p.size / 16777216 % 256 : Nat) : Int); omega
          rw [e, ← buf_set (by decide) (by simp [Rad.four])]
          exact HB.out.set 3 _
        case measure => simp [intOf]
    · have hk4 : k = 4 := by omega
      subst hk4
      have hb4 : Blk wr w.heap.size 5 (bs (Rad.four p.size ++ List.replicate 60 0)) := HB.out
      obtain ⟨w2, hrun, hB2, hO2⟩ := hb4.copy_at 4 59 60 p (by simp [bs_length, Rad.four]; omega)
      have hfc := first_cells (Rad.four p.size) (bl p) rfl
      rw [bl_length] at hfc
      rw [hfc] at hB2
      obtain ⟨m, hm⟩ : ∃ m, m = min p.size 59 := ⟨_, rfl⟩
      rw [← hm] at hrun
      have HR := Lib.hid hrun
      have HB2 := Lib.hid hB2
      have HO2 : Hid (Onl non w w2) := Lib.hid (HO.out.trans hO2 (fun k hk h => by have : k = w.heap.size := h; omega))
      have HMm := Lib.hid hm
      have hm59 : m ≤ 59 := by omega
      have hmp : m ≤ p.size := by omega
      have hc63 : w2.cell? ⟨w.heap.size, 63, none⟩ = some (.int .u8 0) := hB2.cell' (bs_get (x := 0) (by
        rw [List.getElem?_append_right (by simp [Rad.four, Rad.part_length])]
        simp [Rad.four, Rad.part_length]))
      have hf63 := hB2.free 63
      clear hb4 hrun hB2 hO2 hfc hm HB HO
      go_wp2_with (refine Lib.wpList_copy_run (o := ⟨some 23, _, _, _, _, _⟩) _ rfl (.tmp 21) (.tmp 22) 57 9 rfl _ _ rfl rfl HR.out ?_)
      obtain ⟨w3, hw3⟩ : ∃ w3, w3 = w2.setCell ⟨w.heap.size, 63, none⟩ (.int .u8 1) := ⟨_, rfl⟩
      rw [← hw3]
      have HB3 : Hid (Blk w3 w.heap.size 5 (bs (Rad.sect (bl p) 0))) := Lib.hid (by
        rw [hw3]
        have h := HB2.out.set 63 (.int .u8 1)
        have e : (bs (Rad.four p.size ++ Rad.part (bl p) 0 59 ++ [0])).set 63 (.int .u8 1) = bs (Rad.sect (bl p) 0) := by
          have := bs_set (Rad.four p.size ++ Rad.part (bl p) 0 59 ++ [0]) 63 1
          rw [show ((1 : Nat) : Int) = 1 from rfl] at this
          rw [this, List.set_append_right _ _ (by simp [Rad.four, Rad.part_length])]
          have hl : (Rad.four p.size ++ Rad.part (bl p) 0 59).length = 63 := by simp [Rad.four, Rad.part_length]
          rw [hl, Rad.sect, if_pos rfl, bl_length]
          rfl
        rwa [e] at h)
      have HO3 : Hid (Onl non w w3) := Lib.hid (by rw [hw3]; exact HO2.out.set _ _ (fun h => absurd h (by simp)))
      have hg3 : w.heap.size < w3.heap.size := HB3.out.lt
      clear hw3 hc63 hf63 HB2 HO2 HR
      obtain ⟨N, hN⟩ : ∃ N, N = sectorsOf p.size := ⟨_, rfl⟩
      have hN2 : N ≤ 200 := by rw [hN]; unfold sectorsOf; omega
      have hN1 : 1 ≤ N := by rw [hN]; unfold sectorsOf; omega
      have HNn := Lib.hid hN
      have hLl : (laid p).length = N := by rw [hN]; simp [laid]
      have HLl := Lib.hid hLl
      have hS : ∀ i, i < N → (laid p)[i]? = some (sb (Rad.sect (bl p) i)) := by
        intro i hi
        rw [hN] at hi
        simp [laid, hi]
      have HS := Lib.hid hS
      obtain ⟨S0, hS0⟩ : ∃ S0, S0 = sb (Rad.sect (bl p) 0) := ⟨_, rfl⟩
      have hconv := conv_back w3 w.heap.size 0 64 (Rad.sect (bl p) 0) (sect_bytes _ _ (bl_bytes p)) (fun j hj => by rw [Nat.zero_add]; exact HB3.out.cell' (bs_get (get_getD hj)))
      rw [Rad.sect_length, ← hS0] at hconv
      have HX0 : Hid (ss ((laid p).take 1) = ss [S0]) := Lib.hid (by
        have h := HS.out 0 (by omega)
        rw [hS0]
        have hl0 : 0 < (laid p).length := by rw [HLl.out]; omega
        rw [List.getElem?_eq_getElem hl0] at h
        rw [List.take_succ_eq_append_getElem hl0, List.take_zero, List.nil_append, Option.some.inj h])
      have hnb : ∀ i u, (ss [S0])[i]? = some u → (w3.alloc (.cells #[.string S0] 9)).cell? ((⟨w3.heap.size, 0, none⟩ : Addr).add i) = some u := (Blk.new w3 9 (ss [S0])).cells
      have HNB := Lib.hid hnb
      have HOx : Hid (Own (w3.alloc (.cells #[.string S0] 9)) (w.heap.size + 1) 9 1 none 0 0 []) := Lib.hid (Own.nil _ _ _ _)
      clear hnb hS hLl hN hS0
      rw [hconv]
      go_simp
      go_wp2_with (at_builtin; refine wpList_app rfl (.tmp 26) (.tmp 29) 58 rfl (w.heap.size + 1) 9 (.string ⟨#[]⟩) 1 16 Try.underlying58 info9 rfl (by decide) _ _ _ _ rfl HOx.out ⟨w3.heap.size, 0, none⟩ 1 1 (ss [S0]) rfl rfl HNB.out (ss_one _) (by omega) (by omega) (by simp; omega) ?_; intro o1 c1 wA hA1 hA2 hA3; have HA1 := Lib.hid hA1; have HA2 := Lib.hid hA2; clear hA1 hA2 hA3)
      have HAo : Hid (Own wA (w.heap.size + 1) 9 1 o1 1 c1 (ss ((laid p).take 1))) := Lib.hid (by rw [HX0.out]; have h := HA1.out; simpa only [Nat.zero_add, List.nil_append] using h)
      have HBA : Hid (Blk wA w.heap.size 5 (bs (Rad.sect (bl p) 0))) := Lib.hid ((HB3.out.alloc _).onl HA2.out (fun h => by simp [ownOf] at h))
      have HOA : Hid (Onl non w wA) := Lib.hid ((HO3.out.alloc _).trans HA2.out (fun k _ h => by simp [ownOf] at h))
      have HSl := Lib.hid (Rad.sect_length (bl p) 0)
      obtain ⟨X0, hX0⟩ : ∃ X0, X0 = Rad.sect (bl p) 0 := ⟨_, rfl⟩
      rw [← hX0] at HBA HSl
      have HM1 : Hid (m = min p.size (59 + 64 * (1 - 1))) := Lib.hid HMm.out
      clear hconv HA1 HA2 HB3 HO3 hX0 HX0 HNB HOx hg3
      go_loopw [2, 5] (fun u v wr => ∃ (o : Option Addr) (c j n : Nat) (X : List Nat), 1 ≤ j ∧ j ≤ N ∧ n ≤ p.size ∧ u = .slice o j c ∧ v = .int .i64 n ∧ Hid (n = min p.size (59 + 64 * (j - 1))) ∧ Hid (Own wr (w.heap.size + 1) 9 1 o j c (ss ((laid p).take j))) ∧ Hid (Blk wr w.heap.size 5 (bs X)) ∧ Hid (X.length = 64) ∧ Hid (Onl non w wr)) (fun u _ _ => N - (match u with | .slice _ j _ => j | _ => 0))
      case atStart => exact ⟨o1, c1, 1, m, X0, by omega, hN1, hmp, rfl, rfl, HM1, HAo, HBA, HSl, HOA⟩
      case round =>
        clear HAo HBA HOA HSl HM1 hmp hm59
        obtain ⟨o, c, j, n, X, hj1, hj2, hnp, rfl, rfl, HNj, HOw, HB, HXl, HO⟩ := hrel
        have hsec := fun wx => sectors128 p.size wx (by omega)
        rw [← HNn.out] at hsec
        have HSec := Lib.hid hsec
        clear hsec
        by_cases hlt : j < N
        · obtain ⟨w4, hclr, hB4, hO4⟩ := HB.out.clear64 HXl.out
          have hts : (p.extract n p.size).size = p.size - n := by rw [ByteArray.size_extract]; omega
          obtain ⟨w5, hcp, hB5, hO5⟩ := hB4.copy_at 0 64 64 (p.extract n p.size) (by simp [bs_length]; omega)
          rw [hts] at hcp hB5
          have HCp := Lib.hid hcp
          have HB5 := Lib.hid hB5
          have HO5 : Hid (Onl (one w.heap.size) wr w5) := Lib.hid (hO4.trans hO5 (fun _ _ h => h))
          have i0 : (0 : Int) ≤ (n : Int) := by omega
          have i1 : (n : Int) ≤ (p.size : Int) := by omega
          clear hcp hB4 hB5 hO4 hO5 hts
          go_wp2_with fail
          refine (HSec.out _).mono ?_
          rintro e w' ⟨rfl, rfl⟩
          go_wp2_with (refine Lib.wpList_copy_run (o := ⟨some 43, _, _, _, _, _⟩) _ rfl (.tmp 39) (.tmp 42) 57 9 rfl _ _ rfl rfl HCp.out ?_)
          obtain ⟨S, hSe⟩ : ∃ S, S = sb (Rad.sect (bl p) j) := ⟨_, rfl⟩
          have HSj : Hid (Blk w5 w.heap.size 5 (bs (Rad.sect (bl p) j))) := Lib.hid (by
            have h := HB5.out
            rwa [next_cells p n j hj1 HNj.out hnp] at h)
          have hconv := conv_back w5 w.heap.size 0 64 (Rad.sect (bl p) j) (sect_bytes _ _ (bl_bytes p)) (fun q hq => by rw [Nat.zero_add]; exact HSj.out.cell' (bs_get (get_getD hq)))
          rw [Rad.sect_length, ← hSe] at hconv
          have HX : Hid (ss ((laid p).take (j + 1)) = ss ((laid p).take j) ++ ss [S]) := Lib.hid (by
            have h := HS.out j hlt
            have hl0 : j < (laid p).length := by rw [HLl.out]; exact hlt
            rw [List.getElem?_eq_getElem hl0] at h
            rw [List.take_succ_eq_append_getElem hl0, Option.some.inj h, hSe]
            simp [ss])
          have hnb : ∀ i u, (ss [S])[i]? = some u → (w5.alloc (.cells #[.string S] 9)).cell? ((⟨w5.heap.size, 0, none⟩ : Addr).add i) = some u := (Blk.new w5 9 (ss [S])).cells
          have HNB := Lib.hid hnb
          have HOx : Hid (Own (w5.alloc (.cells #[.string S] 9)) (w.heap.size + 1) 9 1 o j c (ss ((laid p).take j))) := Lib.hid ((HOw.out.onl HO5.out (fun k hk e => by have := (HOw.out.lt k hk).1; have e' : k = w.heap.size := e; omega)).alloc _)
          have hg5 : w.heap.size < w5.heap.size := HSj.out.lt
          clear hnb hSe
          rw [hconv]
          go_simp
          go_wp2_with (at_builtin; refine wpList_app rfl (.tmp 45) (.tmp 48) 58 rfl (w.heap.size + 1) 9 (.string ⟨#[]⟩) 1 16 Try.underlying58 info9 rfl (by decide) _ _ _ _ rfl HOx.out ⟨w5.heap.size, 0, none⟩ 1 1 (ss [S]) rfl rfl HNB.out (ss_one _) (by omega) (by omega) (by simp; omega) ?_; intro o2 c2 wB hA1 hA2 hA3; have HA1 := Lib.hid hA1; have HA2 := Lib.hid hA2; clear hA1 hA2 hA3)
          go_roundw
          case rel =>
            refine ⟨o2, c2, j + 1, n + min (p.size - n) 64, Rad.sect (bl p) j, by omega, by omega, by omega, rfl, by go_num, Lib.hid ?_, Lib.hid ?_, Lib.hid ?_, Lib.hid (Rad.sect_length _ _), Lib.hid ?_⟩
            · have h := HNj.out
              rw [show j + 1 - 1 = j from by omega]
              omega
            · rw [HX.out]; exact HA1.out
            · exact (HSj.out.alloc _).onl HA2.out (fun h => by have := (HOw.out.lt _ h).1; omega)
            · exact ((HO.out.trans HO5.out (fun k hk e => by have e' : k = w.heap.size := e; omega)).alloc _).trans HA2.out (fun k hk h => by have := (HOw.out.lt _ h).1; omega)
          case measure => show N - (j + 1) < N - j; omega
        · go_wp2_with fail
          refine (HSec.out _).mono ?_
          rintro e w' ⟨rfl, rfl⟩
          have hjN : j = N := by omega
          obtain ⟨gl, ex, rfl, hgl, hbl, hjc, _, _⟩ := HOw.out.shape (by omega)
          rw [hjN, ← HLl.out, List.take_length] at hbl
          have HBl := Lib.hid hbl
          subst hjN
          clear hbl HOw
          go_wp2
          go_ret
          exact ⟨gl, c, by rw [← HNn.out]; rfl, by rw [← HNn.out]; exact hjc, by omega, ⟨ex, HBl.out⟩, HO.out⟩
end Go.Proofs.Ytenngchidlfaeaa
