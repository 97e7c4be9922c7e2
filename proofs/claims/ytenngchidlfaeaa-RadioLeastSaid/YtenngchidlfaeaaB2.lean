/- B2: texts C17 T35 T36 T37 C18 T38 T39 T40 T41 C19 T42 C20, joined. -/
import Derived.Test.YtenngchidlfaeaaA2
import Derived.Test.YtenngchidlfaeaaA5
import Derived.Test.YtenngchidlfaeaaA6
import Derived.Test.YtenngchidlfaeaaA9
import Derived.Test.YtenngchidlfaeaaA8
import Derived.Deep.RegionWith
import Derived.Deep.DeepCutAuto
import Derived.Lib.LazyBuf
import Derived.Deep.Slices
/- The reference's disk as cells; reading, arming and starting a disk again, as a model. -/
namespace Rad
open Go.Proofs.Ytenngchidlfaeaa
/-- what waits for a sector -/
def wait (i : Nat) (s : ByteArray) (l : List (Nat × ByteArray)) : ByteArray := l.foldl (fun c p => if p.1 = i then p.2 else c) s
theorem wait_snoc (i : Nat) (s : ByteArray) (l : List (Nat × ByteArray)) (p : Nat × ByteArray) : wait i s (l ++ [p]) = if p.1 = i then p.2 else wait i s l := by unfold wait; rw [List.foldl_append]; rfl
def Dsk.get (D : Dsk) (i : Int) : ByteArray := if D.off then ⟨#[]⟩ else if 0 ≤ i ∧ i < D.safe.length then wait i.toNat (D.safe.getD i.toNat ⟨#[]⟩) D.waits else ⟨#[]⟩
def Dsk.getE (D : Dsk) (i : Int) : Int := if D.off then 93 else if 0 ≤ i ∧ i < D.safe.length then 0 else 1
def Dsk.arm (D : Dsk) (n : Int) : Dsk := { D with armed := n.toNat }
end Rad
namespace Go.Proofs.Ytenngchidlfaeaa
open Go.RowKit
open Rad (Dsk)
/-- the reference's disk's own cells -/
def rdcs (gs : Nat) (cs : Nat) (o : Option Addr) (cw : Nat) (D : Dsk) : List Value :=
  [.slice (some ⟨gs, 0, none⟩) D.safe.length cs, .slice o D.waits.length cw, .bool (!D.off), .int .i64 (D.armed : Int), .int .i64 (D.falls : Int)]
/-- the reference's disk, in memory -/
structure RDskAt (w : World) (g gs cs : Nat) (o : Option Addr) (cw : Nat) (D : Dsk) : Prop where
  disk : Blk w g 153 (rdcs gs cs o cw D)
  safe : ∃ ex, Blk w gs 9 (ss D.safe ++ ex)
  waits : Own w 0 159 2 o D.waits.length cw (wcs D.waits)
  n1 : g ≠ gs
  n2 : ¬ ownOf o g
  n3 : ¬ ownOf o gs
  in1 : ∀ p ∈ D.waits, p.1 < D.safe.length
  in2 : D.safe.length ≤ 4096
  in3 : 1 ≤ D.safe.length
theorem RDskAt.onl {S : Nat → Prop} {w w' : World} {g gs cs : Nat} {o : Option Addr} {cw : Nat} {D : Dsk} (h : RDskAt w g gs cs o cw D) (ho : Onl S w w') (hs : ∀ k, dskOf g gs o k → ¬ S k) : RDskAt w' g gs cs o cw D := by
  obtain ⟨ex, he⟩ := h.safe
  exact ⟨h.disk.onl ho (hs _ (.inl rfl)), ⟨ex, he.onl ho (hs _ (.inr (.inl rfl)))⟩, h.waits.onl ho (fun k hk => hs k (.inr (.inr hk))), h.n1, h.n2, h.n3, h.in1, h.in2, h.in3⟩
theorem RDskAt.drw {w w' : World} {g gs cs : Nat} {o : Option Addr} {cw : Nat} {D : Dsk} (h : RDskAt w g gs cs o cw D) (hd : Drw w w') : RDskAt w' g gs cs o cw D := by
  obtain ⟨n, rfl⟩ := hd; exact ⟨h.disk, h.safe, h.waits, h.n1, h.n2, h.n3, h.in1, h.in2, h.in3⟩
theorem RDskAt.c0 {w : World} {g gs cs : Nat} {o : Option Addr} {cw : Nat} {D : Dsk} (h : RDskAt w g gs cs o cw D) : w.cell? ⟨g, 0, none⟩ = some (.slice (some ⟨gs, 0, none⟩) D.safe.length cs) := h.disk.cell' rfl
theorem RDskAt.c1 {w : World} {g gs cs : Nat} {o : Option Addr} {cw : Nat} {D : Dsk} (h : RDskAt w g gs cs o cw D) : w.cell? ⟨g, 1, none⟩ = some (.slice o D.waits.length cw) := h.disk.cell' rfl
theorem RDskAt.c2 {w : World} {g gs cs : Nat} {o : Option Addr} {cw : Nat} {D : Dsk} (h : RDskAt w g gs cs o cw D) : w.cell? ⟨g, 2, none⟩ = some (.bool (!D.off)) := h.disk.cell' rfl
theorem RDskAt.c3 {w : World} {g gs cs : Nat} {o : Option Addr} {cw : Nat} {D : Dsk} (h : RDskAt w g gs cs o cw D) : w.cell? ⟨g, 3, none⟩ = some (.int .i64 (D.armed : Int)) := h.disk.cell' rfl
theorem RDskAt.c4 {w : World} {g gs cs : Nat} {o : Option Addr} {cw : Nat} {D : Dsk} (h : RDskAt w g gs cs o cw D) : w.cell? ⟨g, 4, none⟩ = some (.int .i64 (D.falls : Int)) := h.disk.cell' rfl
theorem RDskAt.put {w : World} {g gs cs : Nat} {o : Option Addr} {cw : Nat} {D : Dsk} (h : RDskAt w g gs cs o cw D) (i : Nat) (v : Value) {D' : Dsk} (h0 : D'.safe = D.safe) (h1 : D'.waits = D.waits) (hv : (rdcs gs cs o cw D).set i v = rdcs gs cs o cw D') : RDskAt (w.setCell ⟨g, i, none⟩ v) g gs cs o cw D' := by
  obtain ⟨ex, he⟩ := h.safe
  refine ⟨?_, ?_, ?_, h.n1, h.n2, h.n3, ?_, ?_, ?_⟩
  · rw [← hv]; exact h.disk.set i v
  · rw [h0]; exact ⟨ex, he.set_ne (fun e => h.n1 e.symm) v⟩
  · rw [h1]; exact h.waits.onl (((Onl.refl (one g) w)).set _ _ (fun _ => rfl)) (fun k hk e => h.n2 (by rw [← show k = g from e]; exact hk))
  · rw [h0, h1]; exact h.in1
  · rw [h0]; exact h.in2
  · rw [h0]; exact h.in3
theorem RDskAt.sc {w : World} {g gs cs : Nat} {o : Option Addr} {cw : Nat} {D : Dsk} (h : RDskAt w g gs cs o cw D) {i : Nat} {s : ByteArray} (hs : D.safe[i]? = some s) : w.cell? ⟨gs, i, none⟩ = some (.string s) := by
  obtain ⟨ex, he⟩ := h.safe
  exact he.cell_pre (ss_get hs)
theorem RDskAt.sf {w : World} {g gs cs : Nat} {o : Option Addr} {cw : Nat} {D : Dsk} (h : RDskAt w g gs cs o cw D) (i : Nat) : w.frozen? ⟨gs, i, none⟩ = false := by
  obtain ⟨ex, he⟩ := h.safe
  exact he.free i
theorem RDskAt.save {w : World} {g gs cs : Nat} {o : Option Addr} {cw : Nat} {D : Dsk} (h : RDskAt w g gs cs o cw D) (i : Nat) (s : ByteArray) (hi : i < D.safe.length) : RDskAt (w.setCell ⟨gs, i, none⟩ (.string s)) g gs cs o cw { D with safe := D.safe.set i s } := by
  obtain ⟨ex, he⟩ := h.safe
  refine ⟨?_, ?_, ?_, h.n1, h.n2, h.n3, ?_, ?_, ?_⟩
  · have h2 := h.disk.set_ne (p := ⟨gs, i, none⟩) h.n1 (.string s)
    unfold rdcs at h2 ⊢
    rw [List.length_set]; exact h2
  · refine ⟨ex, ?_⟩
    rw [← ss_set]; exact he.set_pre (by rw [ss_length]; exact hi) _
  · exact h.waits.onl (((Onl.refl (one gs) w)).set _ _ (fun _ => rfl)) (fun k hk e => h.n3 (by rw [← show k = gs from e]; exact hk))
  · rw [List.length_set]; exact h.in1
  · rw [List.length_set]; exact h.in2
  · rw [List.length_set]; exact h.in3
end Go.Proofs.Ytenngchidlfaeaa
/- The reference's disk, its small functions, walked. -/
namespace Go.Proofs.Ytenngchidlfaeaa
open Go.RowKit
open Rad (Dsk)

set_option maxRecDepth 100000 in
theorem RUp61 (g gs cs : Nat) (o : Option Addr) (cw : Nat) (D : Dsk) (w : World) (h : RDskAt w g gs cs o cw D) : Calls Try.prog 61 #[.pointer (some ⟨g, 0, none⟩)] w fun e w' => e = .returned (.bool (!D.off)) ∧ w = w' := by
  have hc := h.c2
  clear h
  go_enter Try.func61, Try.ntmps61
  go_wp2
  go_ret
  exact ⟨rfl, rfl⟩
set_option maxRecDepth 100000 in
theorem RSectors63 (g gs cs : Nat) (o : Option Addr) (cw : Nat) (D : Dsk) (w : World) (h : RDskAt w g gs cs o cw D) : Calls Try.prog 63 #[.pointer (some ⟨g, 0, none⟩)] w fun e w' => e = .returned (.int .i64 (D.safe.length : Int)) ∧ w = w' := by
  have hc := h.c0
  clear h
  go_enter Try.func63, Try.ntmps63
  go_wp2
  go_ret
  exact ⟨rfl, rfl⟩
set_option maxRecDepth 100000 in
theorem falls113 (g gs cs : Nat) (o : Option Addr) (cw : Nat) (D : Dsk) (w : World) (h : RDskAt w g gs cs o cw D) (hoff : D.off = false) (hf : D.falls < 1000000000) (ha : D.armed < 9223372036854775808) : Calls Try.prog 113 #[.pointer (some ⟨g, 0, none⟩)] w fun e w' => e = .returned (.bool D.hit) ∧ RDskAt w' g gs cs o cw D.strike ∧ Onl (one g) w w' := by
  have hf2 := h.disk.free 2
  have hf3 := h.disk.free 3
  have hf4 := h.disk.free 4
  have hc2 := h.c2
  have hc3 := h.c3
  have hc4 := h.c4
  have H := Lib.hid h
  clear h
  obtain ⟨safe, waits, off, armed, falls⟩ := D
  obtain rfl : off = false := hoff
  by_cases h0 : armed = 0
  · subst h0
    go_enter Try.func113, Try.ntmps113
    go_wp2
    go_ret
    exact ⟨rfl, H.out, Onl.refl _ w⟩
  · by_cases h1 : armed = 1
    · subst h1
      clear h0
      have h1 := H.out.put 3 (.int .i64 0) (D' := ⟨safe, waits, false, 0, falls⟩) rfl rfl rfl
      have h2 := h1.put 2 (.bool false) (D' := ⟨safe, waits, true, 0, falls⟩) rfl rfl rfl
      have hf' : falls < 1000000000 := hf
      have hwr : wrap64 ((falls : Int) + 1) = ((falls + 1 : Nat) : Int) := by rw [IntWalk.wrap64_in _ (by omega)]; omega
      have H2 := Lib.hid h2
      clear h1 h2
      go_enter Try.func113, Try.ntmps113
      go_wp2
      go_ret
      refine ⟨rfl, ?_, ?_⟩
      rotate_left
      · exact (((Onl.refl (one g) w).set ⟨g, 3, none⟩ _ (fun _ => rfl)).set ⟨g, 2, none⟩ _ (fun _ => rfl)).set ⟨g, 4, none⟩ _ (fun _ => rfl)
      have h2 := H2.out
      exact h2.put 4 (.int .i64 ((falls + 1 : Nat) : Int)) (D' := (Dsk.mk safe waits false 1 falls).strike) rfl rfl rfl
    · have hh : (Dsk.mk safe waits false armed falls).hit = false := by simp [Dsk.hit, h1]
      have hs : (Dsk.mk safe waits false armed falls).strike = ⟨safe, waits, false, armed - 1, falls⟩ := by simp [Dsk.strike, h0, h1]
      have HH := Lib.hid hh
      have HS := Lib.hid hs
      clear hh hs
      obtain ⟨c, hc⟩ : ∃ c, c = armed - 1 := ⟨_, rfl⟩
      have e1 : IntKind.i64.wrap ((armed : Int) - 1) = (c : Int) := by rw [IntWalk.i64_in _ (by simp only at ha; omega)]; omega
      have b0 : ((armed : Int) == 0) = false := ne_beq (b := 0) h0
      have hc1 : 0 < c := by omega
      rw [← hc] at HS
      clear h0 h1 hc
      go_enter Try.func113, Try.ntmps113
      go_wp2
      go_ret
      refine ⟨by rw [HH.out]; rfl, ?_, (Onl.refl _ w).set _ _ (fun _ => rfl)⟩
      rw [HS.out]
      exact H.out.put 3 _ (D' := ⟨safe, waits, false, c, falls⟩) rfl rfl rfl
set_option maxRecDepth 100000 in
theorem Arm56 (g gs cs : Nat) (o : Option Addr) (cw : Nat) (D : Dsk) (n : Int) (w : World) (h : DskAt w g gs cs o cw D) : Calls Try.prog 56 #[.pointer (some ⟨g, 0, none⟩), .int .i64 n] w fun e w' => e = .returned (.tuple #[]) ∧ DskAt w' g gs cs o cw (D.arm n) ∧ Onl (one g) w w' := by
  have hf3 := h.disk.free 3
  have hc3 := h.c3
  have H := Lib.hid h
  clear h
  have hm : max n 0 = ((n.toNat : Nat) : Int) := by omega
  have HM := Lib.hid hm
  clear hm
  go_enter Try.func56, Try.ntmps56
  go_wp2
  refine bodyPost_end (v := .tuple #[]) (by simp [results, Try.results56, go_sem]) rfl ⟨rfl, ?_, (Onl.refl (one g) w).set ⟨g, 3, none⟩ _ (fun _ => rfl)⟩
  rw [HM.out]
  exact H.out.put 3 _ (D' := D.arm n) rfl rfl rfl
set_option maxRecDepth 100000 in
theorem RArm57 (g gs cs : Nat) (o : Option Addr) (cw : Nat) (D : Dsk) (n : Int) (w : World) (h : RDskAt w g gs cs o cw D) : Calls Try.prog 57 #[.pointer (some ⟨g, 0, none⟩), .int .i64 n] w fun e w' => e = .returned (.tuple #[]) ∧ RDskAt w' g gs cs o cw (D.arm n) ∧ Onl (one g) w w' := by
  have hf3 := h.disk.free 3
  have hc3 := h.c3
  have H := Lib.hid h
  clear h
  have h1 := H.out.put 3 (.int .i64 0) (D' := D.arm 0) rfl rfl rfl
  have H1 := Lib.hid h1
  clear h1
  by_cases hn : 0 < n
  · go_enter Try.func57, Try.ntmps57
    go_wp2
    refine bodyPost_end (v := .tuple #[]) (by simp [results, Try.results57, go_sem]) rfl ⟨rfl, ?_, ((Onl.refl (one g) w).set ⟨g, 3, none⟩ _ (fun _ => rfl)).set ⟨g, 3, none⟩ _ (fun _ => rfl)⟩
    have e : n = ((n.toNat : Nat) : Int) := by omega
    have h2 := H1.out.put 3 (.int .i64 ((n.toNat : Nat) : Int)) (D' := D.arm n) rfl rfl rfl
    rwa [← e] at h2
  · go_enter Try.func57, Try.ntmps57
    go_wp2
    refine bodyPost_end (v := .tuple #[]) (by simp [results, Try.results57, go_sem]) rfl ⟨rfl, ?_, (Onl.refl (one g) w).set ⟨g, 3, none⟩ _ (fun _ => rfl)⟩
    have e : D.arm n = D.arm 0 := by unfold Dsk.arm; congr 1; omega
    rw [e]; exact H1.out
end Go.Proofs.Ytenngchidlfaeaa
/- The reference's disk: Write, Sync, walked. -/
namespace Go.Proofs.Ytenngchidlfaeaa
open Go.RowKit
open Rad (Dsk)

theorem info159 : (Try.prog.info? 159).map (fun i => (i.zero, i.size, i.bytes)) = some (some (.agg #[.int .i64 0, .string ⟨#[]⟩]), 2, 24) := by kernel_rfl
set_option maxRecDepth 100000 in
theorem RWrite51 (g gs cs : Nat) (o : Option Addr) (cw : Nat) (D : Dsk) (i : Int) (s : ByteArray) (w : World) (h : RDskAt w g gs cs o cw D) (hf : D.falls < 1000000000) (ha : D.armed < 9223372036854775808) (hw : D.waits.length < 100000000) (hi : -9223372036854775808 ≤ i ∧ i ≤ 9223372036854775807) (_hs : s.size ≤ 9223372036854775807) :
    Calls Try.prog 51 #[.pointer (some ⟨g, 0, none⟩), .int .i64 i, .string s] w fun e w' => e = .returned (.int .i64 (D.writeE i s)) ∧ ∃ o' cw', RDskAt w' g gs cs o' cw' (D.write i s) ∧ Onl (dskOf g gs o) w w' ∧ (∀ k, ownOf o' k → ownOf o k ∨ w.heap.size ≤ k) := by
  have H := Lib.hid h
  have hc0 := h.c0
  have hc2 := h.c2
  have hl2 := h.in2
  have HWr : Hid (D.write i s = if D.off then D else if 0 ≤ i ∧ i < D.safe.length then if s.size = 64 then (D.put i.toNat s).strike else D else D) := Lib.hid rfl
  have HWE : Hid (D.writeE i s = if D.off then 93 else if 0 ≤ i ∧ i < D.safe.length then if s.size = 64 then if D.hit then 93 else 0 else 1 else 1) := Lib.hid rfl
  clear h
  obtain ⟨n, hn⟩ : ∃ n, n = D.safe.length := ⟨_, rfl⟩
  rw [← hn] at hc0 hl2
  have HN := Lib.hid hn
  clear hn
  cases hoff : D.off with
  | true =>
    rw [hoff] at hc2
    have HOff := Lib.hid hoff
    clear hoff
    go_enter Try.func51, Try.ntmps51
    go_wp2
    go_ret
    refine ⟨by rw [HWE.out, HOff.out]; rfl, o, cw, ?_, Onl.refl _ _, fun k hk => .inl hk⟩
    rw [HWr.out, HOff.out]; exact H.out
  | false =>
    rw [hoff] at hc2
    have HOff := Lib.hid hoff
    clear hoff
    by_cases hneg : i < 0
    · go_enter Try.func51, Try.ntmps51
      go_wp2
      go_ret
      refine ⟨by rw [HWE.out, HOff.out, if_neg (by simp), if_neg (by omega)]; rfl, o, cw, ?_, Onl.refl _ _, fun k hk => .inl hk⟩
      rw [HWr.out, HOff.out, if_neg (by simp), if_neg (by omega)]; exact H.out
    by_cases hbig : (n : Int) ≤ i
    · go_enter Try.func51, Try.ntmps51
      go_wp2
      go_ret
      have hno : ¬ (0 ≤ i ∧ i < (D.safe.length : Int)) := by have := HN.out; omega
      refine ⟨by rw [HWE.out, HOff.out, if_neg (by simp), if_neg hno]; rfl, o, ⟨cw, ?_⟩, Onl.refl _ _, fun k hk => .inl hk⟩
      rw [HWr.out, HOff.out, if_neg (by simp), if_neg hno]; exact H.out
    have HIn : Hid (0 ≤ i ∧ i < (D.safe.length : Int)) := Lib.hid (by have := HN.out; omega)
    by_cases hsz : s.size = 64
    · have hb : ((s.size : Int) != 64) = false := eq_bne (b := 64) hsz
      have HSz := Lib.hid hsz
      clear hsz
      have hc1 := H.out.c1
      have hlg : g < w.heap.size := H.out.disk.lt
      have hnb : ∀ j u, (wcs [(i.toNat, s)])[j]? = some u → (w.alloc (.cells #[.int .i64 i, .string s] 159)).cell? ((⟨w.heap.size, 0, none⟩ : Addr).add j) = some u := by
        have e : wcs [(i.toNat, s)] = [.int .i64 i, .string s] := by
          show [Value.int .i64 ((i.toNat : Nat) : Int), .string s] = _
          rw [Int.toNat_of_nonneg HIn.out.1]
        rw [e]
        exact (Blk.new w 159 [.int .i64 i, .string s]).cells
      have HNB := Lib.hid hnb
      have HOx : Hid (Own (w.alloc (.cells #[.int .i64 i, .string s] 159)) 0 159 2 o D.waits.length cw (wcs D.waits)) := Lib.hid (H.out.waits.alloc _)
      clear hnb
      go_enter Try.func51, Try.ntmps51
      go_wp2_with (first | (at_builtin; refine wpList_app rfl (.tmp 33) (.tmp 37) 151 rfl 0 159 (.agg #[.int .i64 0, .string ⟨#[]⟩]) 2 24 Try.underlying151 info159 rfl (by decide) _ _ _ _ rfl HOx.out ⟨w.heap.size, 0, none⟩ 1 1 (wcs [(i.toNat, s)]) rfl rfl HNB.out (wcs_one _) (by omega) (by omega) (by omega) ?_; intro o1 c1 wA hA1 hA2 hA3; have HA1 := Lib.hid hA1; have HA2 := Lib.hid hA2; have HA3 := Lib.hid hA3; have hbA := (H.out.disk.alloc _).onl hA2 H.out.n2; have hcA := hbA.cell' (i := 1) rfl; have hfA := hbA.free 1; clear hA1 hA2 hA3 hbA))
      have HDA : Hid (RDskAt (wA.setCell ⟨g, 1, none⟩ (.slice o1 (D.waits.length + 1) c1)) g gs cs o1 c1 (D.put i.toNat s)) := Lib.hid (by
        have hA := H.out
        have hbd := (hA.disk.alloc (.cells #[.int .i64 i, .string s] 159)).onl HA2.out hA.n2
        obtain ⟨ex, he⟩ := hA.safe
        have hbs := (he.alloc (.cells #[.int .i64 i, .string s] 159)).onl HA2.out hA.n3
        have hgl := hA.disk.lt
        have hsl := he.lt
        have hn : ∀ k, k < w.heap.size → ownOf o1 k → ownOf o k := fun k hk hk2 => by
          rcases HA3.out k hk2 with h | h
          · exact h
          · rw [World.size_alloc] at h; omega
        refine ⟨?_, ?_, ?_, hA.n1, fun e => hA.n2 (hn g hgl e), fun e => hA.n3 (hn gs hsl e), ?_, hA.in2, hA.in3⟩
        · have h2 := hbd.set 1 (.slice o1 (D.waits.length + 1) c1)
          have e : (D.put i.toNat s).waits.length = D.waits.length + 1 := by simp [Rad.Dsk.put]
          unfold rdcs
          rw [e]
          exact h2
        · exact ⟨ex, hbs.set_ne (fun e => hA.n1 e.symm) _⟩
        · have h2 := HA1.out
          rw [← wcs_append] at h2
          have e : (D.put i.toNat s).waits.length = D.waits.length + 1 := by simp [Rad.Dsk.put]
          rw [e]
          exact h2.onl ((Onl.refl (one g) _).set _ _ (fun _ => rfl)) (fun k hk e => hA.n2 (hn g hgl (by rw [← show k = g from e]; exact hk)))
        · intro p hp
          rcases List.mem_append.1 hp with h | h
          · exact hA.in1 p h
          · rw [List.mem_singleton.1 h]; have := HIn.out; show i.toNat < D.safe.length; omega)
      have HOnl : Hid (Onl (dskOf g gs o) w (wA.setCell ⟨g, 1, none⟩ (.slice o1 (D.waits.length + 1) c1))) := Lib.hid
        ((((Onl.refl (dskOf g gs o) w).alloc _).trans HA2.out (fun k _ hk => .inr (.inr hk))).set _ _ (fun _ => .inl rfl))
      obtain ⟨w3, hw3⟩ : ∃ w3, w3 = wA.setCell ⟨g, 1, none⟩ (.slice o1 (D.waits.length + 1) c1) := ⟨_, rfl⟩
      rw [← hw3] at HDA HOnl ⊢
      clear hw3
      refine (falls113 g gs cs o1 c1 (D.put i.toNat s) w3 HDA.out HOff.out hf ha).mono ?_
      rintro e w4 ⟨rfl, h1, h2⟩
      have HA4 := Lib.hid h1
      have HO4 := Lib.hid (HOnl.out.trans (h2.mono (T := dskOf g gs o) (fun k hk => .inl hk)) (fun _ _ h => h))
      have HN4 : Hid (∀ k, ownOf o1 k → ownOf o k ∨ w.heap.size ≤ k) := Lib.hid (fun k hk => by
        rcases HA3.out k hk with h | h
        · exact .inl h
        · rw [World.size_alloc] at h; exact .inr (by omega))
      clear h1 h2
      have hph : (D.put i.toNat s).hit = D.hit := rfl
      rw [hph]
      clear hph
      cases hh : D.hit with
      | true =>
        have HH := Lib.hid hh
        clear hh
        go_wp2
        go_ret
        refine ⟨by rw [HWE.out, HOff.out, if_neg (by simp), if_pos HIn.out, if_pos HSz.out, HH.out]; rfl, o1, c1, ?_, HO4.out, HN4.out⟩
        rw [HWr.out, HOff.out, if_neg (by simp), if_pos HIn.out, if_pos HSz.out]; exact HA4.out
      | false =>
        have HH := Lib.hid hh
        clear hh
        go_wp2
        go_ret
        refine ⟨by rw [HWE.out, HOff.out, if_neg (by simp), if_pos HIn.out, if_pos HSz.out, HH.out]; rfl, o1, c1, ?_, HO4.out, HN4.out⟩
        rw [HWr.out, HOff.out, if_neg (by simp), if_pos HIn.out, if_pos HSz.out]; exact HA4.out
    · have hb : ((s.size : Int) != 64) = true := ne_bne (b := 64) hsz
      have HSz := Lib.hid hsz
      clear hsz
      go_enter Try.func51, Try.ntmps51
      go_wp2
      go_ret
      refine ⟨by rw [HWE.out, HOff.out, if_neg (by simp), if_pos HIn.out, if_neg HSz.out]; rfl, o, ⟨cw, ?_⟩, Onl.refl _ _, fun k hk => .inl hk⟩
      rw [HWr.out, HOff.out, if_neg (by simp), if_pos HIn.out, if_neg HSz.out]; exact H.out

theorem lay_take_succ {l : List (Nat × ByteArray)} {k : Nat} {p : Nat × ByteArray} (hp : l[k]? = some p) (s : List ByteArray) : Rad.lay (l.take (k + 1)) s = (Rad.lay (l.take k) s).set p.1 p.2 := by
  have hkl : k < l.length := (List.getElem?_eq_some_iff.1 hp).1
  rw [List.take_succ_eq_append_getElem hkl, Rad.lay_snoc]
  rw [List.getElem?_eq_getElem hkl] at hp
  rw [Option.some.inj hp]
set_option maxRecDepth 100000 in
set_option maxHeartbeats 1000000 in
theorem RSync53 (g gs cs : Nat) (o : Option Addr) (cw : Nat) (D : Dsk) (w : World) (h : RDskAt w g gs cs o cw D) (hf : D.falls < 1000000000) (ha : D.armed < 9223372036854775808) (hw : D.waits.length ≤ 100000000) :
    Calls Try.prog 53 #[.pointer (some ⟨g, 0, none⟩)] w fun e w' => e = .returned (.int .i64 D.syncE) ∧ (∃ o' cw', RDskAt w' g gs cs o' cw' D.sync ∧ (∀ k, ownOf o' k → ownOf o k)) ∧ Onl (dskOf g gs o) w w' := by
  have hc2 := h.c2
  have H := Lib.hid h
  have HSY : Hid (D.sync = if D.off then D else if D.hit then D.strike else D.strike.settle D.waits) := Lib.hid rfl
  have HSE : Hid (D.syncE = if D.off then 93 else if D.hit then 93 else 0) := Lib.hid rfl
  clear h
  cases hoff : D.off with
  | true =>
    rw [hoff] at hc2
    have HOff := Lib.hid hoff
    clear hoff
    go_enter Try.func53, Try.ntmps53
    go_wp2
    go_ret
    refine ⟨by rw [HSE.out, HOff.out]; rfl, ⟨o, cw, ?_, fun k hk => hk⟩, Onl.refl _ _⟩
    rw [HSY.out, if_pos HOff.out]; exact H.out
  | false =>
    rw [hoff] at hc2
    have HOff := Lib.hid hoff
    clear hoff
    cases hhit : D.hit with
    | true =>
      have HHit := Lib.hid hhit
      have hst := falls113 g gs cs o cw D w H.out HOff.out hf ha
      rw [hhit] at hst
      have HST := Lib.hid hst
      clear hhit hst
      go_enter Try.func53, Try.ntmps53
      go_wp2_with (go_at_call 113; refine HST.out.mono ?_; rintro e w1 ⟨rfl, h1, h2⟩; have H1 := Lib.hid h1; have H2 := Lib.hid h2; clear h1 h2)
      go_ret
      refine ⟨by rw [HSE.out, HOff.out, HHit.out]; rfl, ⟨o, cw, ?_, fun k hk => hk⟩, H2.out.mono (fun k hk => .inl hk)⟩
      rw [HSY.out, HOff.out, HHit.out]; exact H1.out
    | false =>
      have HHit := Lib.hid hhit
      have hst := falls113 g gs cs o cw D w H.out HOff.out hf ha
      rw [hhit] at hst
      have HST := Lib.hid hst
      obtain ⟨D1, hD1⟩ : ∃ D1, D1 = D.strike := ⟨_, rfl⟩
      have HD1 := Lib.hid hD1
      have HW1 : Hid (D1.waits = D.waits) := Lib.hid (by rw [hD1, Rad.Dsk.strike_waits])
      obtain ⟨n, hn⟩ : ∃ n, n = D.waits.length := ⟨_, rfl⟩
      have HWn : Hid (D1.waits.length = n) := Lib.hid (by rw [HW1.out, hn])
      obtain ⟨m, hm⟩ : ∃ m, m = D.safe.length := ⟨_, rfl⟩
      have hm4 : m ≤ 4096 := by rw [hm]; exact H.out.in2
      have HIn : Hid (∀ p ∈ D1.waits, p.1 < m) := Lib.hid (by rw [HW1.out, hm]; exact H.out.in1)
      have HMn : Hid (D1.safe.length = m) := Lib.hid (by rw [hD1, Rad.Dsk.strike_safe, hm])
      have hnn : n ≤ 100000000 := by omega
      rw [← hD1] at hst HST
      clear hhit hst hD1 hn hm hw
      go_enter Try.func53, Try.ntmps53
      go_wp2_with (go_at_call 113; refine HST.out.mono ?_; rintro e w1 ⟨rfl, h1, h2⟩; have H1 := Lib.hid h1; have H2 := Lib.hid (Onl.mono (T := dskOf g gs o) h2 (fun k hk => .inl hk)); clear h1 h2)
      go_loopw [4] (fun x wr => ∃ k : Nat, k ≤ n ∧ x = .int .i64 k ∧ Hid (RDskAt wr g gs cs o cw { D1 with safe := Rad.lay (D1.waits.take k) D1.safe }) ∧ Hid (Onl (dskOf g gs o) w wr)) (fun x _ => n - (intOf x).toNat)
      case atStart => exact ⟨0, by omega, rfl, H1, H2⟩
      case round =>
        clear H1 H2
        obtain ⟨wo, rfl⟩ : ∃ wo : World, wo = wr := ⟨_, rfl⟩
        obtain ⟨k, hk, rfl, H1, HO⟩ := hrel
        have hc1 : wo.cell? ⟨g, 1, none⟩ = some (.slice o n cw) := by rw [← HWn.out]; exact H1.out.c1
        by_cases hlt : k < n
        · have hwt : Own wo 0 159 2 o n cw (wcs D1.waits) := by rw [← HWn.out]; exact H1.out.waits
          obtain ⟨gl, ex, rfl, _, hbl, hnc, _, _⟩ := hwt.shape (by omega)
          obtain ⟨p, hp⟩ : ∃ p, D1.waits[k]? = some p := ⟨_, List.getElem?_eq_getElem (by have := HWn.out; omega)⟩
          have hpm : p.1 < m := HIn.out p (List.mem_of_getElem? hp)
          have hw2 := wcs_get hp
          have hb0 : wo.cell? ⟨gl, k * 2, none⟩ = some (.int .i64 (p.1 : Int)) := hbl.cell_pre hw2.1
          have hb1 : wo.cell? ⟨gl, k * 2 + 1, none⟩ = some (.string p.2) := hbl.cell_pre hw2.2
          have HP := Lib.hid hp
          have hlm : (Rad.lay (D1.waits.take k) D1.safe).length = m := by rw [Rad.lay_length, HMn.out]
          have hc0 : wo.cell? ⟨g, 0, none⟩ = some (.slice (some ⟨gs, 0, none⟩) m cs) := by rw [← hlm]; exact H1.out.c0
          obtain ⟨s0, hs0⟩ : ∃ s0, (Rad.lay (D1.waits.take k) D1.safe)[p.1]? = some s0 := ⟨_, List.getElem?_eq_getElem (by rw [hlm]; exact hpm)⟩
          have hcs : wo.cell? ⟨gs, p.1, none⟩ = some (.string s0) := H1.out.sc hs0
          have hfs := H1.out.sf p.1
          have i0 : (0 : Int) ≤ (p.1 : Int) := by omega
          have i1 : (p.1 : Int) < (m : Int) := by omega
          have i2 : (0 : Int) ≤ (k : Int) := by omega
          have i3 : (k : Int) < (n : Int) := by omega
          have HLM := Lib.hid hlm
          clear hp hw2 hs0 hlm hbl hwt
          go_wp2
          refine wp_region_qt 21 (by kernel_rfl) (by kernel_rfl) ?_
          simp only [List.take_succ_cons, List.take_zero, List.drop_succ_cons, List.drop_zero]
          repeat (go_big_quiet_step (fail))
          refine wpQuiet_nil ?_
          intro _ hw'
          obtain ⟨nq, rfl⟩ := hw'
          clear i0 i1 i2 i3 hb0 hb1 hc0 hc1
          go_wp2
          go_roundw
          case rel =>
            refine ⟨k + 1, by omega, by go_num, Lib.hid ?_, Lib.hid ?_⟩
            · rw [lay_take_succ HP.out]
              exact (H1.out.drw ⟨nq, rfl⟩).save p.1 p.2 (by show p.1 < (Rad.lay (D1.waits.take k) D1.safe).length; rw [HLM.out]; exact hpm)
            · exact (HO.out.drewN nq).set _ _ (fun _ => .inr (.inl rfl))
          case measure => simp [intOf]; omega
        · have hkn : k = n := by omega
          have HA : Hid (RDskAt wo g gs cs o cw { D1 with safe := Rad.lay D1.waits D1.safe }) := Lib.hid (by have h := H1.out; rwa [hkn, ← HWn.out, List.take_length] at h)
          have hf1 := HA.out.disk.free 1
          clear H1
          go_wp2
          go_ret
          refine ⟨by rw [HSE.out, HOff.out, HHit.out]; rfl, ⟨none, 0, ?_, fun k hk => by simp [ownOf] at hk⟩, HO.out.set _ _ (fun _ => .inl rfl)⟩
          rw [HSY.out, HOff.out, HHit.out, if_neg (by simp), if_neg (by simp), ← HD1.out, ← HW1.out]
          have hA := HA.out
          obtain ⟨ex, he⟩ := hA.safe
          refine ⟨?_, ⟨ex, he.set_ne (fun e => hA.n1 e.symm) _⟩, Own.nil _ _ _ _, hA.n1, by simp [ownOf], by simp [ownOf], fun p hp => (by cases hp), hA.in2, hA.in3⟩
          exact hA.disk.set 1 _
end Go.Proofs.Ytenngchidlfaeaa
/- Reading a sector of both disks, walked. -/
namespace Go.Proofs.Ytenngchidlfaeaa
open Go.RowKit
open Rad (Dsk)

theorem wait_take_succ {l : List (Nat × ByteArray)} {k : Nat} {p : Nat × ByteArray} (hp : l[k]? = some p) (i : Nat) (s : ByteArray) : Rad.wait i s (l.take (k + 1)) = if p.1 = i then p.2 else Rad.wait i s (l.take k) := by
  have hkl : k < l.length := (List.getElem?_eq_some_iff.1 hp).1
  rw [List.take_succ_eq_append_getElem hkl, Rad.wait_snoc]
  rw [List.getElem?_eq_getElem hkl] at hp
  rw [Option.some.inj hp]
set_option maxRecDepth 100000 in
set_option maxHeartbeats 1000000 in
theorem Read54 (g gs cs : Nat) (o : Option Addr) (cw : Nat) (D : Dsk) (i : Int) (w : World) (h : DskAt w g gs cs o cw D) (hi : -9223372036854775808 ≤ i ∧ i ≤ 9223372036854775807) (hw : D.waits.length ≤ 100000000) :
    Calls Try.prog 54 #[.pointer (some ⟨g, 0, none⟩), .int .i64 i] w fun e w' => e = .returned (.tuple #[.string (D.get i), .int .i64 (D.getE i)]) ∧ Onl non w w' := by
  have HCK := Lib.hid (check111 g gs cs o cw D i w h hi)
  have HG : Hid (D.get i = if D.off then ⟨#[]⟩ else if 0 ≤ i ∧ i < D.safe.length then Rad.wait i.toNat (D.safe.getD i.toNat ⟨#[]⟩) D.waits else ⟨#[]⟩) := Lib.hid rfl
  have HE : Hid (D.getE i = if D.off then 93 else if 0 ≤ i ∧ i < D.safe.length then 0 else 1) := Lib.hid rfl
  have H := Lib.hid h
  clear h
  cases hoff : D.off with
  | true =>
    have hck := HCK.out
    rw [hoff] at hck
    have HCK2 := Lib.hid hck
    have HOff := Lib.hid hoff
    clear hck hoff HCK
    go_enter Try.func54, Try.ntmps54
    go_wp2_with fail
    refine HCK2.out.mono ?_
    rintro e w' ⟨rfl, rfl⟩
    go_wp2
    go_ret2
    exact ⟨by rw [HG.out, HE.out, HOff.out]; rfl, Onl.refl _ _⟩
  | false =>
    by_cases hin : 0 ≤ i ∧ i < (D.safe.length : Int)
    rotate_left
    · have hck := HCK.out
      rw [hoff, if_neg (by simp), if_neg hin] at hck
      have HCK2 := Lib.hid hck
      have HOff := Lib.hid hoff
      have HIn := Lib.hid hin
      clear hck hoff hin HCK
      go_enter Try.func54, Try.ntmps54
      go_wp2_with fail
      refine HCK2.out.mono ?_
      rintro e w' ⟨rfl, rfl⟩
      go_wp2
      go_ret2
      exact ⟨by rw [HG.out, HE.out, HOff.out, if_neg (by simp), if_neg HIn.out, if_neg (by simp), if_neg HIn.out]; rfl, Onl.refl _ _⟩
    have hck := HCK.out
    rw [hoff, if_neg (by simp), if_pos hin] at hck
    obtain ⟨j, rfl⟩ : ∃ j : Nat, i = (j : Int) := ⟨i.toNat, by omega⟩
    have HCK2 := Lib.hid hck
    have HOff := Lib.hid hoff
    obtain ⟨m, hm⟩ : ∃ m, m = D.safe.length := ⟨_, rfl⟩
    have hjm : j < m := by omega
    have hm4 : m ≤ 4096 := by rw [hm]; exact H.out.in2
    obtain ⟨s0, hs0⟩ : ∃ s0, D.safe[j]? = some s0 := ⟨_, List.getElem?_eq_getElem (by omega)⟩
    have HRes : Hid (D.get (j : Int) = Rad.wait j s0 D.waits ∧ D.getE (j : Int) = 0) := Lib.hid (by
      rw [HG.out, HE.out, HOff.out, if_neg (by simp), if_pos hin, if_neg (by simp), if_pos hin]
      rw [Int.toNat_natCast, List.getD_eq_getElem?_getD, hs0]
      exact ⟨rfl, rfl⟩)
    obtain ⟨n, hn⟩ : ∃ n, n = D.waits.length := ⟨_, rfl⟩
    rw [← hn] at hw
    have hc0 : w.cell? ⟨g, 0, none⟩ = some (.slice (some ⟨gs, 0, none⟩) m cs) := by rw [hm]; exact H.out.c0
    have hc1 : w.cell? ⟨g, 1, none⟩ = some (.slice o n cw) := by rw [hn]; exact H.out.c1
    have hcs : w.cell? ⟨gs, j, none⟩ = some (.string s0) := H.out.safe.cell' (ss_get hs0)
    have i0 : (0 : Int) ≤ (j : Int) := by omega
    have i1 : (j : Int) < (m : Int) := by omega
    have HN := Lib.hid hn
    have HO0 : Hid (Onl non w w) := Lib.hid (Onl.refl _ _)
    clear hck hoff hin HCK hs0 hm hn HG HE
    go_enter Try.func54, Try.ntmps54
    go_wp2_with fail
    refine HCK2.out.mono ?_
    rintro e w' ⟨rfl, rfl⟩
    go_wp2
    go_loopw [7, 28] (fun x y wr => ∃ k : Nat, k ≤ n ∧ y = .int .i64 k ∧ x = .string (Rad.wait j s0 (D.waits.take k)) ∧ Hid (DskAt wr g gs cs o cw D) ∧ Hid (Onl non w wr)) (fun _ y _ => n - (intOf y).toNat)
    case atStart => exact ⟨0, by omega, rfl, rfl, H, HO0⟩
    case round =>
      clear HO0 hc0 hc1 hcs
      obtain ⟨wo, rfl⟩ : ∃ wo : World, wo = wr := ⟨_, rfl⟩
      obtain ⟨k, hk, rfl, rfl, HD, HO⟩ := hrel
      by_cases hlt : k < n
      · have hwt : Own wo 0 157 2 o n cw (wcs D.waits) := by rw [HN.out]; exact HD.out.waits
        obtain ⟨gl, ex, rfl, _, hbl, hnc, _, _⟩ := hwt.shape (by omega)
        obtain ⟨⟨p1, p2⟩, hp⟩ : ∃ p, D.waits[k]? = some p := ⟨_, List.getElem?_eq_getElem (by have := HN.out; omega)⟩
        have hw2 := wcs_get hp
        have hb0 : wo.cell? ⟨gl, k * 2, none⟩ = some (.int .i64 (p1 : Int)) := hbl.cell_pre hw2.1
        have hb1 : wo.cell? ⟨gl, k * 2 + 1, none⟩ = some (.string p2) := hbl.cell_pre hw2.2
        have hst := wait_take_succ hp j s0
        obtain ⟨wq, hq⟩ : ∃ wq, wq = wo.alloc (.cells #[.int .i64 (p1 : Int), .string p2] 157) := ⟨_, rfl⟩
        have hn0 : wq.cell? ⟨wo.heap.size, 0, none⟩ = some (.int .i64 (p1 : Int)) := by rw [hq]; exact (Blk.new wo 157 [.int .i64 (p1 : Int), .string p2]).cell' rfl
        have hn1 : wq.cell? ⟨wo.heap.size, 1, none⟩ = some (.string p2) := by rw [hq]; exact (Blk.new wo 157 [.int .i64 (p1 : Int), .string p2]).cell' rfl
        have HDq : Hid (DskAt wq g gs cs (some ⟨gl, 0, none⟩) cw D) := Lib.hid (by rw [hq]; exact HD.out.onl ((Onl.refl non wo).alloc _) (fun _ _ h => h))
        have HOq : Hid (Onl non w wq) := Lib.hid (by rw [hq]; exact HO.out.alloc _)
        rw [hq] at hn0 hn1
        clear hp hw2 hbl hwt
        by_cases he : p1 = j
        · rw [if_pos he] at hst
          have HS := Lib.hid hst
          clear hst
          subst he
          go_wp2
          rw [← hq]
          go_roundw
          case rel => exact ⟨k + 1, by omega, by go_num, by rw [HS.out], HDq, HOq⟩
          case measure => simp [intOf]; omega
        · rw [if_neg he] at hst
          have HS := Lib.hid hst
          have hee : ((p1 : Int) == (j : Int)) = false := ne_beq he
          clear hst he
          go_wp2
          rw [← hq]
          go_roundw
          case rel => exact ⟨k + 1, by omega, by go_num, by rw [HS.out], HDq, HOq⟩
          case measure => simp [intOf]; omega
      · have hkn : k = n := by omega
        have HF : Hid (D.waits.take k = D.waits) := Lib.hid (by rw [hkn, HN.out, List.take_length])
        go_wp2
        go_ret2
        exact ⟨by rw [HRes.out.1, HRes.out.2, HF.out]; rfl, HO.out⟩

set_option maxRecDepth 100000 in
set_option maxHeartbeats 1000000 in
theorem content115 (g gs cs : Nat) (o : Option Addr) (cw : Nat) (D : Dsk) (j : Nat) (s0 : ByteArray) (w : World) (h : RDskAt w g gs cs o cw D) (hs0 : D.safe[j]? = some s0) (hw : D.waits.length ≤ 100000000) :
    Calls Try.prog 115 #[.pointer (some ⟨g, 0, none⟩), .int .i64 (j : Int)] w fun e w' => e = .returned (.string (Rad.wait j s0 D.waits)) ∧ Onl non w w' := by
  have H := Lib.hid h
  obtain ⟨m, hm⟩ : ∃ m, m = D.safe.length := ⟨_, rfl⟩
  have hjm : j < m := by rw [hm]; exact (List.getElem?_eq_some_iff.1 hs0).1
  have hm4 : m ≤ 4096 := by rw [hm]; exact H.out.in2
  obtain ⟨n, hn⟩ : ∃ n, n = D.waits.length := ⟨_, rfl⟩
  rw [← hn] at hw
  have hc0 : w.cell? ⟨g, 0, none⟩ = some (.slice (some ⟨gs, 0, none⟩) m cs) := by rw [hm]; exact H.out.c0
  have hcs : w.cell? ⟨gs, j, none⟩ = some (.string s0) := H.out.sc hs0
  have i0 : (0 : Int) ≤ (j : Int) := by omega
  have i1 : (j : Int) < (m : Int) := by omega
  have HN := Lib.hid hn
  have HO0 : Hid (Onl non w w) := Lib.hid (Onl.refl _ _)
  clear hs0 hm hn h
  go_enter Try.func115, Try.ntmps115
  go_wp2
  go_loopw [5, 6] (fun x y wr => ∃ k : Nat, k ≤ n ∧ y = .int .i64 k ∧ x = .string (Rad.wait j s0 (D.waits.take k)) ∧ Hid (RDskAt wr g gs cs o cw D) ∧ Hid (Onl non w wr)) (fun _ y _ => n - (intOf y).toNat)
  case atStart => exact ⟨0, by omega, rfl, rfl, H, HO0⟩
  case round =>
    clear HO0 hc0 hcs
    obtain ⟨wo, rfl⟩ : ∃ wo : World, wo = wr := ⟨_, rfl⟩
    obtain ⟨k, hk, rfl, rfl, HD, HO⟩ := hrel
    have hc1 : wo.cell? ⟨g, 1, none⟩ = some (.slice o n cw) := by rw [HN.out]; exact HD.out.c1
    by_cases hlt : k < n
    · have hwt : Own wo 0 159 2 o n cw (wcs D.waits) := by rw [HN.out]; exact HD.out.waits
      obtain ⟨gl, ex, rfl, _, hbl, hnc, _, _⟩ := hwt.shape (by omega)
      obtain ⟨⟨p1, p2⟩, hp⟩ : ∃ p, D.waits[k]? = some p := ⟨_, List.getElem?_eq_getElem (by have := HN.out; omega)⟩
      have hw2 := wcs_get hp
      have hb0 : wo.cell? ⟨gl, k * 2, none⟩ = some (.int .i64 (p1 : Int)) := hbl.cell_pre hw2.1
      have hb1 : wo.cell? ⟨gl, k * 2 + 1, none⟩ = some (.string p2) := hbl.cell_pre hw2.2
      have hst := wait_take_succ hp j s0
      have i2 : (0 : Int) ≤ (k : Int) := by omega
      have i3 : (k : Int) < (n : Int) := by omega
      clear hp hw2 hbl hwt
      by_cases he : p1 = j
      · rw [if_pos he] at hst
        have HS := Lib.hid hst
        clear hst
        subst he
        go_wp2
        go_roundw
        case rel => exact ⟨k + 1, by omega, by go_num, by rw [HS.out], HD, HO⟩
        case measure => simp [intOf]; omega
      · rw [if_neg he] at hst
        have HS := Lib.hid hst
        have hee : ((p1 : Int) == (j : Int)) = false := ne_beq he
        clear hst he
        go_wp2
        go_roundw
        case rel => exact ⟨k + 1, by omega, by go_num, by rw [HS.out], HD, HO⟩
        case measure => simp [intOf]; omega
    · have hkn : k = n := by omega
      have HF : Hid (D.waits.take k = D.waits) := Lib.hid (by rw [hkn, HN.out, List.take_length])
      go_wp2
      go_ret
      exact ⟨by rw [HF.out]; rfl, HO.out⟩
set_option maxRecDepth 100000 in
theorem RRead55 (g gs cs : Nat) (o : Option Addr) (cw : Nat) (D : Dsk) (i : Int) (w : World) (h : RDskAt w g gs cs o cw D) (hi : -9223372036854775808 ≤ i ∧ i ≤ 9223372036854775807) (hw : D.waits.length ≤ 100000000) :
    Calls Try.prog 55 #[.pointer (some ⟨g, 0, none⟩), .int .i64 i] w fun e w' => e = .returned (.tuple #[.string (D.get i), .int .i64 (D.getE i)]) ∧ Onl non w w' := by
  have HG : Hid (D.get i = if D.off then ⟨#[]⟩ else if 0 ≤ i ∧ i < D.safe.length then Rad.wait i.toNat (D.safe.getD i.toNat ⟨#[]⟩) D.waits else ⟨#[]⟩) := Lib.hid rfl
  have HE : Hid (D.getE i = if D.off then 93 else if 0 ≤ i ∧ i < D.safe.length then 0 else 1) := Lib.hid rfl
  have H := Lib.hid h
  have hc2 := h.c2
  obtain ⟨m, hm⟩ : ∃ m, m = D.safe.length := ⟨_, rfl⟩
  have hc0 : w.cell? ⟨g, 0, none⟩ = some (.slice (some ⟨gs, 0, none⟩) m cs) := by rw [hm]; exact h.c0
  have hm4 : m ≤ 4096 := by rw [hm]; exact h.in2
  have HM := Lib.hid hm
  clear h hm
  cases hoff : D.off with
  | true =>
    rw [hoff] at hc2
    have HOff := Lib.hid hoff
    clear hoff
    go_enter Try.func55, Try.ntmps55
    go_wp2
    go_ret2
    exact ⟨by rw [HG.out, HE.out, HOff.out]; rfl, Onl.refl _ _⟩
  | false =>
    rw [hoff] at hc2
    have HOff := Lib.hid hoff
    clear hoff
    by_cases hneg : i < 0
    · go_enter Try.func55, Try.ntmps55
      go_wp2
      go_ret2
      exact ⟨by rw [HG.out, HE.out, HOff.out, if_neg (by simp), if_neg (by omega), if_neg (by simp), if_neg (by omega)]; rfl, Onl.refl _ _⟩
    by_cases hbig : (m : Int) ≤ i
    · go_enter Try.func55, Try.ntmps55
      go_wp2
      go_ret2
      have hno : ¬ (0 ≤ i ∧ i < (D.safe.length : Int)) := by have := HM.out; omega
      exact ⟨by rw [HG.out, HE.out, HOff.out, if_neg (by simp), if_neg hno, if_neg (by simp), if_neg hno]; rfl, Onl.refl _ _⟩
    obtain ⟨j, rfl⟩ : ∃ j : Nat, i = (j : Int) := ⟨i.toNat, by omega⟩
    obtain ⟨s0, hs0⟩ : ∃ s0, D.safe[j]? = some s0 := ⟨_, List.getElem?_eq_getElem (by have := HM.out; omega)⟩
    have hin : 0 ≤ (j : Int) ∧ (j : Int) < (D.safe.length : Int) := by have := HM.out; omega
    have HRes : Hid (D.get (j : Int) = Rad.wait j s0 D.waits ∧ D.getE (j : Int) = 0) := Lib.hid (by
      rw [HG.out, HE.out, HOff.out, if_neg (by simp), if_pos hin, if_neg (by simp), if_pos hin]
      rw [Int.toNat_natCast, List.getD_eq_getElem?_getD, hs0]
      exact ⟨rfl, rfl⟩)
    have HCo := Lib.hid (content115 g gs cs o cw D j s0 w H.out hs0 hw)
    clear hin hs0
    go_enter Try.func55, Try.ntmps55
    go_wp2_with fail
    refine HCo.out.mono ?_
    rintro e w1 ⟨rfl, hO⟩
    have HO := Lib.hid hO
    clear hO
    go_wp2
    go_ret2
    exact ⟨by rw [HRes.out.1, HRes.out.2]; rfl, HO.out⟩
end Go.Proofs.Ytenngchidlfaeaa
/- Starting a disk again, as a model; plain. -/
namespace Rad
open Go.Proofs.Ytenngchidlfaeaa
/-- every sector is whole -/
def Dsk.Full (D : Dsk) : Prop := (∀ p ∈ D.waits, p.2.size = 64) ∧ (∀ s ∈ D.safe, s.size = 64)
def cutN (s old : ByteArray) (n : Nat) : ByteArray := sb ((bl s).take n ++ (bl old).drop n)
theorem cutN_all {s old : ByteArray} (h : s.size = 64) (h2 : old.size = 64) : cutN s old 64 = s := by
  unfold cutN
  rw [List.take_of_length_le (by rw [bl_length]; omega), List.drop_eq_nil_of_le (by rw [bl_length]; omega), List.append_nil, sb_bl]
theorem cutN_none (s old : ByteArray) : cutN s old 0 = old := by unfold cutN; rw [List.take_zero, List.drop_zero, List.nil_append, sb_bl]
theorem cutN_size {s old : ByteArray} {n : Nat} (h : s.size = 64) (h2 : old.size = 64) (hn : n ≤ 64) : (cutN s old n).size = 64 := by
  unfold cutN
  rw [sb_size, List.length_append, List.length_take, List.length_drop, bl_length, bl_length]; omega
/-- what survives of the first k writes -/
def kept (l : List (Nat × ByteArray)) (b : List Nat) : Nat → List ((Nat × ByteArray) × Nat)
  | 0 => []
  | k + 1 => if b.getD k 0 = 0 then kept l b k else kept l b k ++ [(l.getD k (0, ⟨#[]⟩), b.getD k 0)]
/-- the last that survives -/
def lastI (b : List Nat) : Nat → Int
  | 0 => -1
  | k + 1 => if b.getD k 0 = 0 then lastI b k else (k : Int)
def ws (K : List ((Nat × ByteArray) × Nat)) : List (Nat × ByteArray) := K.map (·.1)
/-- the survivors laid, the last one torn -/
def layK (K : List ((Nat × ByteArray) × Nat)) (safe : List ByteArray) : List ByteArray :=
  match K.getLast? with
  | none => safe
  | some x => (lay (ws K.dropLast) safe).set x.1.1 (cutN x.1.2 ((lay (ws K.dropLast) safe).getD x.1.1 ⟨#[]⟩) (min x.2 64))
def Dsk.restart (D : Dsk) (b : List Nat) : Dsk := ⟨layK (kept D.waits b (min D.waits.length b.length)) D.safe, [], false, 0, if D.off then D.falls else D.falls + 1⟩
/-- the reference's way -/
def rn (last : Int) (i n : Nat) : Nat := if (0 < n ∧ (i : Int) < last) ∨ 64 < n then 64 else n
def RS (l : List (Nat × ByteArray)) (b : List Nat) (last : Int) (safe : List ByteArray) : Nat → List ByteArray
  | 0 => safe
  | k + 1 => (RS l b last safe k).set (l.getD k (0, ⟨#[]⟩)).1 (cutN (l.getD k (0, ⟨#[]⟩)).2 ((RS l b last safe k).getD (l.getD k (0, ⟨#[]⟩)).1 ⟨#[]⟩) (rn last k (b.getD k 0)))
theorem RS_length (l : List (Nat × ByteArray)) (b : List Nat) (last : Int) (safe : List ByteArray) : ∀ k, (RS l b last safe k).length = safe.length
  | 0 => rfl
  | k + 1 => by rw [RS, List.length_set, RS_length l b last safe k]
theorem lay_full {l : List (Nat × ByteArray)} : ∀ {safe : List ByteArray}, (∀ p ∈ l, p.2.size = 64) → (∀ s ∈ safe, s.size = 64) → ∀ s ∈ lay l safe, s.size = 64 := by
  induction l with
  | nil => intro safe _ h; exact h
  | cons p l ih =>
    intro safe hl h
    refine ih (fun q hq => hl q (List.mem_cons_of_mem _ hq)) (fun s hs => ?_)
    rcases List.mem_or_eq_of_mem_set hs with h1 | h1
    · exact h s h1
    · rw [h1]; exact hl p (by simp)
theorem getD_mem {α : Type} {l : List α} {k : Nat} {d : α} (h : k < l.length) : l.getD k d ∈ l := by
  rw [List.getD_eq_getElem?_getD, List.getElem?_eq_getElem h]; exact List.getElem_mem h
theorem kept_mem {l : List (Nat × ByteArray)} {b : List Nat} : ∀ {k : Nat}, k ≤ l.length → ∀ x ∈ kept l b k, x.1 ∈ l
  | 0, _, x, hx => by cases hx
  | k + 1, hk, x, hx => by
    rw [kept] at hx
    split at hx
    · exact kept_mem (by omega) x hx
    · rcases List.mem_append.1 hx with h | h
      · exact kept_mem (by omega) x h
      · rw [List.mem_singleton.1 h]; exact getD_mem (by omega)
theorem kept_length_le (l : List (Nat × ByteArray)) (b : List Nat) : ∀ k, (kept l b k).length ≤ k
  | 0 => Nat.le_refl _
  | k + 1 => by
    have := kept_length_le l b k
    rw [kept]; split
    · omega
    · rw [List.length_append]; simp; omega
theorem lastI_lt (b : List Nat) : ∀ k, -1 ≤ lastI b k ∧ lastI b k < (k : Int)
  | 0 => by simp [lastI]
  | k + 1 => by
    have := lastI_lt b k
    rw [lastI]; split <;> omega
/-- the survivors up to the last one -/
theorem kept_last (l : List (Nat × ByteArray)) (b : List Nat) : ∀ m, (lastI b m = -1 → kept l b m = []) ∧ (∀ j : Nat, lastI b m = (j : Int) → kept l b m = kept l b j ++ [(l.getD j (0, ⟨#[]⟩), b.getD j 0)] ∧ b.getD j 0 ≠ 0)
  | 0 => ⟨fun _ => rfl, fun j h => by simp [lastI] at h⟩
  | k + 1 => by
    have ih := kept_last l b k
    rw [lastI, kept]
    by_cases h0 : b.getD k 0 = 0
    · rw [if_pos h0, if_pos h0]; exact ih
    · rw [if_neg h0, if_neg h0]
      refine ⟨fun h => by omega, fun j h => ?_⟩
      obtain rfl : k = j := by omega
      exact ⟨rfl, h0⟩
theorem RS_lay {l : List (Nat × ByteArray)} {b : List Nat} {last : Int} {safe : List ByteArray} (hl : ∀ p ∈ l, p.1 < safe.length) (h1 : ∀ p ∈ l, p.2.size = 64) (h2 : ∀ s ∈ safe, s.size = 64) (hll : last < l.length) : ∀ k : Nat, (k : Int) ≤ last → RS l b last safe k = lay (ws (kept l b k)) safe
  | 0, _ => rfl
  | k + 1, hk => by
    have ih := RS_lay hl h1 h2 hll (b := b) k (by omega)
    have hkl : k < l.length := by omega
    have hp : l.getD k (0, ⟨#[]⟩) ∈ l := getD_mem hkl
    have hin : (l.getD k (0, ⟨#[]⟩)).1 < (lay (ws (kept l b k)) safe).length := by rw [lay_length]; exact hl _ hp
    have hf : ((lay (ws (kept l b k)) safe).getD (l.getD k (0, ⟨#[]⟩)).1 ⟨#[]⟩).size = 64 := by
      refine lay_full (fun p hp => ?_) h2 _ (getD_mem hin)
      obtain ⟨x, hx, rfl⟩ := List.mem_map.1 hp
      exact h1 _ (kept_mem (by omega) x hx)
    rw [RS, ih, kept]
    by_cases h0 : b.getD k 0 = 0
    · rw [if_pos h0, h0]
      have e : rn last k 0 = 0 := by unfold rn; rw [if_neg (by omega)]
      rw [e, cutN_none]
      apply List.ext_getElem?
      intro i
      rw [List.getElem?_set]
      split
      · rename_i hi
        subst hi
        rw [List.getD_eq_getElem?_getD, List.getElem?_eq_getElem hin]; rfl
      · rfl
    · rw [if_neg h0]
      have e : rn last k (b.getD k 0) = 64 := by unfold rn; rw [if_pos (Or.inl ⟨by omega, by omega⟩)]
      rw [e, cutN_all (h1 _ hp) hf]
      unfold ws
      rw [List.map_append, List.map_singleton, lay_snoc]
theorem RS_restart {l : List (Nat × ByteArray)} {b : List Nat} {safe : List ByteArray} (hl : ∀ p ∈ l, p.1 < safe.length) (h1 : ∀ p ∈ l, p.2.size = 64) (h2 : ∀ s ∈ safe, s.size = 64) {m : Nat} (hm : m ≤ l.length) :
    RS l b (lastI b m) safe (lastI b m + 1).toNat = layK (kept l b m) safe := by
  have hb := lastI_lt b m
  have hk := kept_last l b m
  by_cases hn : lastI b m = -1
  · rw [hn, hk.1 hn]; rfl
  · obtain ⟨j, hj⟩ : ∃ j : Nat, lastI b m = (j : Int) := ⟨(lastI b m).toNat, by omega⟩
    obtain ⟨e1, e2⟩ := hk.2 j hj
    rw [e1, hj]
    have e3 : ((j : Int) + 1).toNat = j + 1 := by omega
    rw [e3, RS, RS_lay hl h1 h2 (by omega) j (by omega)]
    unfold layK
    rw [List.getLast?_concat, List.dropLast_concat]
    have e4 : rn (j : Int) j (b.getD j 0) = min (b.getD j 0) 64 := by unfold rn; split <;> omega
    simp only [e4]
theorem Dsk.restart_full {D : Dsk} (h : D.Full) (hin : ∀ p ∈ D.waits, p.1 < D.safe.length) (b : List Nat) : (D.restart b).Full := by
  refine ⟨fun p hp => (by cases hp), fun s hs => ?_⟩
  have hK : ∀ x ∈ kept D.waits b (min D.waits.length b.length), x.1 ∈ D.waits := fun x hx => kept_mem (by omega) x hx
  unfold Dsk.restart layK at hs
  simp only at hs
  split at hs
  · exact h.2 s hs
  · rename_i x hx
    have hxm := List.mem_of_getLast? hx
    have hL : ∀ t ∈ lay (ws (kept D.waits b (min D.waits.length b.length)).dropLast) D.safe, t.size = 64 := lay_full (fun p hp => by
      obtain ⟨y, hy, rfl⟩ := List.mem_map.1 hp
      exact h.1 _ (hK y (List.dropLast_subset _ hy))) h.2
    rcases List.mem_or_eq_of_mem_set hs with h1 | h1
    · exact hL s h1
    · rw [h1]
      refine cutN_size (h.1 _ (hK x hxm)) (hL _ (getD_mem ?_)) (by omega)
      rw [lay_length]; exact hin _ (hK x hxm)
end Rad
/- The reference's NewDisk, walked. -/
namespace Go.Proofs.Ytenngchidlfaeaa
open Go.RowKit
open Rad (Dsk)

set_option maxRecDepth 100000 in
theorem zeros110 (w : World) : Calls Try.prog 110 #[.int .i64 64] w fun e w' => e = .returned (.string (zer 64)) ∧ Onl non w w' := by
  obtain ⟨w1, hw1⟩ : ∃ w1, w1 = w.alloc (.cells (bs (List.replicate 64 0)).toArray 5) := ⟨_, rfl⟩
  have hB : Blk w1 w.heap.size 5 (bs (List.replicate 64 0)) := by rw [hw1]; exact Blk.new w 5 _
  have hconv := conv_back w1 w.heap.size 0 64 (List.replicate 64 0) (fun b hb => by rw [List.eq_of_mem_replicate hb]; omega) (fun j hj => by rw [Nat.zero_add]; exact hB.cell' (bs_get (get_getD hj)))
  rw [List.length_replicate] at hconv
  have HO : Hid (Onl non w w1) := Lib.hid (by rw [hw1]; exact (Onl.refl non w).alloc _)
  have hw1' : (bs (List.replicate 64 0)).toArray = madeCells #[.int .u8 0] 64 := by rw [made_replicate]; simp [bs]
  have hmk := run_make_row' (P := Try.prog) 57 5 (.int .u8 0) 1 Try.underlying57 info5 rfl .i64 .i64 64 (by omega) (by omega) w
  have e64 : ((64 : Nat) : Int) = 64 := rfl
  rw [e64, ← hw1', ← hw1] at hmk
  clear hB hw1' hw1 e64
  go_enter Try.func110, Try.ntmps110
  go_wp2
  go_ret
  exact ⟨rfl, HO.out⟩
set_option maxRecDepth 100000 in
theorem RNewDisk48_no (n : Int) (w : World) (h : n < 1 ∨ 4096 < n) : Calls Try.prog 48 #[.int .i64 n] w fun e w' => e = .returned (.tuple #[.pointer none, .int .i64 1]) ∧ w = w' := by
  rcases h with h | h
  · go_enter Try.func48, Try.ntmps48
    go_wp2
    go_ret2
    exact ⟨rfl, rfl⟩
  · have h1 : ¬ n < 1 := by omega
    go_enter Try.func48, Try.ntmps48
    go_wp2
    go_ret2
    exact ⟨rfl, rfl⟩
theorem ss_one1 (s : ByteArray) : ∀ u ∈ ss [s], u.oneCell' = true := by
  intro u hu
  simp [ss] at hu
  subst hu; rfl
set_option maxRecDepth 100000 in
set_option maxHeartbeats 1000000 in
theorem RNewDisk48_ok (n : Nat) (w : World) (h1 : 1 ≤ n) (h2 : n ≤ 4096) : Calls Try.prog 48 #[.int .i64 (n : Int)] w fun e w' => ∃ g gs cs, e = .returned (.tuple #[.pointer (some ⟨g, 0, none⟩), .int .i64 0]) ∧ RDskAt w' g gs cs none 0 (newD n) ∧ Onl non w w' ∧ w.heap.size ≤ g ∧ w.heap.size ≤ gs := by
  obtain ⟨w2, hw2⟩ : ∃ w2, w2 = w.alloc (.cells #[.slice none 0 0, .slice none 0 0, .bool true, .int .i64 0, .int .i64 0] 153) := ⟨_, rfl⟩
  have HD2 : Hid (Blk w2 w.heap.size 153 [.slice none 0 0, .slice none 0 0, .bool true, .int .i64 0, .int .i64 0]) := Lib.hid (by rw [hw2]; exact Blk.new w 153 _)
  have HO2 : Hid (Onl non w w2) := Lib.hid (by rw [hw2]; exact (Onl.refl _ _).alloc _)
  obtain ⟨Z, hZ⟩ : ∃ Z, Z = zer 64 := ⟨_, rfl⟩
  have HZe : Hid (newD n = ⟨List.replicate n Z, [], false, 0, 0⟩) := Lib.hid (by rw [hZ]; rfl)
  have HZ : Hid (∀ wx, Calls Try.prog 110 #[.int .i64 64] wx fun e w' => e = .returned (.string Z) ∧ Onl non wx w') := Lib.hid (by intro wx; rw [hZ]; exact zeros110 wx)
  clear hZ
  obtain ⟨gd, hgd⟩ : ∃ gd, gd = w.heap.size := ⟨_, rfl⟩
  rw [← hgd] at HD2
  have HGd := Lib.hid hgd
  clear hgd
  go_enter Try.func48, Try.ntmps48
  go_wp2
  rw [← hw2, ← HGd.out]
  clear hw2
  go_loopw [5] (fun x wr => ∃ (k : Nat) (so : Option Addr) (c : Nat), k ≤ n ∧ x = .int .i64 k ∧ Hid (Blk wr gd 153 [.slice so k c, .slice none 0 0, .bool true, .int .i64 0, .int .i64 0]) ∧ Hid (Own wr w.heap.size 9 1 so k c (ss (List.replicate k Z))) ∧ Hid (Onl non w wr) ∧ Hid (¬ ownOf so gd)) (fun x _ => n - (intOf x).toNat)
  case atStart => exact ⟨0, none, 0, by omega, rfl, HD2, Lib.hid (Own.nil _ _ _ _), HO2, Lib.hid (by simp [ownOf])⟩
  case round =>
    clear HD2 HO2
    obtain ⟨wo, rfl⟩ : ∃ wo : World, wo = wr := ⟨_, rfl⟩
    obtain ⟨k, so, c, hk, rfl, HD, HW, HO, HNg⟩ := hrel
    by_cases hlt : k < n
    · go_wp2
      have hc0 : (wo.drewN 1).cell? ⟨gd, 0, none⟩ = some (.slice so k c) := HD.out.cell' rfl
      have hc00 : wo.drew.cell? ⟨gd, 0, none⟩ = some (.slice so k c) := HD.out.cell' rfl
      have hc000 : wo.cell? ⟨gd, 0, none⟩ = some (.slice so k c) := HD.out.cell' rfl
      have HX : Hid (∀ wx, Onl non wo wx → wx.cell? ⟨gd, 0, none⟩ = some (.slice so k c)) := Lib.hid (fun wx hx => (HD.out.onl hx (fun h => h)).cell' rfl)
      have Hfin : Hid (∀ (o1 : Option Addr) (c1 : Nat) (wA wz : World), Onl non wo wz → Own wA w.heap.size 9 1 o1 (k + 1) c1 (ss (List.replicate k Z) ++ ss [Z]) → Onl (ownOf so) (wz.alloc (.cells #[.string Z] 9)) wA → (∀ j, ownOf o1 j → ownOf so j ∨ (wz.alloc (.cells #[.string Z] 9)).heap.size ≤ j) →
          ∃ (k1 : Nat) (so1 : Option Addr) (c1' : Nat), k1 ≤ n ∧ Value.int .i64 ((k : Int) + 1) = .int .i64 k1 ∧ Hid (Blk (wA.setCell ⟨gd, 0, none⟩ (.slice o1 (k + 1) c1)) gd 153 [.slice so1 k1 c1', .slice none 0 0, .bool true, .int .i64 0, .int .i64 0]) ∧ Hid (Own (wA.setCell ⟨gd, 0, none⟩ (.slice o1 (k + 1) c1)) w.heap.size 9 1 so1 k1 c1' (ss (List.replicate k1 Z))) ∧ Hid (Onl non w (wA.setCell ⟨gd, 0, none⟩ (.slice o1 (k + 1) c1))) ∧ Hid (¬ ownOf so1 gd)) := Lib.hid (by
        intro o1 c1 wA wz hz h1 h2 h3
        have hgl := HD.out.lt
        have hzs := hz.size
        have hn : ¬ ownOf o1 gd := fun hg => by
          rcases h3 gd hg with h | h
          · exact HNg.out h
          · rw [World.size_alloc] at h; omega
        have hb := (HD.out.onl (hz.alloc (.cells #[.string Z] 9)) (fun h => h)).onl h2 HNg.out
        refine ⟨k + 1, o1, c1, by omega, by go_num, Lib.hid (hb.set 0 _), Lib.hid ?_, Lib.hid ?_, Lib.hid hn⟩
        · have e : ss (List.replicate (k + 1) Z) = ss (List.replicate k Z) ++ ss [Z] := by rw [List.replicate_succ']; simp [ss]
          rw [e]
          exact h1.onl ((Onl.refl (one gd) _).set _ _ (fun _ => rfl)) (fun j hj e => hn (by rw [← show j = gd from e]; exact hj))
        · have hw := (HO.out.trans (hz.alloc (.cells #[.string Z] 9)) (fun _ _ h => h)).trans h2 (fun j hj hs => by
            have := (HW.out.lt j hs).1; omega)
          exact hw.set _ _ (fun h => absurd h (by have := HGd.out; show ¬ gd < w.heap.size; omega)))
      refine wp_region_noPanic ?_
      refine wp_region_held_drew (S := fun _ => True) (by kernel_rfl) trivial (fun _ => ?_)
      refine wpAnyH_take (i := 0) (oi := _) (v := .pointer (some ⟨gd, 0, none⟩)) rfl (by kernel_rfl) (by kernel_rfl) (by kernel_rfl) (fun _ _ _ h => h) (Or.inl ⟨by rfl, ?_⟩) trivial ?_
      · intro w hSw; go_simp
      try simp only [Act.put, List.setIfInBounds_toArray]
      refine wpAnyH_take (i := 1) (oi := _) (v := .pointer (some ⟨gd, 0, none⟩)) rfl (by kernel_rfl) (by kernel_rfl) (by kernel_rfl) (fun _ _ _ h => h) (Or.inl ⟨by rfl, ?_⟩) trivial ?_
      · intro w hSw; go_simp
      try simp only [Act.put]
      refine wpAnyH_take (i := 2) (oi := _) (v := .pointer (some ⟨gd, 0, none⟩)) rfl (by kernel_rfl) (by kernel_rfl) (by kernel_rfl) (fun _ _ _ h => h) (Or.inl ⟨by rfl, ?_⟩) trivial ?_
      · intro w hSw; go_simp
      try simp only [Act.put]
      refine wpAnyH_take (i := 3) (oi := _) (v := .pointer (some ⟨gd, 0, none⟩)) rfl (by kernel_rfl) (by kernel_rfl) (by kernel_rfl) (fun _ _ _ h => h) (Or.inl ⟨by rfl, ?_⟩) trivial ?_
      · intro w hSw; go_simp
      try simp only [Act.put]
      refine wpAnyH_ready (rs := [4, 5]) (by kernel_rfl) (by simp) ?_
      refine AllReadyH.cons (o := _) rfl (fun K hK => ?_) ?_
      · go_simp
        refine hK.out _ _ trivial (fun _ => ?_)
        clear hK K
        try simp only [Act.put, List.setIfInBounds_toArray, List.set_cons_zero, List.set_cons_succ]
        refine wpAnyH_ready (rs := [5]) (by kernel_rfl) (by simp) ?_
        refine AllReadyH.cons (o := _) rfl (fun K hK => ?_) ?_
        · go_simp
          refine (HZ.out _).mono ?_
          rintro e wz ⟨rfl, hz⟩
          have HOz : Hid (Onl non wo wz) := Lib.hid (((Onl.refl non wo).drewN 1).trans hz (fun _ _ h => h))
          have hcz := HX.out _ HOz.out
          have hcy := HX.out _ (HOz.out.alloc (.cells #[.string Z] 9))
          clear hz
          go_wp2_with fail
          refine hK.out _ _ trivial (fun _ => ?_)
          clear hK K
          try simp only [Act.put, List.setIfInBounds_toArray, List.set_cons_zero, List.set_cons_succ]
          refine wpAnyH_ready (rs := [6]) (by kernel_rfl) (by simp) ?_
          refine AllReadyH.cons (o := _) rfl (fun K hK => ?_) ?_
          · go_simp
            refine hK.out _ _ trivial (fun _ => ?_)
            clear hK K
            try simp only [Act.put, List.setIfInBounds_toArray, List.set_cons_zero, List.set_cons_succ]
            refine wpAnyH_ready (rs := [7]) (by kernel_rfl) (by simp) ?_
            refine AllReadyH.cons (o := _) rfl (fun K hK => ?_) ?_
            · refine step_app (by rfl) (.tmp 23) (.tmp 25) 58 (by rfl) w.heap.size 9 (.string ⟨#[]⟩) 1 16 Try.underlying58 info9 rfl (by decide) so k c (ss (List.replicate k Z)) (by rfl) (HW.out.onl (HOz.out.alloc _) (fun _ _ h => h)) ⟨wz.heap.size, 0, none⟩ 1 1 (ss [Z]) (by rfl) (by rfl) ((Blk.new wz 9 (ss [Z])).cells) (ss_one1 Z) (by omega) (by omega) (by have := HOz.out.size; have := HO.out.size; simp; omega) ?_
              intro o1 c1 wA hA1 hA2 hA3
              have HA1 := Lib.hid hA1
              have HA2 := Lib.hid hA2
              have HA3 := Lib.hid hA3
              have hbA := (HD.out.onl (HOz.out.alloc (.cells #[.string Z] 9)) (fun h => h)).onl hA2 HNg.out
              have hcA := hbA.cell' (i := 0) rfl
              have hfA := hbA.free 0
              have HbA := Lib.hid hbA
              clear hA1 hA2 hA3 hbA
              refine hK.out _ _ trivial (fun _ => ?_)
              clear hK K
              try simp only [Act.put, List.setIfInBounds_toArray]
              refine wpAnyH_take (i := 8) (oi := _) (v := .pointer (some ⟨gd, 0, none⟩)) rfl (by kernel_rfl) (by kernel_rfl) (by kernel_rfl) (fun _ _ _ h => h) (Or.inl ⟨by rfl, ?_⟩) trivial ?_
              · intro w hSw; go_simp
              try simp only [Act.put]
              refine wpAnyH_take (i := 9) (oi := _) (v := .pointer (some ⟨gd, 0, none⟩)) rfl (by kernel_rfl) (by kernel_rfl) (by kernel_rfl) (fun _ _ _ h => h) (Or.inl ⟨by rfl, ?_⟩) trivial ?_
              · intro w hSw; go_simp
              try simp only [Act.put]
              refine wpAnyH_ready (rs := [10]) (by kernel_rfl) (by simp) ?_
              refine AllReadyH.cons (o := _) rfl (fun K hK => ?_) ?_
              · go_simp
                refine hK.out _ _ trivial (fun _ => ?_)
                clear hK K
                try simp only [Act.put, List.setIfInBounds_toArray, List.set_cons_zero, List.set_cons_succ]
                refine wpAnyH_done (by kernel_rfl) ?_ _
                refine NoPanic.normal ?_
                go_wp2
                go_roundw
                case rel => exact Hfin.out o1 c1 wA wz HOz.out HA1.out HA2.out HA3.out
                case measure => simp [intOf]; omega
              · exact AllReadyH.nil
            · exact AllReadyH.nil
          exact AllReadyH.nil
        exact AllReadyH.nil
      refine AllReadyH.cons (o := _) rfl (fun K hK => ?_) ?_
      · go_simp
        refine (HZ.out _).mono ?_
        rintro e wz ⟨rfl, hz⟩
        have HOz : Hid (Onl non wo wz) := Lib.hid (((Onl.refl non wo).drewN 1).trans hz (fun _ _ h => h))
        have hcz := HX.out _ HOz.out
        have hcy := HX.out _ (HOz.out.alloc (.cells #[.string Z] 9))
        clear hz
        go_wp2_with fail
        refine hK.out _ _ trivial (fun _ => ?_)
        clear hK K
        try simp only [Act.put, List.setIfInBounds_toArray, List.set_cons_zero, List.set_cons_succ]
        refine wpAnyH_ready (rs := [4, 6]) (by kernel_rfl) (by simp) ?_
        refine AllReadyH.cons (o := _) rfl (fun K hK => ?_) ?_
        · go_simp
          refine hK.out _ _ trivial (fun _ => ?_)
          clear hK K
          try simp only [Act.put, List.setIfInBounds_toArray, List.set_cons_zero, List.set_cons_succ]
          refine wpAnyH_ready (rs := [6]) (by kernel_rfl) (by simp) ?_
          refine AllReadyH.cons (o := _) rfl (fun K hK => ?_) ?_
          · go_simp
            refine hK.out _ _ trivial (fun _ => ?_)
            clear hK K
            try simp only [Act.put, List.setIfInBounds_toArray, List.set_cons_zero, List.set_cons_succ]
            refine wpAnyH_ready (rs := [7]) (by kernel_rfl) (by simp) ?_
            refine AllReadyH.cons (o := _) rfl (fun K hK => ?_) ?_
            · refine step_app (by rfl) (.tmp 23) (.tmp 25) 58 (by rfl) w.heap.size 9 (.string ⟨#[]⟩) 1 16 Try.underlying58 info9 rfl (by decide) so k c (ss (List.replicate k Z)) (by rfl) (HW.out.onl (HOz.out.alloc _) (fun _ _ h => h)) ⟨wz.heap.size, 0, none⟩ 1 1 (ss [Z]) (by rfl) (by rfl) ((Blk.new wz 9 (ss [Z])).cells) (ss_one1 Z) (by omega) (by omega) (by have := HOz.out.size; have := HO.out.size; simp; omega) ?_
              intro o1 c1 wA hA1 hA2 hA3
              have HA1 := Lib.hid hA1
              have HA2 := Lib.hid hA2
              have HA3 := Lib.hid hA3
              have hbA := (HD.out.onl (HOz.out.alloc (.cells #[.string Z] 9)) (fun h => h)).onl hA2 HNg.out
              have hcA := hbA.cell' (i := 0) rfl
              have hfA := hbA.free 0
              have HbA := Lib.hid hbA
              clear hA1 hA2 hA3 hbA
              refine hK.out _ _ trivial (fun _ => ?_)
              clear hK K
              try simp only [Act.put, List.setIfInBounds_toArray]
              refine wpAnyH_take (i := 8) (oi := _) (v := .pointer (some ⟨gd, 0, none⟩)) rfl (by kernel_rfl) (by kernel_rfl) (by kernel_rfl) (fun _ _ _ h => h) (Or.inl ⟨by rfl, ?_⟩) trivial ?_
              · intro w hSw; go_simp
              try simp only [Act.put]
              refine wpAnyH_take (i := 9) (oi := _) (v := .pointer (some ⟨gd, 0, none⟩)) rfl (by kernel_rfl) (by kernel_rfl) (by kernel_rfl) (fun _ _ _ h => h) (Or.inl ⟨by rfl, ?_⟩) trivial ?_
              · intro w hSw; go_simp
              try simp only [Act.put]
              refine wpAnyH_ready (rs := [10]) (by kernel_rfl) (by simp) ?_
              refine AllReadyH.cons (o := _) rfl (fun K hK => ?_) ?_
              · go_simp
                refine hK.out _ _ trivial (fun _ => ?_)
                clear hK K
                try simp only [Act.put, List.setIfInBounds_toArray, List.set_cons_zero, List.set_cons_succ]
                refine wpAnyH_done (by kernel_rfl) ?_ _
                refine NoPanic.normal ?_
                go_wp2
                go_roundw
                case rel => exact Hfin.out o1 c1 wA wz HOz.out HA1.out HA2.out HA3.out
                case measure => simp [intOf]; omega
              · exact AllReadyH.nil
            · exact AllReadyH.nil
          exact AllReadyH.nil
        refine AllReadyH.cons (o := _) rfl (fun K hK => ?_) ?_
        · go_simp
          refine hK.out _ _ trivial (fun _ => ?_)
          clear hK K
          try simp only [Act.put, List.setIfInBounds_toArray, List.set_cons_zero, List.set_cons_succ]
          refine wpAnyH_ready (rs := [4]) (by kernel_rfl) (by simp) ?_
          refine AllReadyH.cons (o := _) rfl (fun K hK => ?_) ?_
          · go_simp
            refine hK.out _ _ trivial (fun _ => ?_)
            clear hK K
            try simp only [Act.put, List.setIfInBounds_toArray, List.set_cons_zero, List.set_cons_succ]
            refine wpAnyH_ready (rs := [7]) (by kernel_rfl) (by simp) ?_
            refine AllReadyH.cons (o := _) rfl (fun K hK => ?_) ?_
            · refine step_app (by rfl) (.tmp 23) (.tmp 25) 58 (by rfl) w.heap.size 9 (.string ⟨#[]⟩) 1 16 Try.underlying58 info9 rfl (by decide) so k c (ss (List.replicate k Z)) (by rfl) (HW.out.onl (HOz.out.alloc _) (fun _ _ h => h)) ⟨wz.heap.size, 0, none⟩ 1 1 (ss [Z]) (by rfl) (by rfl) ((Blk.new wz 9 (ss [Z])).cells) (ss_one1 Z) (by omega) (by omega) (by have := HOz.out.size; have := HO.out.size; simp; omega) ?_
              intro o1 c1 wA hA1 hA2 hA3
              have HA1 := Lib.hid hA1
              have HA2 := Lib.hid hA2
              have HA3 := Lib.hid hA3
              have hbA := (HD.out.onl (HOz.out.alloc (.cells #[.string Z] 9)) (fun h => h)).onl hA2 HNg.out
              have hcA := hbA.cell' (i := 0) rfl
              have hfA := hbA.free 0
              have HbA := Lib.hid hbA
              clear hA1 hA2 hA3 hbA
              refine hK.out _ _ trivial (fun _ => ?_)
              clear hK K
              try simp only [Act.put, List.setIfInBounds_toArray]
              refine wpAnyH_take (i := 8) (oi := _) (v := .pointer (some ⟨gd, 0, none⟩)) rfl (by kernel_rfl) (by kernel_rfl) (by kernel_rfl) (fun _ _ _ h => h) (Or.inl ⟨by rfl, ?_⟩) trivial ?_
              · intro w hSw; go_simp
              try simp only [Act.put]
              refine wpAnyH_take (i := 9) (oi := _) (v := .pointer (some ⟨gd, 0, none⟩)) rfl (by kernel_rfl) (by kernel_rfl) (by kernel_rfl) (fun _ _ _ h => h) (Or.inl ⟨by rfl, ?_⟩) trivial ?_
              · intro w hSw; go_simp
              try simp only [Act.put]
              refine wpAnyH_ready (rs := [10]) (by kernel_rfl) (by simp) ?_
              refine AllReadyH.cons (o := _) rfl (fun K hK => ?_) ?_
              · go_simp
                refine hK.out _ _ trivial (fun _ => ?_)
                clear hK K
                try simp only [Act.put, List.setIfInBounds_toArray, List.set_cons_zero, List.set_cons_succ]
                refine wpAnyH_done (by kernel_rfl) ?_ _
                refine NoPanic.normal ?_
                go_wp2
                go_roundw
                case rel => exact Hfin.out o1 c1 wA wz HOz.out HA1.out HA2.out HA3.out
                case measure => simp [intOf]; omega
              · exact AllReadyH.nil
            · exact AllReadyH.nil
          exact AllReadyH.nil
        exact AllReadyH.nil
      exact AllReadyH.nil
    · have hkn : k = n := by omega
      go_wp2
      go_ret2
      obtain ⟨gl, ex, rfl, hBl, hbl, hnc, _, _⟩ := HW.out.shape (by omega)
      refine ⟨gd, gl, c, rfl, ?_, HO.out, by have := HGd.out; omega, hBl⟩
      rw [HZe.out]
      subst hkn
      refine ⟨?_, ⟨ex, hbl⟩, Own.nil _ _ _ _, fun e => HNg.out (by rw [e]; rfl), by simp [ownOf], by simp [ownOf], by simp, by simp; omega, by simp; omega⟩
      have h := HD.out
      simpa [rdcs] using h
end Go.Proofs.Ytenngchidlfaeaa
/- The law's sector, walked. -/
namespace Go.Proofs.Ytenngchidlfaeaa
open Go.RowKit

/-- a sector's bytes -/
def sec (s : ByteArray) : ByteArray := if 0 < s.size ∧ s.size < 64 then s ++ zer (64 - s.size) else s
set_option maxRecDepth 100000 in
theorem sector50 (s : ByteArray) (w : World) (hs : s.size ≤ 9223372036854775807) : Calls Try.prog 50 #[.string s] w fun e w' => e = .returned (.string (sec s)) ∧ Onl non w w' := by
  by_cases h0 : s.size = 0
  · have HS : Hid (sec s = s) := Lib.hid (by unfold sec; rw [if_neg (by omega)])
    have h1 : ¬ (0 : Int) < (s.size : Int) := by omega
    clear h0
    go_enter Try.func50, Try.ntmps50
    go_wp2
    go_ret
    exact ⟨by rw [HS.out]; rfl, Onl.refl _ _⟩
  by_cases h6 : s.size < 64
  · have HS : Hid (sec s = s ++ zer (64 - s.size)) := Lib.hid (by unfold sec; rw [if_pos ⟨by omega, h6⟩])
    obtain ⟨n, hn⟩ : ∃ n, n = 64 - s.size := ⟨_, rfl⟩
    rw [← hn] at HS
    obtain ⟨w1, hw1⟩ : ∃ w1, w1 = w.alloc (.cells (bs (List.replicate n 0)).toArray 5) := ⟨_, rfl⟩
    have hB : Blk w1 w.heap.size 5 (bs (List.replicate n 0)) := by rw [hw1]; exact Blk.new w 5 _
    have hconv := conv_back w1 w.heap.size 0 n (List.replicate n 0) (fun b hb => by rw [List.eq_of_mem_replicate hb]; omega) (fun j hj => by rw [Nat.zero_add]; exact hB.cell' (bs_get (get_getD hj)))
    rw [List.length_replicate] at hconv
    have HO : Hid (Onl non w w1) := Lib.hid (by rw [hw1]; exact (Onl.refl non w).alloc _)
    have hw1' : (bs (List.replicate n 0)).toArray = madeCells #[.int .u8 0] n := by rw [made_replicate]; simp [bs]
    have hmk := run_make_row' (P := Try.prog) 57 5 (.int .u8 0) 1 Try.underlying57 info5 rfl .i64 .i64 n (by omega) (by omega) w
    have e64 : IntKind.i64.wrap (64 - (s.size : Int)) = (n : Int) := by rw [IntWalk.i64_in _ (by omega)]; omega
    rw [← hw1', ← hw1] at hmk
    have hz : zer n = sb (List.replicate n 0) := rfl
    rw [← hz] at hconv
    have hzs : (zer n).size = n := by unfold zer; rw [sb_size, List.length_replicate]
    have hzm : s.size + n ≤ 64 := by omega
    have h1 : (0 : Int) < (s.size : Int) := by omega
    have h2 : (s.size : Int) < 64 := by omega
    clear hB hw1' hw1 h0 h6 hn hz
    go_enter Try.func50, Try.ntmps50
    go_wp2
    go_ret
    exact ⟨by rw [HS.out]; rfl, HO.out⟩
  · have HS : Hid (sec s = s) := Lib.hid (by unfold sec; rw [if_neg (by omega)])
    have h1 : ¬ (s.size : Int) < 64 := by omega
    have h2 : (0 : Int) < (s.size : Int) := by omega
    clear h0 h6
    go_enter Try.func50, Try.ntmps50
    go_wp2
    go_ret
    exact ⟨by rw [HS.out]; rfl, Onl.refl _ _⟩
end Go.Proofs.Ytenngchidlfaeaa
/- The reference's disk: Restart, walked. -/
namespace Go.Proofs.Ytenngchidlfaeaa
open Go.RowKit
open Rad (Dsk)

theorem cutN_extract (s old : ByteArray) (n : Nat) : s.extract 0 n ++ old.extract n old.size = Rad.cutN s old n := by
  apply bl_inj
  unfold Rad.cutN
  have h1 : Rad.Bytes ((bl s).take n ++ (bl old).drop n) := fun b hb => by
    rcases List.mem_append.1 hb with h | h
    · exact bl_bytes s b (List.mem_of_mem_take h)
    · exact bl_bytes old b (List.mem_of_mem_drop h)
  rw [bl_sb h1]
  simp [bl, ByteArray.data_append, ByteArray.data_extract, List.map_take, List.map_drop]
  apply List.take_of_length_le
  simp
theorem bl_getD40 (s : ByteArray) (k : Nat) (h : k < s.size) : (bl s).getD k 0 = s[k].toNat := by
  rw [List.getD_eq_getElem?_getD, List.getElem?_eq_getElem (by rw [bl_length]; exact h), bl_get s k h]; rfl
theorem RS_full {l : List (Nat × ByteArray)} {b : List Nat} {last : Int} {safe : List ByteArray} (h1 : ∀ p ∈ l, p.2.size = 64) (hin : ∀ p ∈ l, p.1 < safe.length) (h2 : ∀ s ∈ safe, s.size = 64) : ∀ k : Nat, k ≤ l.length → ∀ s ∈ Rad.RS l b last safe k, s.size = 64
  | 0, _, s, hs => h2 s hs
  | k + 1, hk, s, hs => by
    rw [Rad.RS] at hs
    have ih := RS_full h1 hin h2 (b := b) (last := last) k (by omega)
    have hp : l.getD k (0, ⟨#[]⟩) ∈ l := Rad.getD_mem (by omega)
    have hq := hin _ hp
    rcases List.mem_or_eq_of_mem_set hs with h | h
    · exact ih s h
    · rw [h]
      by_cases hn : Rad.rn last k (b.getD k 0) ≤ 64
      · exact Rad.cutN_size (h1 _ hp) (ih _ (Rad.getD_mem (by rw [Rad.RS_length]; exact hq))) hn
      · unfold Rad.rn at hn; split at hn <;> omega
set_option maxRecDepth 100000 in
set_option maxHeartbeats 2000000 in
theorem RRestart59 (g gs cs : Nat) (o : Option Addr) (cw : Nat) (D : Dsk) (kp : ByteArray) (w : World) (h : RDskAt w g gs cs o cw D) (hF : D.Full) (hf : D.falls < 1000000000) (hw : D.waits.length ≤ 100000000) (hk : kp.size ≤ 9223372036854775807) :
    Calls Try.prog 59 #[.pointer (some ⟨g, 0, none⟩), .string kp] w fun e w' => e = .returned (.tuple #[]) ∧ RDskAt w' g gs cs none 0 (D.restart (bl kp)) ∧ Onl (dskOf g gs o) w w' := by
  obtain ⟨b, hb⟩ : ∃ b, b = bl kp := ⟨_, rfl⟩
  have HBl : Hid (b.length = kp.size) := Lib.hid (by rw [hb, bl_length])
  have HBg : Hid (∀ k (h : k < kp.size), b.getD k 0 = kp[k].toNat) := Lib.hid (fun k h => by rw [hb, bl_getD40])
  rw [← hb]
  clear hb
  obtain ⟨fl, hfl⟩ : ∃ fl, fl = if D.off then D.falls else D.falls + 1 := ⟨_, rfl⟩
  obtain ⟨D1, hD1⟩ : ∃ D1 : Dsk, D1 = ⟨D.safe, D.waits, D.off, D.armed, fl⟩ := ⟨_, rfl⟩
  obtain ⟨n, hn⟩ : ∃ n, n = D.waits.length := ⟨_, rfl⟩
  obtain ⟨m, hm⟩ : ∃ m, m = D.safe.length := ⟨_, rfl⟩
  have hm4 : m ≤ 4096 := by rw [hm]; exact h.in2
  have HM := Lib.hid hm
  have HN := Lib.hid hn
  have HF := Lib.hid hF
  have HI := Lib.hid h.in1
  have hnn : n ≤ 100000000 := by omega
  obtain ⟨q, hq⟩ : ∃ q, q = min n kp.size := ⟨_, rfl⟩
  have HQ := Lib.hid hq
  obtain ⟨last, hlast⟩ : ∃ last, last = Rad.lastI b q := ⟨_, rfl⟩
  have hll := Rad.lastI_lt b q
  rw [← hlast] at hll
  have hlast' : last < (n : Int) := by omega
  have HLast := Lib.hid hlast
  have HRe : Hid (D.restart b = ⟨Rad.RS D.waits b last D.safe (last + 1).toNat, [], false, 0, fl⟩) := Lib.hid (by
    rw [hlast, Rad.RS_restart h.in1 hF.1 hF.2 (by omega), hfl]
    unfold Dsk.restart
    rw [HBl.out, hq, hn])
  have H := Lib.hid h
  have HD1 := Lib.hid hD1
  have HFl := Lib.hid hfl
  have HO0 : Hid (Onl (dskOf g gs o) w w) := Lib.hid (Onl.refl _ _)
  clear hq hn hm hF hw h hfl hD1 hlast
  go_enter Try.func59, Try.ntmps59
  have hc2 := H.out.c2
  go_upto_if 12 with fail
  clear hc2
  go_cut [] (fun wx => Hid (RDskAt wx g gs cs o cw D1) ∧ Hid (Onl (dskOf g gs o) w wx))
  case first =>
    have hc4 := H.out.c4
    have hf4 := H.out.disk.free 4
    cases hoff : D.off with
    | true =>
      have H1 : Hid (RDskAt w g gs cs o cw D1) := Lib.hid (by
        rw [HD1.out, HFl.out, hoff]; simp only [if_true]
        have h := H.out
        have e : (⟨D.safe, D.waits, true, D.armed, D.falls⟩ : Dsk) = D := by rw [← hoff]
        rw [e]; exact h)
      clear hoff H hc4 hf4
      go_wp2
      go_meet
      exact ⟨H1, HO0⟩
    | false =>
      have hw64 : IntKind.i64.wrap ((D.falls : Int) + 1) = ((D.falls + 1 : Nat) : Int) := by rw [IntWalk.i64_in _ (by omega)]; omega
      have H1 : Hid (RDskAt (w.setCell ⟨g, 4, none⟩ (.int .i64 ((D.falls + 1 : Nat) : Int))) g gs cs o cw D1) := Lib.hid (by
        rw [HD1.out, HFl.out, hoff]
        exact H.out.put 4 _ (D' := ⟨D.safe, D.waits, false, D.armed, D.falls + 1⟩) rfl rfl (by unfold rdcs; rw [hoff]; rfl))
      clear hoff
      go_wp2
      go_meet
      exact ⟨H1, Lib.hid (HO0.out.set _ _ (fun _ => .inl rfl))⟩
  case rest =>
    obtain ⟨H1, HO1⟩ := hcut
    clear H HO0 HFl
    go_wp2
    go_loopw [4, 5] (fun x y wr => ∃ k : Nat, k ≤ q ∧ y = .int .i64 k ∧ x = .int .i64 (Rad.lastI b k) ∧ Hid (RDskAt wr g gs cs o cw D1) ∧ Hid (Onl (dskOf g gs o) w wr)) (fun _ y _ => q - (intOf y).toNat)
    case atStart => exact ⟨0, by omega, rfl, rfl, H1, HO1⟩
    case round =>
      clear H1 HO1
      obtain ⟨wo, rfl⟩ : ∃ wo : World, wo = wr := ⟨_, rfl⟩
      obtain ⟨k, hkq, rfl, rfl, H1, HO⟩ := hrel
      have hc1 : wo.cell? ⟨g, 1, none⟩ = some (.slice o n cw) := by have h := H1.out.c1; rw [HD1.out, ← HN.out] at h; exact h
      go_upto_region 4 with fail
      obtain ⟨bq, hbq⟩ : ∃ bq, bq = decide (k < q) := ⟨_, rfl⟩
      have HBq := Lib.hid hbq
      clear hbq
      go_cut [32] (fun t wx => t = .bool bq ∧ wx = wo)
      case first =>
        by_cases hs1 : (k : Int) < (n : Int)
        · by_cases hs2 : (k : Int) < (kp.size : Int)
          · have hkq3 : k < q := by have := HQ.out; omega
            go_wp2
            go_meet
            exact ⟨by rw [HBq.out, decide_eq_true hkq3], rfl⟩
          · have hkq3 : ¬ k < q := by have := HQ.out; omega
            go_wp2
            go_meet
            exact ⟨by rw [HBq.out, decide_eq_false hkq3], rfl⟩
        · have hkq3 : ¬ k < q := by have := HQ.out; omega
          go_wp2
          go_meet
          exact ⟨by rw [HBq.out, decide_eq_false hkq3], rfl⟩
      case rest =>
        obtain ⟨rfl, rfl⟩ := hcut
        clear hc1
        by_cases hlt : k < q
        · obtain rfl : bq = true := by rw [HBq.out, decide_eq_true hlt]
          have i3 : (k : Int) < (kp.size : Int) := by have := HQ.out; omega
          have i1 : (0 : Int) ≤ (k : Int) := by omega
          have i4 : k < kp.size := by have := HQ.out; omega
          have hg := HBg.out k i4
          by_cases h0 : kp[k].toNat = 0
          · have hb0 : ((kp[k].toNat : Int) != 0) = false := eq_bne (b := 0) h0
            have HL : Hid (Rad.lastI b (k + 1) = Rad.lastI b k) := Lib.hid (by rw [Rad.lastI, hg, if_pos h0])
            clear h0 hg
            go_wp2
            go_roundw
            case rel => exact ⟨k + 1, by omega, by go_num, by rw [HL.out], H1, HO⟩
            case measure => simp [intOf]; omega
          · have hb0 : ((kp[k].toNat : Int) != 0) = true := ne_bne (b := 0) h0
            have HL : Hid (Rad.lastI b (k + 1) = (k : Int)) := Lib.hid (by rw [Rad.lastI, hg, if_neg h0])
            clear h0 hg
            go_wp2
            go_roundw
            case rel => exact ⟨k + 1, by omega, by go_num, by rw [HL.out], H1, HO⟩
            case measure => simp [intOf]; omega
        · obtain rfl : bq = false := by rw [HBq.out, decide_eq_false hlt]
          have hkq2 : k = q := by omega
          have hrel : Rad.lastI b k = last := by rw [hkq2, HLast.out]
          rw [hrel]
          have H1' : Hid (RDskAt wc g gs cs o cw { D1 with safe := Rad.RS D.waits b last D.safe 0 }) := Lib.hid (by
            have h := H1.out
            have e : D1 = { D1 with safe := Rad.RS D.waits b last D.safe 0 } := by rw [HD1.out]; rfl
            rw [← e]; exact h)
          clear hrel H1 hkq2
          go_wp2
          clear hlt hkq
          go_loopw [6] (fun x wr => ∃ j : Nat, (j : Int) ≤ last + 1 ∧ x = .int .i64 j ∧ Hid (RDskAt wr g gs cs o cw { D1 with safe := Rad.RS D.waits b last D.safe j }) ∧ Hid (Onl (dskOf g gs o) w wr)) (fun x _ => (last + 1).toNat - (intOf x).toNat)
          case atStart => exact ⟨0, by omega, rfl, H1', HO⟩
          case round =>
            clear H1' HO
            obtain ⟨wz, rfl⟩ : ∃ wz : World, wz = wr := ⟨_, rfl⟩
            obtain ⟨j, hj, rfl, H2, HO⟩ := hrel
            by_cases hlt2 : (j : Int) ≤ last
            · have hjn : j < n := by omega
              have hjk : j < kp.size := by have := HQ.out; omega
              have hwt : Own wz 0 159 2 o n cw (wcs D.waits) := by have h := H2.out.waits; rw [HD1.out] at h; rw [HN.out]; exact h
              obtain ⟨gl, ex, rfl, _, hbl, hnc, _, _⟩ := hwt.shape (by omega)
              obtain ⟨⟨p1, p2⟩, hp⟩ : ∃ p, D.waits[j]? = some p := ⟨_, List.getElem?_eq_getElem (by have := HN.out; omega)⟩
              have hpm : p1 < m := by have h := HI.out _ (List.mem_of_getElem? hp); rw [← HM.out] at h; exact h
              have hps : p2.size = 64 := HF.out.1 _ (List.mem_of_getElem? hp)
              have hpd : D.waits.getD j (0, ⟨#[]⟩) = (p1, p2) := by rw [List.getD_eq_getElem?_getD, hp]; rfl
              have hw2 := wcs_get hp
              have hb0 : wz.cell? ⟨gl, j * 2, none⟩ = some (.int .i64 (p1 : Int)) := hbl.cell_pre hw2.1
              have hb1 : wz.cell? ⟨gl, j * 2 + 1, none⟩ = some (.string p2) := hbl.cell_pre hw2.2
              have hc1 : wz.cell? ⟨g, 1, none⟩ = some (.slice (some ⟨gl, 0, none⟩) n cw) := by have h := H2.out.c1; rw [HD1.out, ← HN.out] at h; exact h
              obtain ⟨S, hS⟩ : ∃ S, S = Rad.RS D.waits b last D.safe j := ⟨_, rfl⟩
              rw [← hS] at H2
              have hSl : S.length = m := by rw [hS, Rad.RS_length, ← HM.out]
              have hSf : ∀ t ∈ S, t.size = 64 := by rw [hS]; exact RS_full HF.out.1 HI.out HF.out.2 j (by have := HN.out; omega)
              obtain ⟨old, hold⟩ : ∃ old, S[p1]? = some old := ⟨_, List.getElem?_eq_getElem (by omega)⟩
              have hos : old.size = 64 := hSf _ (List.mem_of_getElem? hold)
              have hod : S.getD p1 ⟨#[]⟩ = old := by rw [List.getD_eq_getElem?_getD, hold]; rfl
              obtain ⟨wq, hwq⟩ : ∃ wq, wq = wz.alloc (.cells #[.int .i64 (p1 : Int), .string p2] 159) := ⟨_, rfl⟩
              have hn0 : wq.cell? ⟨wz.heap.size, 0, none⟩ = some (.int .i64 (p1 : Int)) := by rw [hwq]; exact (Blk.new wz 159 [.int .i64 (p1 : Int), .string p2]).cell' rfl
              have hn1 : wq.cell? ⟨wz.heap.size, 1, none⟩ = some (.string p2) := by rw [hwq]; exact (Blk.new wz 159 [.int .i64 (p1 : Int), .string p2]).cell' rfl
              have Hq : Hid (RDskAt wq g gs cs (some ⟨gl, 0, none⟩) cw { D1 with safe := S }) := Lib.hid (by rw [hwq]; exact H2.out.onl ((Onl.refl non wz).alloc _) (fun _ _ h => h))
              have HOq : Hid (Onl (dskOf g gs (some ⟨gl, 0, none⟩)) w wq) := Lib.hid (by rw [hwq]; exact HO.out.alloc _)
              have i2 : (0 : Int) ≤ (j : Int) := by omega
              have i3 : (j : Int) < (n : Int) := by omega
              have i4 : (j : Int) < (kp.size : Int) := by omega
              have hg := HBg.out j hjk
              obtain ⟨v, hv⟩ : ∃ v, v = kp[j].toNat := ⟨_, rfl⟩
              obtain ⟨r, hr⟩ : ∃ r, r = Rad.rn last j v := ⟨_, rfl⟩
              have HNx : Hid (Rad.RS D.waits b last D.safe (j + 1) = S.set p1 (p2.extract 0 r ++ old.extract r old.size)) := Lib.hid (by
                rw [Rad.RS, ← hS, hpd, hg, ← hv, ← hr, cutN_extract]
                show S.set p1 (Rad.cutN p2 (S.getD p1 ⟨#[]⟩) r) = _
                rw [hod])
              have hv256 : v < 256 := by rw [hv]; exact kp[j].toNat_lt
              have hr64 : r ≤ 64 := by rw [hr]; unfold Rad.rn; split <;> omega
              have HRn : Hid (r = if (0 < v ∧ (j : Int) < last) ∨ 64 < v then 64 else v) := Lib.hid hr
              have hwi : IntKind.i64.wrap ((kp[j].toNat : Nat) : Int) = (v : Int) := by rw [← hv, IntWalk.i64_in _ (by omega)]
              have HPs := Lib.hid hps
              have HOs := Lib.hid hos
              have HSl := Lib.hid hSl
              have HP1 := Lib.hid hpm
              have hj64 : j + 1 < 9223372036854775807 := by omega
              have hc0 : wq.cell? ⟨g, 0, none⟩ = some (.slice (some ⟨gs, 0, none⟩) m cs) := by rw [← hSl]; exact Hq.out.c0
              have hcs : wq.cell? ⟨gs, p1, none⟩ = some (.string old) := Hq.out.sc hold
              have hfs := Hq.out.sf p1
              clear hp hw2 hbl hwt hS hSf hold hps hos hod hpd hSl hg H2 HO hv hr
              have HC0 := Lib.hid hc0
              have HCs := Lib.hid hcs
              have HFs := Lib.hid hfs
              have HN0 := Lib.hid hn0
              have HN1 := Lib.hid hn1
              have HHf := Lib.hid hf
              have HHk := Lib.hid hk
              clear hc0 hcs hfs hn0 hn1 hf hk hm4 hnn
              go_upto_region 13 with fail
              rw [← hwq]
              clear hb0 hb1 hc1 hwq hwi
              obtain ⟨bb, hbb⟩ : ∃ bb, bb = decide ((0 < v ∧ (j : Int) < last) ∨ 64 < v) := ⟨_, rfl⟩
              go_cut [66] (fun t wx => t = .bool bb ∧ wx = wq)
              case first =>
                by_cases a1 : (0 : Int) < (v : Int)
                · by_cases a2 : (j : Int) < last
                  · have hb1 : bb = true := by rw [hbb]; exact decide_eq_true (by omega)
                    clear hbb
                    go_wp2
                    go_meet
                    exact ⟨by rw [hb1], rfl⟩
                  · have hb1 : bb = decide ((64 : Int) < (v : Int)) := by rw [hbb]; exact decide_eq_decide.2 (by omega)
                    clear hbb
                    go_wp2
                    go_meet
                    exact ⟨by rw [hb1], rfl⟩
                · have hb1 : bb = decide ((64 : Int) < (v : Int)) := by rw [hbb]; exact decide_eq_decide.2 (by omega)
                  clear hbb
                  go_wp2
                  go_meet
                  exact ⟨by rw [hb1], rfl⟩
              case rest =>
                obtain ⟨rfl, rfl⟩ := hcut
                have HBB : Hid (r = if bb then 64 else v) := Lib.hid (by rw [hbb, HRn.out]; simp only [decide_eq_true_eq])
                clear hbb HRn
                go_upto_if 66 with fail
                go_cut [8] (fun t wx => t = .int .i64 r ∧ wx = wc)
                case first =>
                  cases bb with
                  | true =>
                    have hr1 : r = 64 := HBB.out
                    go_wp2
                    go_meet
                    exact ⟨by rw [hr1]; rfl, rfl⟩
                  | false =>
                    have hr1 : r = v := HBB.out
                    go_wp2
                    go_meet
                    exact ⟨by rw [hr1], rfl⟩
                case rest =>
                  obtain ⟨rfl, rfl⟩ := hcut
                  have hc0 := HC0.out
                  have hcs := HCs.out
                  have hfs := HFs.out
                  have hn0 := HN0.out
                  have hn1 := HN1.out
                  have hz1 : (p2.extract 0 r).size = r := by rw [ByteArray.size_extract]; have := HPs.out; omega
                  have hz2 : (old.extract r old.size).size = 64 - r := by rw [ByteArray.size_extract]; have := HOs.out; omega
                  have k1 : ((r : Nat) : Int) ≤ (p2.size : Int) := by have := HPs.out; omega
                  have k2 : ((r : Nat) : Int) ≤ (old.size : Int) := by have := HOs.out; omega
                  have k3 : (0 : Int) ≤ ((r : Nat) : Int) := by omega
                  have i0 : (0 : Int) ≤ (p1 : Int) := by omega
                  have i1 : (p1 : Int) < (m : Int) := by have := HP1.out; omega
                  clear HBB HC0 HCs HFs HN0 HN1
                  go_upto_region 15 with fail
                  refine wp_region_qt 22 (by kernel_rfl) (by kernel_rfl) ?_
                  simp only [List.take_succ_cons, List.take_zero, List.drop_succ_cons, List.drop_zero]
                  repeat (go_big_quiet_step (fail))
                  refine wpQuiet_nil ?_
                  intro _ hw'
                  obtain ⟨nq, rfl⟩ := hw'
                  clear i0 i1 i2 i3 i4 hc0 hn0 hn1 k1 k2 k3 hz1 hz2
                  go_wp2
                  go_roundw
                  case rel =>
                    refine ⟨j + 1, by omega, by go_num, Lib.hid ?_, Lib.hid ((HOq.out.drewN nq).set _ _ (fun _ => .inr (.inl rfl)))⟩
                    rw [HNx.out]
                    exact (Hq.out.drw ⟨nq, rfl⟩).save p1 _ (by show p1 < S.length; rw [HSl.out]; exact HP1.out)
                  case measure => simp [intOf]; omega
            · have hjl : (last + 1).toNat = j := by omega
              have hR1 : RDskAt wz g gs cs o cw ⟨Rad.RS D.waits b last D.safe j, D.waits, D.off, D.armed, fl⟩ := by have h := H2.out; rw [HD1.out] at h; exact h
              have f1 := hR1.disk.free 1
              have f2 := hR1.disk.free 2
              have f3 := hR1.disk.free 3
              have c1 := hR1.c1
              have c2 := hR1.c2
              have c3 := hR1.c3
              have HR1 := Lib.hid hR1
              have HJL := Lib.hid hjl
              clear hR1 hjl H2
              go_wp2
              refine bodyPost_end (v := .tuple #[]) (by simp [results, Try.results59, go_sem]) rfl ⟨rfl, ?_, ?_⟩
              · have hR1 := HR1.out
                obtain ⟨ex, he⟩ := hR1.safe
                rw [HRe.out, HJL.out]
                refine ⟨?_, ⟨ex, ?_⟩, ?_, hR1.n1, (fun h => by cases h), (fun h => by cases h), (fun p hp => by cases hp), hR1.in2, hR1.in3⟩
                · exact ((hR1.disk.set 1 (.slice none 0 0)).set 2 (.bool true)).set 3 (.int .i64 0)
                · exact ((he.set_ne (fun e => hR1.n1 e.symm) _).set_ne (fun e => hR1.n1 e.symm) _).set_ne (fun e => hR1.n1 e.symm) _
                · exact Own.nil _ _ _ _
              · exact ((HO.out.set ⟨g, 1, none⟩ _ (fun _ => .inl rfl)).set ⟨g, 2, none⟩ _ (fun _ => .inl rfl)).set ⟨g, 3, none⟩ _ (fun _ => .inl rfl)
end Go.Proofs.Ytenngchidlfaeaa
/- The program's disk: Restart, walked. -/
namespace Go.Proofs.Ytenngchidlfaeaa
open Go.RowKit
open Rad (Dsk)

/-- of the last survivor: how much of it survives -/
def lastM (K : List ((Nat × ByteArray) × Nat)) : Nat := match K.getLast? with | none => 0 | some x => min x.2 64
theorem lastM_snoc (K : List ((Nat × ByteArray) × Nat)) (x : (Nat × ByteArray) × Nat) : lastM (K ++ [x]) = min x.2 64 := by unfold lastM; rw [List.getLast?_concat]
theorem wait_lay (i : Nat) (hd : ByteArray) : ∀ (l : List (Nat × ByteArray)) (s : List ByteArray), i < s.length → Rad.wait i (s.getD i hd) l = (Rad.lay l s).getD i hd
  | [], _, _ => rfl
  | p :: l, s, h => by
    have ih := wait_lay i hd l (s.set p.1 p.2) (by rw [List.length_set]; exact h)
    show Rad.wait i (if p.1 = i then p.2 else s.getD i hd) l = (Rad.lay l (s.set p.1 p.2)).getD i hd
    rw [← ih]
    congr 1
    rw [List.getD_eq_getElem?_getD (l := s.set p.1 p.2), List.getElem?_set]
    split
    · rename_i e; subst e; rw [if_pos h]; rfl
    · rw [← List.getD_eq_getElem?_getD]
theorem BlkM.setCells_all {g : Nat} {t : TypeId} : ∀ (vs : List Value) (o : Nat) {w : World} {cs : List Value}, BlkM w g t cs → o + vs.length ≤ cs.length →
    BlkM (w.setCells g o vs) g t (cs.take o ++ vs ++ cs.drop (o + vs.length))
  | [], o, w, cs, h, _ => by simp only [List.append_nil, List.length_nil, Nat.add_zero, List.take_append_drop]; exact h
  | v :: r, o, w, cs, h, hl => by
    have h2 := BlkM.setCells_all r (o + 1) (h.set o v) (by simp at hl ⊢; omega)
    have e : (cs.set o v).take (o + 1) ++ r ++ (cs.set o v).drop (o + 1 + r.length) = cs.take o ++ (v :: r) ++ cs.drop (o + (v :: r).length) := by
      have ho : o < cs.length := by simp at hl; omega
      rw [List.take_succ_eq_append_getElem (by simpa using ho), List.take_set_of_le (by omega), List.getElem_set_self, List.drop_set_of_lt (by omega)]
      simp [Nat.add_comm 1, Nat.add_assoc]
    rw [← e]; exact h2
theorem onl_setCells {S : Nat → Prop} {g : Nat} (hg : S g) : ∀ (vs : List Value) (o : Nat) {a w : World}, Onl S a w → Onl S a (w.setCells g o vs)
  | [], _, _, _, h => h
  | v :: r, o, _, _, h => onl_setCells hg r (o + 1) (h.set ⟨g, o, none⟩ v (fun _ => hg))
/-- copy of a string into a []byte made of a string -/
theorem BlkM.copy {w : World} {g : Nat} {l : List Nat} (h : BlkM w g 5 (bs l)) (n c : Nat) (s : ByteArray) (hn : s.size ≤ n) (hl : s.size ≤ l.length) :
    ∃ w', (Builtin.copy_ #[57, 9] 3 #[.slice (some ⟨g, 0, none⟩) n c, .string s]).run Try.prog w = .ok (goInt s.size) w' ∧ BlkM w' g 5 (bs (bl s ++ l.drop s.size)) ∧ Onl (one g) w w' := by
  refine ⟨_, run_copy_string w 57 9 3 5 g 0 n c s Try.underlying57 size5 hn (fun j hj => ?_) (fun j hj => ?_), ?_, onl_setCells (S := one g) rfl _ _ (Onl.refl _ _)⟩
  · rw [Nat.zero_add, h.cell, List.getElem?_eq_getElem (by rw [bs_length]; omega)]; rfl
  · rw [Nat.zero_add]; exact h.free (by rw [bs_length]; omega)
  · have e : (s.data.toList.map fun x => Value.int .u8 (x.toNat : Int)) = bs (bl s) := by simp [bs, bl]
    rw [e]
    have h2 := h.setCells_all (bs (bl s)) 0 (by rw [bs_length, bs_length, bl_length]; omega)
    have e2 : (bs l).take 0 ++ bs (bl s) ++ (bs l).drop (0 + (bs (bl s)).length) = bs (bl s ++ l.drop s.size) := by
      rw [bs_length, bl_length, List.take_zero, List.nil_append, Nat.zero_add]; simp [bs, List.map_drop]
    rw [e2] at h2; exact h2
theorem run_slice147 (w : World) (g n c hi : Nat) (h1 : hi ≤ n) (h2 : n ≤ c) (h3 : 0 < c) :
    (Instr.slice 147 (.slice (some ⟨g, 0, none⟩) n c) none (some (.int .i64 (hi : Int))) none).run Try.prog w = .ok (.slice (some ⟨g, 0, none⟩) hi c) w := by
  have e3 : c ≠ 0 := by omega
  have e4 : (⟨g, 0, none⟩ : Addr).add 0 = ⟨g, 0, none⟩ := by unfold Addr.add; split <;> simp_all
  have e5 : hi ≤ c := by omega
  simp [Instr.slice, run_underlying Try.underlying147, Instr.sliceBounds, Instr.sliceBound, asIntOf, e3, e4, e5]
set_option maxRecDepth 100000 in
set_option maxHeartbeats 2000000 in
theorem Restart58 (g gs cs : Nat) (o : Option Addr) (cw : Nat) (D : Dsk) (kp : ByteArray) (w : World) (h : DskAt w g gs cs o cw D) (hF : D.Full) (hf : D.falls < 1000000000) (hw : D.waits.length ≤ 100000000) (hk : kp.size ≤ 9223372036854775807) :
    Calls Try.prog 58 #[.pointer (some ⟨g, 0, none⟩), .string kp] w fun e w' => e = .returned (.tuple #[]) ∧ DskAt w' g gs cs o cw (D.restart (bl kp)) ∧ Onl (dskOf g gs o) w w' := by
  obtain ⟨b, hb⟩ : ∃ b, b = bl kp := ⟨_, rfl⟩
  have HBl : Hid (b.length = kp.size) := Lib.hid (by rw [hb, bl_length])
  have HBg : Hid (∀ k (h : k < kp.size), b.getD k 0 = kp[k].toNat) := Lib.hid (fun k h => by rw [hb, bl_getD40])
  rw [← hb]
  clear hb
  obtain ⟨fl, hfl⟩ : ∃ fl, fl = if D.off then D.falls else D.falls + 1 := ⟨_, rfl⟩
  obtain ⟨D1, hD1⟩ : ∃ D1 : Dsk, D1 = ⟨D.safe, D.waits, true, 0, fl⟩ := ⟨_, rfl⟩
  obtain ⟨n, hn⟩ : ∃ n, n = D.waits.length := ⟨_, rfl⟩
  obtain ⟨m, hm⟩ : ∃ m, m = D.safe.length := ⟨_, rfl⟩
  have hm4 : m ≤ 4096 := by rw [hm]; exact h.in2
  have HM := Lib.hid hm
  have HN := Lib.hid hn
  have HF := Lib.hid hF
  have HI := Lib.hid h.in1
  have hnn : n ≤ 100000000 := by omega
  have HRe : Hid (D.restart b = ⟨Rad.layK (Rad.kept D.waits b (min n kp.size)) D.safe, [], false, 0, fl⟩) := Lib.hid (by
    unfold Dsk.restart
    rw [HBl.out, hn, hfl])
  have HFall : Hid (Calls Try.prog 116 #[.pointer (some ⟨g, 0, none⟩)] w fun e w' => e = .returned (.tuple #[]) ∧ DskAt w' g gs cs o cw D1 ∧ Onl (one g) w w') := Lib.hid (by
    rw [hD1, hfl]; exact fall116 g gs cs o cw D w h hf)
  have HD1 := Lib.hid hD1
  have HLt : Hid (g < w.heap.size ∧ gs < w.heap.size ∧ ∀ k, ownOf o k → k < w.heap.size) := Lib.hid ⟨h.disk.lt, h.safe.lt, fun k hk => (h.waits.lt k hk).2⟩
  have HNe : Hid (g ≠ gs) := Lib.hid h.n1
  clear hn hm hF hw h hfl hD1
  go_enter Try.func58, Try.ntmps58
  go_wp2_with fail
  refine HFall.out.mono ?_
  rintro e w1 ⟨rfl, hd1, ho1⟩
  have H1 := Lib.hid hd1
  have HO1 : Hid (Onl (one g) w w1) := Lib.hid ho1
  have hc1 : w1.cell? ⟨g, 1, none⟩ = some (.slice o n cw) := by have h := hd1.c1; rw [HD1.out, ← HN.out] at h; exact h
  clear hd1 ho1 HFall
  go_wp2
  clear hc1
  go_loopw [4, 5, 20] (fun x y z wr => ∃ (k : Nat) (ol : Option Addr) (N cl : Nat) (K : List ((Nat × ByteArray) × Nat)), k ≤ n ∧ z = .int .i64 k ∧ x = .slice ol N cl ∧ y = .int .i64 (lastM K) ∧ Hid (N = K.length ∧ N ≤ k ∧ K = Rad.kept D.waits b (min k kp.size)) ∧
      Hid (Own wr w.heap.size 157 2 ol N cl (wcs (Rad.ws K))) ∧ Hid (DskAt wr g gs cs o cw D1) ∧ Hid (Onl (one g) w wr)) (fun _ _ z _ => n - (intOf z).toNat)
  case atStart => exact ⟨0, none, 0, 0, [], by omega, rfl, rfl, rfl, Lib.hid ⟨rfl, by omega, by rw [Nat.zero_min]; rfl⟩, Lib.hid (Own.nil _ _ _ _), H1, HO1⟩
  case round =>
    clear H1 HO1
    obtain ⟨wo, rfl⟩ : ∃ wo : World, wo = wr := ⟨_, rfl⟩
    obtain ⟨k, ol, N, cl, K, hkn, rfl, rfl, rfl, HK, HL, H1, HO⟩ := hrel
    by_cases hlt : k < n
    · have hwt : Own wo 0 157 2 o n cw (wcs D.waits) := by have h := H1.out.waits; rw [HD1.out] at h; rw [HN.out]; exact h
      obtain ⟨gl, ex, ho2, _, hbl, hnc, _, _⟩ := hwt.shape (by omega)
      subst ho2
      obtain ⟨⟨p1, p2⟩, hp⟩ : ∃ p, D.waits[k]? = some p := ⟨_, List.getElem?_eq_getElem (by have := HN.out; omega)⟩
      have hpd : D.waits.getD k (0, ⟨#[]⟩) = (p1, p2) := by rw [List.getD_eq_getElem?_getD, hp]; rfl
      have hw2 := wcs_get hp
      have hb0 : wo.cell? ⟨gl, k * 2, none⟩ = some (.int .i64 (p1 : Int)) := hbl.cell_pre hw2.1
      have hb1 : wo.cell? ⟨gl, k * 2 + 1, none⟩ = some (.string p2) := hbl.cell_pre hw2.2
      obtain ⟨wq, hwq⟩ : ∃ wq, wq = wo.alloc (.cells #[.int .i64 (p1 : Int), .string p2] 157) := ⟨_, rfl⟩
      have HBq : Hid (Blk wq wo.heap.size 157 [.int .i64 (p1 : Int), .string p2]) := Lib.hid (by rw [hwq]; exact Blk.new wo 157 _)
      have H1q : Hid (DskAt wq g gs cs (some ⟨gl, 0, none⟩) cw D1) := Lib.hid (by rw [hwq]; exact H1.out.onl ((Onl.refl non wo).alloc _) (fun _ _ h => h))
      have HLq : Hid (Own wq w.heap.size 157 2 ol N cl (wcs (Rad.ws K))) := Lib.hid (by rw [hwq]; exact HL.out.alloc _)
      have HOq : Hid (Onl (one g) w wq) := Lib.hid (by rw [hwq]; exact HO.out.alloc _)
      have HPd := Lib.hid hpd
      clear hp hw2 hbl hwt hpd H1 HL HO
      go_upto_region 6 with fail
      rw [← hwq]
      clear hb0 hb1 hwq
      obtain ⟨bq, hbq⟩ : ∃ bq, bq = decide (k < kp.size ∧ b.getD k 0 ≠ 0) := ⟨_, rfl⟩
      have HBb := Lib.hid hbq
      clear hbq
      go_cut [34] (fun t wx => t = .bool bq ∧ wx = wq)
      case first =>
        by_cases i3 : (k : Int) < (kp.size : Int)
        · have i1 : (0 : Int) ≤ (k : Int) := by omega
          have i4 : k < kp.size := by omega
          have hg := HBg.out k i4
          by_cases h0 : kp[k].toNat = 0
          · have hb0 : ((kp[k].toNat : Int) != 0) = false := eq_bne (b := 0) h0
            have hbq : bq = false := by rw [HBb.out]; exact decide_eq_false (by rw [hg]; omega)
            clear h0 hg
            go_wp2
            go_meet
            exact ⟨by rw [hbq], rfl⟩
          · have hb0 : ((kp[k].toNat : Int) != 0) = true := ne_bne (b := 0) h0
            have hbq : bq = true := by rw [HBb.out]; exact decide_eq_true (by rw [hg]; omega)
            clear h0 hg
            go_wp2
            go_meet
            exact ⟨by rw [hbq], rfl⟩
        · have hbq : bq = false := by rw [HBb.out]; exact decide_eq_false (by omega)
          go_wp2
          go_meet
          exact ⟨by rw [hbq], rfl⟩
      case rest =>
        obtain ⟨rfl, rfl⟩ := hcut
        cases bq with
        | false =>
          have hkk : Rad.kept D.waits b (min (k + 1) kp.size) = K := by
            have hb := HBb.out
            rw [HK.out.2.2]
            by_cases hks : k < kp.size
            · have h0 : b.getD k 0 = 0 := by
                by_cases h0 : b.getD k 0 = 0
                · exact h0
                · exact absurd ⟨hks, h0⟩ (of_decide_eq_false hb.symm)
              rw [show min (k + 1) kp.size = k + 1 from by omega, show min k kp.size = k from by omega, Rad.kept, if_pos h0]
            · rw [show min (k + 1) kp.size = min k kp.size from by omega]
          have HKK := Lib.hid hkk
          clear hkk
          go_wp2
          go_roundw
          case rel => exact ⟨k + 1, ol, N, cl, K, by omega, by go_num, rfl, rfl, Lib.hid ⟨HK.out.1, by have := HK.out.2.1; omega, HKK.out.symm⟩, HLq, H1q, HOq⟩
          case measure => simp [intOf]; omega
        | true =>
          obtain ⟨hks, h0⟩ := of_decide_eq_true HBb.out.symm
          have hg := HBg.out k hks
          obtain ⟨v, hv⟩ : ∃ v, v = kp[k].toNat := ⟨_, rfl⟩
          rw [← hv] at hg
          have hkk : Rad.kept D.waits b (min (k + 1) kp.size) = K ++ [((p1, p2), v)] := by
            rw [HK.out.2.2, show min (k + 1) kp.size = k + 1 from by omega, show min k kp.size = k from by omega, Rad.kept, if_neg h0, HPd.out, hg]
          have HKK := Lib.hid hkk
          have hbc := HBq.out
          have hq0 : wc.cell? ⟨wo.heap.size, 0, none⟩ = some (.int .i64 (p1 : Int)) := hbc.cell' rfl
          have hq1 : wc.cell? ⟨wo.heap.size, 1, none⟩ = some (.string p2) := hbc.cell' rfl
          have i1 : (0 : Int) ≤ (k : Int) := by omega
          have i3 : (k : Int) < (kp.size : Int) := by omega
          have hv256 : v < 256 := by rw [hv]; exact kp[k].toNat_lt
          have hwi : IntKind.i64.wrap ((kp[k].toNat : Nat) : Int) = (v : Int) := by rw [← hv, IntWalk.i64_in _ (by omega)]
          have hNB : Hid (∀ j u, (wcs [(p1, p2)])[j]? = some u → (wc.alloc (.cells #[.int .i64 (p1 : Int), .string p2] 157)).cell? ((⟨wc.heap.size, 0, none⟩ : Addr).add j) = some u) := Lib.hid ((Blk.new wc 157 [.int .i64 (p1 : Int), .string p2]).cells)
          have HOx : Hid (Own (wc.alloc (.cells #[.int .i64 (p1 : Int), .string p2] 157)) w.heap.size 157 2 ol N cl (wcs (Rad.ws K))) := Lib.hid (HLq.out.alloc _)
          have hNk : N ≤ k := HK.out.2.1
          have hbase : w.heap.size ≤ wc.heap.size := HOq.out.size
          clear hkk hbc h0 hv hg
          go_wp2_with (first | (at_builtin; refine wpList_app rfl (.tmp 35) (.tmp 37) 147 rfl w.heap.size 157 (.agg #[.int .i64 0, .string ⟨#[]⟩]) 2 24 Try.underlying147 info157 rfl (by decide) _ _ _ _ rfl HOx.out ⟨wc.heap.size, 0, none⟩ 1 1 (wcs [(p1, p2)]) rfl rfl hNB.out (wcs_one _) (by omega) (by omega) (by rw [World.size_alloc]; omega) ?_; intro o1 c1 wA hA1 hA2 hA3; have HA1 := Lib.hid hA1; have HA2 := Lib.hid hA2; clear hA1 hA2 hA3 hq0 hq1))
          go_roundw
          case rel =>
            refine ⟨k + 1, o1, N + 1, c1, K ++ [((p1, p2), v)], by omega, by go_num, rfl, ?_, Lib.hid ⟨by rw [List.length_append, ← HK.out.1]; rfl, by omega, HKK.out.symm⟩, Lib.hid ?_, Lib.hid ?_, Lib.hid ?_⟩
            · rw [lastM_snoc]; congr 1; omega
            · have h := HA1.out
              rw [← wcs_append] at h
              have e : Rad.ws (K ++ [((p1, p2), v)]) = Rad.ws K ++ [(p1, p2)] := by unfold Rad.ws; rw [List.map_append]; rfl
              rw [e]; exact h
            · refine (H1q.out.onl ((Onl.refl non wc).alloc _) (fun _ _ h => h)).onl HA2.out (fun k hk h => ?_)
              have h1 := (HLq.out.lt k h).1
              have h2 := HLt.out
              rcases hk with rfl | rfl | hk
              · omega
              · omega
              · have := h2.2.2 k hk; omega
            · exact (HOq.out.alloc _).trans HA2.out (fun k hk h => by have h1 := (HLq.out.lt k h).1; omega)
          case measure => simp [intOf]; omega
    · have hkn2 : k = n := by omega
      have HK2 : Hid (N = K.length ∧ N ≤ n ∧ K = Rad.kept D.waits b (min n kp.size)) := Lib.hid (by have h := HK.out; rw [hkn2] at h; exact h)
      have HKm : Hid (∀ x ∈ K, x.1 ∈ D.waits) := Lib.hid (by rw [HK2.out.2.2]; exact Rad.kept_mem (by have := HN.out; omega))
      rw [← HK2.out.2.2] at HRe
      have hNn := HK2.out.2.1
      obtain ⟨vv, hvv⟩ : ∃ vv, vv = lastM K := ⟨_, rfl⟩
      rw [← hvv]
      have HVV := Lib.hid hvv
      have hnl : ¬ (k : Int) < (n : Int) := by omega
      clear HK hkn hlt hkn2 hvv
      obtain ⟨z, hz⟩ : ∃ z, (N : Int) - 1 = z := ⟨_, rfl⟩
      go_upto_if 49 with fail
      have HZ := Lib.hid hz
      clear hz hnl
      go_cut [] (fun wx => ∃ L : List (Nat × ByteArray), Hid (L.length = N ∧ Rad.lay L D.safe = Rad.layK K D.safe ∧ (∀ p ∈ L, p.1 < D.safe.length) ∧ Own wx w.heap.size 157 2 ol N cl (wcs L) ∧ DskAt wx g gs cs o cw D1 ∧ Onl (one g) w wx))
      case first =>
        rcases List.eq_nil_or_concat K with hK | ⟨K', x, hK⟩
        · have hz : z < 0 := by have h1 := HK2.out.1; rw [hK] at h1; have h2 := HZ.out; simp at h1; omega
          go_wp2
          go_meet
          refine ⟨[], Lib.hid ⟨by rw [HK2.out.1, hK]; rfl, by rw [hK]; rfl, fun p hp => (by cases hp), ?_, H1.out, HO.out⟩⟩
          have h := HL.out
          rw [hK] at h; exact h
        · obtain ⟨q, hq⟩ : ∃ q, q = K'.length := ⟨_, rfl⟩
          have hNq : N = q + 1 := by rw [HK2.out.1, hK, List.concat_eq_append, List.length_append, hq]; rfl
          obtain rfl : z = (q : Int) := by have h2 := HZ.out; omega
          obtain ⟨⟨p, s⟩, v⟩ := x
          have hws : Rad.ws K = Rad.ws K' ++ [(p, s)] := by rw [hK, List.concat_eq_append]; unfold Rad.ws; rw [List.map_append]; rfl
          have hwl : (Rad.ws K').length = q := by unfold Rad.ws; rw [List.length_map, hq]
          obtain ⟨gl, ex, hol, hgl, hbl, hNc, hcm, _⟩ := HL.out.shape (by omega)
          subst hol
          have hlk : (wcs (Rad.ws K)) = wcs (Rad.ws K') ++ wcs [(p, s)] := by rw [hws, wcs_append]
          have hx : (Rad.ws K)[q]? = some (p, s) := by rw [hws, List.getElem?_append_right (by omega), hwl, Nat.sub_self]; rfl
          have hw2 := wcs_get hx
          have hb0 : wo.cell? ⟨gl, q * 2, none⟩ = some (.int .i64 (p : Int)) := hbl.cell_pre hw2.1
          have hb1 : wo.cell? ⟨gl, q * 2 + 1, none⟩ = some (.string s) := hbl.cell_pre hw2.2
          have hmem : (p, s) ∈ D.waits := HKm.out ((p, s), v) (by rw [hK, List.concat_eq_append]; simp)
          have hpm : p < m := by have h := HI.out _ hmem; rw [← HM.out] at h; exact h
          have hss : s.size = 64 := HF.out.1 _ hmem
          obtain ⟨s0, hs0⟩ : ∃ s0, D.safe[p]? = some s0 := ⟨_, List.getElem?_eq_getElem (by have := HM.out; omega)⟩
          have hsd : DskAt wo g gs cs o cw ⟨D.safe, D.waits, true, 0, fl⟩ := by rw [← HD1.out]; exact H1.out
          have hc0 : wo.cell? ⟨g, 0, none⟩ = some (.slice (some ⟨gs, 0, none⟩) m cs) := by rw [HM.out]; exact hsd.c0
          have hcs : wo.cell? ⟨gs, p, none⟩ = some (.string s0) := hsd.safe.cell' (ss_get hs0)
          have i0 : (0 : Int) ≤ (p : Int) := by omega
          have i1 : (p : Int) < (m : Int) := by omega
          have i2 : (0 : Int) ≤ (q : Int) := by omega
          have i3 : (q : Int) < (N : Int) := by omega
          have hls : lastM K = min v 64 := by rw [hK, List.concat_eq_append, lastM_snoc]
          have HK3 := Lib.hid hK
          have HWs := Lib.hid hws
          have HWl := Lib.hid hwl
          have HBl2 := Lib.hid hbl
          have HLK := Lib.hid hlk
          have HSs := Lib.hid hss
          have HPm := Lib.hid hpm
          have HS0 := Lib.hid hs0
          have HLs := Lib.hid hls
          have HLtO := Lib.hid hgl
          have HNq := Lib.hid hNq
          clear hNq hK hws hwl hbl hlk hss hs0 hsd hx hw2 hmem hq hls
          go_upto_region 12 with fail
          go_quiet (fail)
          obtain ⟨wb, hwb⟩ : ∃ wb, wb = wo.drewN nq := ⟨_, rfl⟩
          have HBb : Hid (Blk wb gl 157 (wcs (Rad.ws K) ++ ex)) := Lib.hid (by rw [hwb]; exact HBl2.out.drewN nq)
          have HDb : Hid (DskAt wb g gs cs o cw D1) := Lib.hid (by rw [hwb]; exact H1.out.drw ⟨nq, rfl⟩)
          have HOb : Hid (Onl (one g) w wb) := Lib.hid (by rw [hwb]; exact HO.out.drewN nq)
          have hsl := fun wx => run_slice147 wx gl N cl q (by omega) (by omega) (by have := HNq.out; omega)
          try rw [← hwb]
          have hlm64 : vv ≤ 64 := by rw [HVV.out, HLs.out]; omega
          clear hwb hb0 hb1 hc0 hcs i0 i1 H1 HO HL HBl2
          go_wp2
          clear hsl
          go_loopw [9, 65] (fun x y wr => ∃ j : Nat, j ≤ q ∧ y = .int .i64 j ∧ x = .string (Rad.wait p s0 ((Rad.ws K').take j)) ∧ Hid (Blk wr gl 157 (wcs (Rad.ws K) ++ ex)) ∧ Hid (DskAt wr g gs cs o cw D1) ∧ Hid (Onl (one g) w wr)) (fun _ y _ => q - (intOf y).toNat)
          case atStart => exact ⟨0, by omega, rfl, rfl, HBb, HDb, HOb⟩
          case round =>
            clear HBb HDb HOb
            obtain ⟨wy, rfl⟩ : ∃ wy : World, wy = wr := ⟨_, rfl⟩
            obtain ⟨j, hjq, rfl, rfl, HBb, HDb, HOb⟩ := hrel
            have hxx : (Rad.ws K)[q]? = some (p, s) := by rw [HWs.out, List.getElem?_append_right (by rw [HWl.out]; omega), HWl.out, Nat.sub_self]; rfl
            have hx := wcs_get hxx
            clear hxx
            have hb0 : wy.cell? ⟨gl, q * 2, none⟩ = some (.int .i64 (p : Int)) := HBb.out.cell_pre hx.1
            have hb1 : wy.cell? ⟨gl, q * 2 + 1, none⟩ = some (.string s) := HBb.out.cell_pre hx.2
            have HX := Lib.hid hx
            clear hx
            by_cases hlt3 : j < q
            · obtain ⟨⟨p1, s1⟩, hp1⟩ : ∃ x, (Rad.ws K')[j]? = some x := ⟨_, List.getElem?_eq_getElem (by rw [HWl.out]; exact hlt3)⟩
              have hyy : (Rad.ws K)[j]? = some (p1, s1) := by rw [HWs.out, List.getElem?_append_left (by rw [HWl.out]; exact hlt3)]; exact hp1
              have hy := wcs_get hyy
              clear hyy
              have hb2 : wy.cell? ⟨gl, j * 2, none⟩ = some (.int .i64 (p1 : Int)) := HBb.out.cell_pre hy.1
              have hb3 : wy.cell? ⟨gl, j * 2 + 1, none⟩ = some (.string s1) := HBb.out.cell_pre hy.2
              have hst := wait_take_succ hp1 p s0
              have HSt := Lib.hid hst
              obtain ⟨wq, hwq⟩ : ∃ wq, wq = wy.alloc (.cells #[.int .i64 (p1 : Int), .string s1] 157) := ⟨_, rfl⟩
              have hn0 : wq.cell? ⟨wy.heap.size, 0, none⟩ = some (.int .i64 (p1 : Int)) := by rw [hwq]; exact (Blk.new wy 157 [.int .i64 (p1 : Int), .string s1]).cell' rfl
              have hn1 : wq.cell? ⟨wy.heap.size, 1, none⟩ = some (.string s1) := by rw [hwq]; exact (Blk.new wy 157 [.int .i64 (p1 : Int), .string s1]).cell' rfl
              have HBq : Hid (Blk wq gl 157 (wcs (Rad.ws K) ++ ex)) := Lib.hid (by rw [hwq]; exact HBb.out.alloc _)
              have HDq : Hid (DskAt wq g gs cs o cw D1) := Lib.hid (by rw [hwq]; exact HDb.out.onl ((Onl.refl non wy).alloc _) (fun _ _ h => h))
              have HOq : Hid (Onl (one g) w wq) := Lib.hid (by rw [hwq]; exact HOb.out.alloc _)
              have hc2 : wq.cell? ⟨gl, q * 2, none⟩ = some (.int .i64 (p : Int)) := HBq.out.cell_pre HX.out.1
              clear hst hp1 hy HBb HDb HOb
              go_upto_region 16 with fail
              rw [← hwq]
              clear hb0 hb1 hb2 hb3 hwq
              obtain ⟨bq, hbq⟩ : ∃ bq, bq = decide (p1 = p) := ⟨_, rfl⟩
              have HBb := Lib.hid hbq
              clear hbq
              have hdec : ((p1 : Int) == (p : Int)) = bq := by
                rw [HBb.out]
                by_cases e : p1 = p
                · rw [decide_eq_true e, e]; exact beq_self_eq_true _
                · rw [decide_eq_false e]; exact ne_beq e
              go_quiet (fail)
              have hn2 : (wq.drewN nq).cell? ⟨wy.heap.size, 1, none⟩ = some (.string s1) := hn1
              clear hn0 hn1 hc2 hdec
              cases bq with
              | true =>
                have hst : Rad.wait p s0 ((Rad.ws K').take (j + 1)) = s1 := by rw [HSt.out]; exact if_pos (of_decide_eq_true HBb.out.symm)
                have HS2 := Lib.hid hst
                clear hst
                go_wp2
                go_roundw
                case rel => exact ⟨j + 1, by omega, by go_num, by rw [HS2.out], Lib.hid (HBq.out.drewN nq), Lib.hid (HDq.out.drw ⟨nq, rfl⟩), Lib.hid (HOq.out.drewN nq)⟩
                case measure => simp [intOf]; omega
              | false =>
                have hst : Rad.wait p s0 ((Rad.ws K').take (j + 1)) = Rad.wait p s0 ((Rad.ws K').take j) := by rw [HSt.out]; exact if_neg (of_decide_eq_false HBb.out.symm)
                have HS2 := Lib.hid hst
                clear hst hn2
                go_wp2
                go_roundw
                case rel => exact ⟨j + 1, by omega, by go_num, by rw [HS2.out], Lib.hid (HBq.out.drewN nq), Lib.hid (HDq.out.drw ⟨nq, rfl⟩), Lib.hid (HOq.out.drewN nq)⟩
                case measure => simp [intOf]; omega
            · obtain rfl : j = q := by omega
              obtain ⟨old, hold⟩ : ∃ old, old = Rad.wait p s0 ((Rad.ws K').take j) := ⟨_, rfl⟩
              rw [← hold]
              have HOld : Hid (old = (Rad.lay (Rad.ws K') D.safe).getD p ⟨#[]⟩) := Lib.hid (by
                have h := HWl.out
                rw [hold, List.take_of_length_le (by omega), ← wait_lay p ⟨#[]⟩ (Rad.ws K') D.safe (by have := HM.out; omega), List.getD_eq_getElem?_getD, HS0.out]; rfl)
              have HOs : Hid (old.size = 64) := Lib.hid (by
                rw [HOld.out]
                refine Rad.lay_full (fun y hy => HF.out.1 _ ?_) HF.out.2 _ (Rad.getD_mem (by rw [Rad.lay_length]; have := HM.out; omega))
                obtain ⟨x, hx, rfl⟩ := List.mem_map.1 hy
                exact HKm.out x (by rw [HK3.out, List.concat_eq_append]; simp [hx]))
              clear hold
              obtain ⟨cb, ob, hcb, hconv, hbm⟩ := bytes_made wy old
              obtain ⟨wd, hwd⟩ : ∃ wd, wd = wy.drew.alloc ob := ⟨_, rfl⟩
              obtain ⟨bm, hbm2⟩ : ∃ bm, bm = wy.heap.size := ⟨_, rfl⟩
              rw [← hwd, ← hbm2] at hconv
              rw [← hwd, ← hbm2] at hbm
              have hos := HOs.out
              rw [hos] at hconv
              obtain ⟨cut, hcut⟩ : ∃ cut, s.extract 0 vv = cut := ⟨_, rfl⟩
              have hcz : cut.size = vv := by rw [← hcut, ByteArray.size_extract]; have := HSs.out; omega
              obtain ⟨we, hcp, hbe, hoe⟩ := hbm.copy 64 cb cut (by omega) (by rw [List.length_append, bl_length, hos]; omega)
              have hbc : bl cut = (bl s).take vv := by rw [← hcut]; simp [bl, ByteArray.data_extract, List.map_take]
              have e1 : bl cut ++ (bl old ++ List.replicate (cb - old.size) 0).drop cut.size = (bl cut ++ (bl old).drop vv) ++ List.replicate (cb - old.size) 0 := by
                rw [hcz, List.drop_append_of_le_length (by rw [bl_length]; omega), List.append_assoc]
              rw [e1] at hbe
              have hl64 : (bl cut ++ (bl old).drop vv).length = 64 := by rw [List.length_append, List.length_drop, bl_length, bl_length]; omega
              have hback := conv_back we bm 0 cb (bl cut ++ (bl old).drop vv) ((bl_bytes cut).append (fun x hx => bl_bytes old x (List.mem_of_mem_drop hx))) (Rd.of_blkM hbe)
              rw [hl64] at hback
              have e2 : sb (bl cut ++ (bl old).drop vv) = Rad.cutN s old vv := by unfold Rad.cutN; rw [hbc]
              rw [e2] at hback
              obtain ⟨nw, hnw⟩ : ∃ nw, nw = Rad.cutN s old vv := ⟨_, rfl⟩
              rw [← hnw] at hback
              have HNw := Lib.hid hnw
              have hgb : gl ≠ bm := by have := HBb.out.lt; omega
              have hOe : Onl (one bm) wy we := (((Onl.refl (one bm) wy).drew.alloc ob).trans (by rw [← hwd]; exact hoe) (fun _ _ h => h))
              have HBe : Hid (Blk we gl 157 (wcs (Rad.ws K) ++ ex)) := Lib.hid (HBb.out.onl hOe hgb)
              have hbge : w.heap.size ≤ bm := by have := HOb.out.size; omega
              have HDe : Hid (DskAt we g gs cs o cw D1) := Lib.hid (HDb.out.onl hOe (fun k hk e => by
                have h2 := HLt.out
                have e' : k = bm := e
                rcases hk with rfl | rfl | hk
                · omega
                · omega
                · have := h2.2.2 k hk; omega))
              have HOe : Hid (Onl (one g) w we) := Lib.hid (HOb.out.trans hOe (fun k hk e => by have e' : k = bm := e; omega))
              have hd1 : wd.cell? ⟨gl, j * 2 + 1, none⟩ = some (.string s) := (HBb.out.onl ((Onl.refl non wy).drew.alloc ob) (fun h => h)).cell_pre HX.out.2 |> fun h => by rw [hwd]; exact h
              have hd2 : we.cell? ⟨gl, j * 2 + 1, none⟩ = some (.string s) := HBe.out.cell_pre HX.out.2
              have hfe := HBe.out.free (j * 2 + 1)
              have k1 : ((vv : Nat) : Int) ≤ (s.size : Int) := by have := HSs.out; omega
              have k3 : (0 : Int) ≤ ((vv : Nat) : Int) := by omega
              have HCp := Lib.hid hcp
              clear hcp hbe hbm hoe hbc e1 e2 hnw hOe hwd hbm2 HBb HDb HOb hl64 hb0 hcb hos
              go_wp2_with (refine Lib.wpList_copy_run (o := ⟨some 90, _, _, _, _, _⟩) _ rfl (.tmp 82) (.tmp 89) 57 9 rfl _ _ rfl rfl HCp.out ?_)
              go_meet
              refine ⟨Rad.ws K' ++ [(p, nw)], Lib.hid ⟨?_, ?_, ?_, ?_, ?_, ?_⟩⟩
              · have h1 := HWl.out
                have h2 := HNq.out
                rw [List.length_append, h1, h2]; rfl
              · rw [Rad.lay_snoc]
                unfold Rad.layK
                rw [HK3.out, List.concat_eq_append, List.getLast?_concat, List.dropLast_concat]
                simp only
                rw [HNw.out, HVV.out, HLs.out, HOld.out]
              · intro y hy
                rcases List.mem_append.1 hy with h | h
                · obtain ⟨x, hx, rfl⟩ := List.mem_map.1 h
                  exact HI.out _ (HKm.out x (by rw [HK3.out, List.concat_eq_append]; simp [hx]))
                · rw [List.mem_singleton.1 h]; have h1 := HPm.out; have h2 := HM.out; show p < _; omega
              · have h := HBe.out.set_pre (i := j * 2 + 1) (by rw [wcs_length, HWs.out, List.length_append, HWl.out]; simp; omega) (.string nw)
                have hex : (wcs (Rad.ws K') ++ wcs [(p, s)]).set (j * 2 + 1) (.string nw) = wcs (Rad.ws K') ++ wcs [(p, nw)] := by
                  have hwl : (wcs (Rad.ws K')).length = j * 2 := by rw [wcs_length, HWl.out]
                  rw [List.set_append_right _ _ (by omega), hwl, Nat.add_sub_cancel_left]; rfl
                rw [HLK.out, hex, ← wcs_append] at h
                have hn := HNq.out
                have hwl : (wcs (Rad.ws K' ++ [(p, nw)])).length = N * 2 := by rw [wcs_length, List.length_append, HWl.out, hn]; rfl
                have hwl2 : (wcs (Rad.ws K)).length = N * 2 := by rw [wcs_length, HWs.out, List.length_append, HWl.out, hn]; rfl
                refine Own.of_blk h HLtO.out hwl ?_ hNc hcm
                rw [List.length_append, hwl, ← hwl2, ← List.length_append]; assumption
              · exact HDe.out.onl ((Onl.refl (one gl) _).set _ _ (fun _ => rfl)) (fun k hk e => by
                  have h2 := HLt.out
                  have e' : k = gl := e
                  rcases hk with rfl | rfl | hk
                  · omega
                  · omega
                  · have := h2.2.2 k hk; omega)
              · exact HOe.out.set _ _ (fun hlt => absurd hlt (Nat.not_lt.2 HLtO.out))
      case rest =>
        obtain ⟨L, HC⟩ := hcut
        clear H1 HL HO
        have HSet : Hid (Calls Try.prog 114 #[.pointer (some ⟨g, 0, none⟩), .slice ol N cl] wc fun e w' => e = .returned (.tuple #[]) ∧ DskAt w' g gs cs o cw ⟨Rad.layK K D.safe, [], true, 0, fl⟩ ∧ Onl (dskOf g gs o) wc w') := Lib.hid (by
          obtain ⟨h1, h2, h3, h4, h5, _⟩ := HC.out
          have hs : DskAt wc g gs cs o cw ⟨D.safe, D.waits, true, 0, fl⟩ := by rw [← HD1.out]; exact h5
          have h := settle114 g gs cs o cw _ ol cl L wc hs (by rw [h1]; exact h4.mono (fun _ _ => Nat.zero_le _)) (by rw [h1]; omega) h3 (fun hk => by have h6 := (h4.lt _ hk).1; have := HLt.out.1; omega) (fun hk => by have h6 := (h4.lt _ hk).1; have := HLt.out.2.1; omega)
          rw [h1] at h
          have e : (⟨D.safe, D.waits, true, 0, fl⟩ : Dsk).settle L = ⟨Rad.layK K D.safe, [], true, 0, fl⟩ := by unfold Rad.Dsk.settle; rw [h2]
          rw [e] at h
          exact h)
        go_wp2_with fail
        refine HSet.out.mono ?_
        rintro e w2 ⟨rfl, hd2, ho2⟩
        have c2 := hd2.c2
        have f2 := hd2.disk.free 2
        have HD2 := Lib.hid hd2
        have HO2 := Lib.hid ho2
        clear hd2 ho2 HSet
        go_wp2
        refine bodyPost_end (v := .tuple #[]) (by simp [results, Try.results58, go_sem]) rfl ⟨rfl, ?_, ?_⟩
        · rw [HRe.out]
          exact HD2.out.put 2 (.bool false) (D' := ⟨Rad.layK K D.safe, [], false, 0, fl⟩) rfl rfl rfl
        · exact ((HC.out.2.2.2.2.2.mono (fun k hk => .inl hk)).trans HO2.out (fun _ _ h => h)).set ⟨g, 2, none⟩ _ (fun _ => .inl rfl)
end Go.Proofs.Ytenngchidlfaeaa
/- Things apart in memory: a list of them, each in blocks of its own, all new since a world. -/
namespace Go.Proofs.Ytenngchidlfaeaa
open Go.RowKit

/-- a thing in memory: where it lies, that it lies in memory, that it stays where its blocks stay -/
structure Rs where
  at_ : World → (Nat → Prop) → Prop
  lt : ∀ {w : World} {A : Nat → Prop}, at_ w A → ∀ k, A k → k < w.heap.size
  onl : ∀ {w w' : World} {A S : Nat → Prop}, at_ w A → Onl S w w' → (∀ k, A k → ¬ S k) → at_ w' A
/-- things apart -/
def Sep (w : World) : List Rs → (Nat → Prop) → Prop
  | [], F => ∀ k, ¬ F k
  | r :: l, F => ∃ A B, r.at_ w A ∧ Sep w l B ∧ (∀ k, A k → ¬ B k) ∧ ∀ k, F k ↔ A k ∨ B k
/-- what a step on a thing leaves -/
def Moved (w : World) (A : Nat → Prop) (r : Rs) (w' : World) : Prop := ∃ A', r.at_ w' A' ∧ (∀ k, A' k → A k ∨ w.heap.size ≤ k) ∧ Onl A w w'
theorem Sep.lt {w : World} : ∀ {l : List Rs} {F : Nat → Prop}, Sep w l F → ∀ k, F k → k < w.heap.size
  | [], _, h, k, hk => absurd hk (h k)
  | r :: l, F, ⟨A, B, h1, h2, h3, h4⟩, k, hk => by
    rcases (h4 k).1 hk with h | h
    · exact r.lt h1 k h
    · exact Sep.lt h2 k h
theorem Sep.onl {w w' : World} {S : Nat → Prop} (ho : Onl S w w') : ∀ {l : List Rs} {F : Nat → Prop}, Sep w l F → (∀ k, F k → ¬ S k) → Sep w' l F
  | [], _, h, _ => h
  | r :: _l, _F, ⟨A, B, h1, h2, h3, h4⟩, hs => ⟨A, B, r.onl h1 ho (fun k hk => hs k ((h4 k).2 (.inl hk))), Sep.onl ho h2 (fun k hk => hs k ((h4 k).2 (.inr hk))), h3, h4⟩
/-- one thing taken out, another put in -/
theorem Sep.take {w : World} {r : Rs} {l2 : List Rs} : ∀ {l1 : List Rs} {F : Nat → Prop}, Sep w (l1 ++ r :: l2) F → ∃ A, r.at_ w A ∧ (∀ k, A k → F k) ∧
    ∀ {r' : Rs} {w' : World}, Moved w A r' w' → ∃ F', Sep w' (l1 ++ r' :: l2) F' ∧ (∀ k, F' k → F k ∨ w.heap.size ≤ k) ∧ Onl F w w'
  | [], F, ⟨A, B, h1, h2, h3, h4⟩ => by
    refine ⟨A, h1, fun k hk => (h4 k).2 (.inl hk), fun {r' w'} ⟨A', m1, m2, m3⟩ => ?_⟩
    refine ⟨fun k => A' k ∨ B k, ⟨A', B, m1, Sep.onl m3 h2 (fun k hk ha => h3 k ha hk), fun k hk hb => ?_, fun _ => Iff.rfl⟩, fun k hk => ?_, m3.mono (fun k hk => (h4 k).2 (.inl hk))⟩
    · rcases m2 k hk with h | h
      · exact h3 k h hb
      · exact absurd (Sep.lt h2 k hb) (Nat.not_lt.2 h)
    · rcases hk with h | h
      · rcases m2 k h with h | h
        · exact .inl ((h4 k).2 (.inl h))
        · exact .inr h
      · exact .inl ((h4 k).2 (.inr h))
  | q :: l1, F, ⟨A, B, h1, h2, h3, h4⟩ => by
    obtain ⟨A0, t1, t2, t3⟩ := Sep.take (l1 := l1) h2
    refine ⟨A0, t1, fun k hk => (h4 k).2 (.inr (t2 k hk)), fun {r' w'} hm => ?_⟩
    obtain ⟨F', s1, s2, s3⟩ := t3 hm
    obtain ⟨A', m1, m2, mo⟩ := hm
    refine ⟨fun k => A k ∨ F' k, ⟨A, F', q.onl h1 mo (fun k hk ha => h3 k hk (t2 k ha)), s1, fun k hk hf => ?_, fun _ => Iff.rfl⟩, fun k hk => ?_, s3.mono (fun k hk => (h4 k).2 (.inr hk))⟩
    · rcases s2 k hf with h | h
      · exact h3 k hk h
      · exact absurd (q.lt h1 k hk) (Nat.not_lt.2 h)
    · rcases hk with h | h
      · exact .inl ((h4 k).2 (.inl h))
      · rcases s2 k h with h | h
        · exact .inl ((h4 k).2 (.inr h))
        · exact .inr h
/-- the state of a walk: nothing of W has turned; these things lie apart, in new blocks -/
def St (W w : World) (l : List Rs) : Prop := Onl non W w ∧ ∃ F, Sep w l F ∧ ∀ k, F k → W.heap.size ≤ k
theorem St.start (W : World) : St W W [] := ⟨Onl.refl _ _, fun _ => False, fun _ h => h, fun _ h => h.elim⟩
theorem St.base {W w : World} {l : List Rs} (h : St W w l) : Onl non W w := h.1
theorem St.onl {W w w' : World} {l : List Rs} (h : St W w l) (ho : Onl non w w') : St W w' l := by
  obtain ⟨h1, F, h2, h3⟩ := h
  exact ⟨h1.trans ho (fun _ _ h => h), F, h2.onl ho (fun _ _ h => h), h3⟩
theorem St.alloc {W w : World} {l : List Rs} (h : St W w l) (o : Obj) : St W (w.alloc o) l := h.onl ((Onl.refl _ _).alloc o)
theorem St.drewN {W w : World} {l : List Rs} (h : St W w l) (n : Nat) : St W (w.drewN n) l := h.onl ((Onl.refl _ _).drewN n)
theorem St.drw {W w w' : World} {l : List Rs} (h : St W w l) (hd : Drw w w') : St W w' l := h.onl ((Onl.refl _ _).of_drw hd)
theorem St.get {W w : World} {l1 l2 : List Rs} {r : Rs} (h : St W w (l1 ++ r :: l2)) : ∃ A, r.at_ w A ∧ (∀ k, A k → W.heap.size ≤ k) := by
  obtain ⟨h1, F, h2, h3⟩ := h
  obtain ⟨A, t1, t2, _⟩ := Sep.take h2
  exact ⟨A, t1, fun k hk => h3 k (t2 k hk)⟩
theorem St.step {W w : World} (l1 : List Rs) {l2 : List Rs} {r r' : Rs} {w' : World} (h : St W w (l1 ++ r :: l2)) (hm : ∀ A, r.at_ w A → Moved w A r' w') : St W w' (l1 ++ r' :: l2) := by
  obtain ⟨h1, F, h2, h3⟩ := h
  obtain ⟨A, t1, t2, t3⟩ := Sep.take h2
  obtain ⟨F', s1, s2, s3⟩ := t3 (hm A t1)
  refine ⟨h1.trans s3 (fun k hk hf => absurd hk (Nat.not_lt.2 (h3 k hf))), F', s1, fun k hk => ?_⟩
  rcases s2 k hk with h | h
  · exact h3 k h
  · exact Nat.le_trans h1.size h
/-- a call that moves one thing -/
theorem St.call {W w : World} (l1 : List Rs) {l2 : List Rs} {r : Rs} {P : Program} {f : FuncId} {args : Array Value} (h : St W w (l1 ++ r :: l2)) {e0 : Ending → Prop} {r' : Rs}
    (hm : ∀ A, r.at_ w A → Calls P f args w fun e w' => e0 e ∧ Moved w A r' w') : Calls P f args w fun e w' => e0 e ∧ St W w' (l1 ++ r' :: l2) := by
  obtain ⟨h1, F, h2, h3⟩ := h
  obtain ⟨A, t1, t2, t3⟩ := Sep.take h2
  refine (hm A t1).mono fun e w' ⟨he, hmv⟩ => ⟨he, ?_⟩
  obtain ⟨F', s1, s2, s3⟩ := t3 hmv
  refine ⟨h1.trans s3 (fun k hk hf => absurd hk (Nat.not_lt.2 (h3 k hf))), F', s1, fun k hk => ?_⟩
  rcases s2 k hk with h | h
  · exact h3 k h
  · exact Nat.le_trans h1.size h
/-- a new thing -/
theorem St.add {W w w' : World} {l : List Rs} (h : St W w l) {r : Rs} {A : Nat → Prop} (ho : Onl non w w') (hr : r.at_ w' A) (hn : ∀ k, A k → w.heap.size ≤ k) : St W w' (r :: l) := by
  obtain ⟨h1, F, h2, h3⟩ := h
  refine ⟨h1.trans ho (fun _ _ h => h), fun k => A k ∨ F k, ⟨A, F, hr, h2.onl ho (fun _ _ h => h), fun k ha hf => absurd (h2.lt k hf) (Nat.not_lt.2 (hn k ha)), fun _ => Iff.rfl⟩, fun k hk => ?_⟩
  rcases hk with h | h
  · exact Nat.le_trans h1.size (hn k h)
  · exact h3 k h
theorem Sep.drop {w : World} {r : Rs} {l2 : List Rs} : ∀ {l1 : List Rs} {F : Nat → Prop}, Sep w (l1 ++ r :: l2) F → ∃ F', Sep w (l1 ++ l2) F' ∧ ∀ k, F' k → F k
  | [], F, ⟨A, B, h1, h2, h3, h4⟩ => ⟨B, h2, fun k hk => (h4 k).2 (.inr hk)⟩
  | q :: l1, F, ⟨A, B, h1, h2, h3, h4⟩ => by
    obtain ⟨F', s1, s2⟩ := Sep.drop (l1 := l1) h2
    refine ⟨fun k => A k ∨ F' k, ⟨A, F', h1, s1, fun k ha hf => h3 k ha (s2 k hf), fun _ => Iff.rfl⟩, fun k hk => ?_⟩
    rcases hk with h | h
    · exact (h4 k).2 (.inl h)
    · exact (h4 k).2 (.inr (s2 k h))
theorem St.drop {W w : World} (l1 : List Rs) {l2 : List Rs} {r : Rs} (h : St W w (l1 ++ r :: l2)) : St W w (l1 ++ l2) := by
  obtain ⟨h1, F, h2, h3⟩ := h
  obtain ⟨F', s1, s2⟩ := h2.drop
  exact ⟨h1, F', s1, fun k hk => h3 k (s2 k hk)⟩
/-- a thing told otherwise -/
theorem St.as {W w : World} (l1 : List Rs) {l2 : List Rs} {r r' : Rs} (h : St W w (l1 ++ r :: l2)) (hr : ∀ A, r.at_ w A → r'.at_ w A) : St W w (l1 ++ r' :: l2) :=
  h.step l1 (fun A ha => ⟨A, hr A ha, fun _ hk => .inl hk, Onl.refl _ _⟩)

/-- a block known whole -/
def blkR (g : Nat) (t : TypeId) (cs : List Value) : Rs where
  at_ := fun w A => Blk w g t cs ∧ ∀ k, A k ↔ k = g
  lt := fun {w A} ⟨h, ha⟩ k hk => by rw [(ha k).1 hk]; exact h.lt
  onl := fun {w w' A S} ⟨h, ha⟩ ho hs => ⟨h.onl ho (hs g ((ha g).2 rfl)), ha⟩
/-- a row that is owned -/
def ownR (e : TypeId) (size : Nat) (o : Option Addr) (n c : Nat) (xs : List Value) : Rs where
  at_ := fun w A => Own w 0 e size o n c xs ∧ ∀ k, A k ↔ ownOf o k
  lt := fun {_w _A} ⟨h, ha⟩ k hk => (h.lt k ((ha k).1 hk)).2
  onl := fun {_w _w' _A _S} ⟨h, ha⟩ ho hs => ⟨h.onl ho (fun k hk => hs k ((ha k).2 hk)), ha⟩
/-- the program's disk -/
def dskR (g : Nat) (D : Rad.Dsk) : Rs where
  at_ := fun w A => DM w A g D
  lt := fun h _ hk => h.lt hk
  onl := fun h ho hs => h.onl ho hs
/-- a book on its disk -/
def machR (g gd : Nat) (D : Rad.Dsk) (B : Bk) : Rs where
  at_ := fun w A => Mach w A g gd D B
  lt := fun h _ hk => h.lt hk
  onl := fun h ho hs => h.onl ho hs
theorem St.blk {W w : World} {l1 l2 : List Rs} {g : Nat} {t : TypeId} {cs : List Value} (h : St W w (l1 ++ blkR g t cs :: l2)) : Blk w g t cs := by
  obtain ⟨A, h, _⟩ := h.get; exact h.1
theorem St.own {W w : World} {l1 l2 : List Rs} {e : TypeId} {size : Nat} {o : Option Addr} {n c : Nat} {xs : List Value} (h : St W w (l1 ++ ownR e size o n c xs :: l2)) : Own w 0 e size o n c xs := by
  obtain ⟨A, h, _⟩ := h.get; exact h.1
theorem St.newBlk {W w : World} {l : List Rs} (h : St W w l) (t : TypeId) (cs : List Value) : St W (w.alloc (.cells cs.toArray t)) (blkR w.heap.size t cs :: l) :=
  h.add ((Onl.refl _ _).alloc _) (A := fun k => k = w.heap.size) ⟨Blk.new w t cs, fun _ => Iff.rfl⟩ (fun k hk => by rw [hk]; exact Nat.le_refl _)
end Go.Proofs.Ytenngchidlfaeaa
/- What is done with disks, told of things apart. -/
namespace Rad
open Go.Proofs.Ytenngchidlfaeaa
theorem Fits.arm {D : Dsk} {N : Nat} (h : Fits D N) {n : Int} (hn : n ≤ 9223372036854775807) : Fits (D.arm n) N := ⟨h.1, h.2.1, by show n.toNat < _; omega⟩
theorem Fits.restart {D : Dsk} {N : Nat} (h : Fits D N) (b : List Nat) : Fits (D.restart b) (N + 1) := by
  refine ⟨?_, Nat.zero_le _, by show 0 < _; omega⟩
  have := h.1
  show (if D.off then D.falls else D.falls + 1) ≤ N + 1
  split <;> omega
theorem Dsk.Full.strike {D : Dsk} (h : D.Full) : D.strike.Full := by
  refine ⟨?_, ?_⟩
  · rw [Dsk.strike_waits]; exact h.1
  · rw [Dsk.strike_safe]; exact h.2
theorem Dsk.Full.write {D : Dsk} (h : D.Full) (i : Int) (s : ByteArray) : (D.write i s).Full := by
  unfold Dsk.write
  (repeat' split) <;> try exact h
  rename_i hs
  refine Dsk.Full.strike ⟨fun p hp => ?_, h.2⟩
  rcases List.mem_append.1 hp with h1 | h1
  · exact h.1 p h1
  · rw [List.mem_singleton.1 h1]; exact hs
theorem Dsk.Full.sync {D : Dsk} (h : D.Full) : D.sync.Full := by
  unfold Dsk.sync
  (repeat' split) <;> try first | exact h | exact h.strike
  refine ⟨fun p hp => (by cases hp), fun s hs => ?_⟩
  have hs' : s ∈ lay D.waits D.strike.safe := hs
  rw [Dsk.strike_safe] at hs'
  exact lay_full h.1 h.2 s hs'
theorem Dsk.Full.arm {D : Dsk} (h : D.Full) (n : Int) : (D.arm n).Full := h
end Rad
namespace Go.Proofs.Ytenngchidlfaeaa
open Go.RowKit
open Rad (Dsk)

theorem newD_fits (n : Nat) : Fits (newD n) 0 := ⟨Nat.le_refl _, Nat.le_refl _, by show (0 : Nat) < _; omega⟩
theorem newD_full (n : Nat) : (newD n).Full := ⟨fun p hp => (by cases hp), fun s hs => by rw [List.eq_of_mem_replicate hs]; unfold zer; rw [sb_size, List.length_replicate]⟩
theorem newD_len (n : Nat) : (newD n).safe.length = n := by simp [newD]
/-- the reference's disk alone -/
def RDM (w : World) (F : Nat → Prop) (gd : Nat) (D : Dsk) : Prop := ∃ gs cs o cw, RDskAt w gd gs cs o cw D ∧ ∀ k, F k ↔ dskOf gd gs o k
theorem RDskAt.lt {w : World} {g gs cs : Nat} {o : Option Addr} {cw : Nat} {D : Dsk} (h : RDskAt w g gs cs o cw D) {k : Nat} (hk : dskOf g gs o k) : k < w.heap.size := by
  obtain ⟨ex, he⟩ := h.safe
  rcases hk with rfl | rfl | hk
  · exact h.disk.lt
  · exact he.lt
  · exact (h.waits.lt k hk).2
def rdskR (g : Nat) (D : Dsk) : Rs where
  at_ := fun w A => RDM w A g D
  lt := fun ⟨_, _, _, _, h1, h2⟩ k hk => h1.lt ((h2 k).1 hk)
  onl := fun ⟨gs, cs, o, cw, h1, h2⟩ ho hs => ⟨gs, cs, o, cw, h1.onl ho (fun k hk => hs k ((h2 k).2 hk)), h2⟩
section
variable {W w : World} {l1 l2 : List Rs} {g : Nat} {D : Dsk}
theorem St.up (h : St W w (l1 ++ dskR g D :: l2)) : Calls Try.prog 60 #[.pointer (some ⟨g, 0, none⟩)] w fun e w' => e = .returned (.bool (!D.off)) ∧ w = w' := by
  obtain ⟨A, ⟨gs, cs, o, cw, hd, hA⟩, _⟩ := h.get
  exact Up60 g gs cs o cw D w hd
theorem St.rup (h : St W w (l1 ++ rdskR g D :: l2)) : Calls Try.prog 61 #[.pointer (some ⟨g, 0, none⟩)] w fun e w' => e = .returned (.bool (!D.off)) ∧ w = w' := by
  obtain ⟨A, ⟨gs, cs, o, cw, hd, hA⟩, _⟩ := h.get
  exact RUp61 g gs cs o cw D w hd
theorem St.sectors (h : St W w (l1 ++ dskR g D :: l2)) : Calls Try.prog 62 #[.pointer (some ⟨g, 0, none⟩)] w fun e w' => e = .returned (.int .i64 (D.safe.length : Int)) ∧ w = w' := by
  obtain ⟨A, ⟨gs, cs, o, cw, hd, hA⟩, _⟩ := h.get
  exact Sectors62 g gs cs o cw D w hd
theorem St.rsectors (h : St W w (l1 ++ rdskR g D :: l2)) : Calls Try.prog 63 #[.pointer (some ⟨g, 0, none⟩)] w fun e w' => e = .returned (.int .i64 (D.safe.length : Int)) ∧ w = w' := by
  obtain ⟨A, ⟨gs, cs, o, cw, hd, hA⟩, _⟩ := h.get
  exact RSectors63 g gs cs o cw D w hd
theorem St.read {N : Nat} (h : St W w (l1 ++ dskR g D :: l2)) (hf : Fits D N) (hN : N ≤ 30000000) (i : Int) (hi : -9223372036854775808 ≤ i ∧ i ≤ 9223372036854775807) :
    Calls Try.prog 54 #[.pointer (some ⟨g, 0, none⟩), .int .i64 i] w fun e w' => e = .returned (.tuple #[.string (D.get i), .int .i64 (D.getE i)]) ∧ Onl non w w' := by
  obtain ⟨A, ⟨gs, cs, o, cw, hd, hA⟩, _⟩ := h.get
  exact Read54 g gs cs o cw D i w hd hi (by have := hf.2.1; omega)
theorem St.rread {N : Nat} (h : St W w (l1 ++ rdskR g D :: l2)) (hf : Fits D N) (hN : N ≤ 30000000) (i : Int) (hi : -9223372036854775808 ≤ i ∧ i ≤ 9223372036854775807) :
    Calls Try.prog 55 #[.pointer (some ⟨g, 0, none⟩), .int .i64 i] w fun e w' => e = .returned (.tuple #[.string (D.get i), .int .i64 (D.getE i)]) ∧ Onl non w w' := by
  obtain ⟨A, ⟨gs, cs, o, cw, hd, hA⟩, _⟩ := h.get
  exact RRead55 g gs cs o cw D i w hd hi (by have := hf.2.1; omega)
theorem dsk_moved {gs o o' : _} {A : Nat → Prop} (hA : ∀ k, A k ↔ dskOf g gs o k) (hk : ∀ k, ownOf o' k → ownOf o k ∨ w.heap.size ≤ k) : ∀ k, dskOf g gs o' k → A k ∨ w.heap.size ≤ k := fun k h => by
  rcases h with rfl | rfl | h
  · exact .inl ((hA _).2 (.inl rfl))
  · exact .inl ((hA _).2 (.inr (.inl rfl)))
  · rcases hk k h with h | h
    · exact .inl ((hA _).2 (.inr (.inr h)))
    · exact .inr h
theorem St.write {N : Nat} (h : St W w (l1 ++ dskR g D :: l2)) (hf : Fits D N) (hN : N ≤ 30000000) (i : Int) (hi : -9223372036854775808 ≤ i ∧ i ≤ 9223372036854775807) (s : ByteArray) (hs : s.size ≤ 9223372036854775807) :
    Calls Try.prog 49 #[.pointer (some ⟨g, 0, none⟩), .int .i64 i, .string s] w fun e w' => e = .returned (.int .i64 (D.writeE i s)) ∧ St W w' (l1 ++ dskR g (D.write i s) :: l2) := by
  refine h.call l1 (r' := dskR g (D.write i s)) (fun A ⟨gs, cs, o, cw, hd, hA⟩ => ?_)
  refine (Write49 g gs cs o cw D i s w hd (by have := hf.1; omega) hf.2.2 (by have := hf.2.1; omega) hi hs).mono fun e w' ⟨he, o', cw', hd', ho, hk⟩ => ⟨he, dskOf g gs o', ⟨gs, cs, o', cw', hd', fun _ => Iff.rfl⟩, dsk_moved hA hk, ho.mono (fun k hk => (hA k).2 hk)⟩
theorem St.rwrite {N : Nat} (h : St W w (l1 ++ rdskR g D :: l2)) (hf : Fits D N) (hN : N ≤ 30000000) (i : Int) (hi : -9223372036854775808 ≤ i ∧ i ≤ 9223372036854775807) (s : ByteArray) (hs : s.size ≤ 9223372036854775807) :
    Calls Try.prog 51 #[.pointer (some ⟨g, 0, none⟩), .int .i64 i, .string s] w fun e w' => e = .returned (.int .i64 (D.writeE i s)) ∧ St W w' (l1 ++ rdskR g (D.write i s) :: l2) := by
  refine h.call l1 (r' := rdskR g (D.write i s)) (fun A ⟨gs, cs, o, cw, hd, hA⟩ => ?_)
  refine (RWrite51 g gs cs o cw D i s w hd (by have := hf.1; omega) hf.2.2 (by have := hf.2.1; omega) hi hs).mono fun e w' ⟨he, o', cw', hd', ho, hk⟩ => ⟨he, dskOf g gs o', ⟨gs, cs, o', cw', hd', fun _ => Iff.rfl⟩, dsk_moved hA hk, ho.mono (fun k hk => (hA k).2 hk)⟩
theorem St.sync {N : Nat} (h : St W w (l1 ++ dskR g D :: l2)) (hf : Fits D N) (hN : N ≤ 30000000) :
    Calls Try.prog 52 #[.pointer (some ⟨g, 0, none⟩)] w fun e w' => e = .returned (.int .i64 D.syncE) ∧ St W w' (l1 ++ dskR g D.sync :: l2) := by
  refine h.call l1 (r' := dskR g D.sync) (fun A ⟨gs, cs, o, cw, hd, hA⟩ => ?_)
  refine (Sync52 g gs cs o cw D w hd (by have := hf.1; omega) hf.2.2 (by have := hf.2.1; omega)).mono fun e w' ⟨he, hd', ho⟩ => ⟨he, dskOf g gs o, ⟨gs, cs, o, cw, hd', fun _ => Iff.rfl⟩, dsk_moved hA (fun _ h => .inl h), ho.mono (fun k hk => (hA k).2 hk)⟩
theorem St.rsync {N : Nat} (h : St W w (l1 ++ rdskR g D :: l2)) (hf : Fits D N) (hN : N ≤ 30000000) :
    Calls Try.prog 53 #[.pointer (some ⟨g, 0, none⟩)] w fun e w' => e = .returned (.int .i64 D.syncE) ∧ St W w' (l1 ++ rdskR g D.sync :: l2) := by
  refine h.call l1 (r' := rdskR g D.sync) (fun A ⟨gs, cs, o, cw, hd, hA⟩ => ?_)
  refine (RSync53 g gs cs o cw D w hd (by have := hf.1; omega) hf.2.2 (by have := hf.2.1; omega)).mono fun e w' ⟨he, ⟨o', cw', hd', hk⟩, ho⟩ => ⟨he, dskOf g gs o', ⟨gs, cs, o', cw', hd', fun _ => Iff.rfl⟩, dsk_moved hA (fun k h => .inl (hk k h)), ho.mono (fun k hk => (hA k).2 hk)⟩
theorem St.arm (h : St W w (l1 ++ dskR g D :: l2)) (n : Int) :
    Calls Try.prog 56 #[.pointer (some ⟨g, 0, none⟩), .int .i64 n] w fun e w' => e = .returned (.tuple #[]) ∧ St W w' (l1 ++ dskR g (D.arm n) :: l2) := by
  refine h.call l1 (r' := dskR g (D.arm n)) (fun A ⟨gs, cs, o, cw, hd, hA⟩ => ?_)
  refine (Arm56 g gs cs o cw D n w hd).mono fun e w' ⟨he, hd', ho⟩ => ⟨he, dskOf g gs o, ⟨gs, cs, o, cw, hd', fun _ => Iff.rfl⟩, dsk_moved hA (fun _ h => .inl h), ho.mono (fun k hk => (hA k).2 (.inl hk))⟩
theorem St.rarm (h : St W w (l1 ++ rdskR g D :: l2)) (n : Int) :
    Calls Try.prog 57 #[.pointer (some ⟨g, 0, none⟩), .int .i64 n] w fun e w' => e = .returned (.tuple #[]) ∧ St W w' (l1 ++ rdskR g (D.arm n) :: l2) := by
  refine h.call l1 (r' := rdskR g (D.arm n)) (fun A ⟨gs, cs, o, cw, hd, hA⟩ => ?_)
  refine (RArm57 g gs cs o cw D n w hd).mono fun e w' ⟨he, hd', ho⟩ => ⟨he, dskOf g gs o, ⟨gs, cs, o, cw, hd', fun _ => Iff.rfl⟩, dsk_moved hA (fun _ h => .inl h), ho.mono (fun k hk => (hA k).2 (.inl hk))⟩
theorem St.restart {N : Nat} (h : St W w (l1 ++ dskR g D :: l2)) (hf : Fits D N) (hN : N ≤ 30000000) (hF : D.Full) (kp : ByteArray) (hk : kp.size ≤ 9223372036854775807) :
    Calls Try.prog 58 #[.pointer (some ⟨g, 0, none⟩), .string kp] w fun e w' => e = .returned (.tuple #[]) ∧ St W w' (l1 ++ dskR g (D.restart (bl kp)) :: l2) := by
  refine h.call l1 (r' := dskR g (D.restart (bl kp))) (fun A ⟨gs, cs, o, cw, hd, hA⟩ => ?_)
  refine (Restart58 g gs cs o cw D kp w hd hF (by have := hf.1; omega) (by have := hf.2.1; omega) hk).mono fun e w' ⟨he, hd', ho⟩ => ⟨he, dskOf g gs o, ⟨gs, cs, o, cw, hd', fun _ => Iff.rfl⟩, dsk_moved hA (fun _ h => .inl h), ho.mono (fun k hk => (hA k).2 hk)⟩
theorem St.rrestart {N : Nat} (h : St W w (l1 ++ rdskR g D :: l2)) (hf : Fits D N) (hN : N ≤ 30000000) (hF : D.Full) (kp : ByteArray) (hk : kp.size ≤ 9223372036854775807) :
    Calls Try.prog 59 #[.pointer (some ⟨g, 0, none⟩), .string kp] w fun e w' => e = .returned (.tuple #[]) ∧ St W w' (l1 ++ rdskR g (D.restart (bl kp)) :: l2) := by
  refine h.call l1 (r' := rdskR g (D.restart (bl kp))) (fun A ⟨gs, cs, o, cw, hd, hA⟩ => ?_)
  refine (RRestart59 g gs cs o cw D kp w hd hF (by have := hf.1; omega) (by have := hf.2.1; omega) hk).mono fun e w' ⟨he, hd', ho⟩ => ⟨he, dskOf g gs none, ⟨gs, cs, none, 0, hd', fun _ => Iff.rfl⟩, dsk_moved hA (fun _ h => by cases h), ho.mono (fun k hk => (hA k).2 hk)⟩
set_option maxRecDepth 100000 in
set_option maxHeartbeats 1000000 in
/-- the law's equalDisks, of two disks of one model -/
theorem equalDisks64 {m1 m2 : List Rs} {gr N : Nat} (h : St W w (l1 ++ dskR g D :: l2)) (h2 : St W w (m1 ++ rdskR gr D :: m2)) (hf : Fits D N) (hN : N ≤ 30000000) :
    Calls Try.prog 64 #[.pointer (some ⟨g, 0, none⟩), .pointer (some ⟨gr, 0, none⟩)] w fun e w' => e = .returned (.bool true) ∧ Onl non w w' := by
  have HM : Hid (D.safe.length ≤ 4096) := Lib.hid (by obtain ⟨A, ⟨gs, cs, o, cw, hd, hA⟩, _⟩ := h.get; exact hd.in2)
  have HSec := fun wx (ho : Onl non w wx) => (h.onl ho).sectors
  have HRSec := fun wx (ho : Onl non w wx) => (h2.onl ho).rsectors
  have HUp := fun wx (ho : Onl non w wx) => (h.onl ho).up
  have HRUp := fun wx (ho : Onl non w wx) => (h2.onl ho).rup
  have HRead := fun wx (ho : Onl non w wx) i hi => (h.onl ho).read hf hN i hi
  have HRRead := fun wx (ho : Onl non w wx) i hi => (h2.onl ho).rread hf hN i hi
  obtain ⟨m, hm⟩ : ∃ m, m = D.safe.length := ⟨_, rfl⟩
  rw [← hm] at HSec HRSec HM
  have hm4 := HM.out
  have H1 := Lib.hid HSec
  have H2 := Lib.hid HRSec
  have H3 := Lib.hid HUp
  have H4 := Lib.hid HRUp
  have H5 := Lib.hid HRead
  have H6 := Lib.hid HRRead
  have HO : Hid (Onl non w w) := Lib.hid (Onl.refl _ _)
  clear h h2 hf hN hm HSec HRSec HUp HRUp HRead HRRead
  go_enter Try.func64, Try.ntmps64
  go_wp2_with fail
  refine (H1.out w HO.out).mono ?_
  rintro e w' ⟨rfl, rfl⟩
  go_wp2_with fail
  refine (H2.out w HO.out).mono ?_
  rintro e w' ⟨rfl, rfl⟩
  go_wp2_with fail
  refine (H3.out w HO.out).mono ?_
  rintro e w' ⟨rfl, rfl⟩
  go_wp2_with fail
  refine (H4.out w HO.out).mono ?_
  rintro e w' ⟨rfl, rfl⟩
  go_wp2
  go_loopw [5] (fun x wr => ∃ k : Nat, k ≤ m ∧ x = .int .i64 k ∧ Hid (Onl non w wr)) (fun x _ => m - (intOf x).toNat)
  case atStart => exact ⟨0, by omega, rfl, HO⟩
  case round =>
    clear HO
    obtain ⟨wo, rfl⟩ : ∃ wo : World, wo = wr := ⟨_, rfl⟩
    obtain ⟨k, hk, rfl, HO⟩ := hrel
    by_cases hlt : k < m
    · go_wp2_with fail
      refine (H2.out wo HO.out).mono ?_
      rintro e w' ⟨rfl, rfl⟩
      go_wp2_with fail
      refine (H5.out wo HO.out (k : Int) (by omega)).mono ?_
      rintro e w1 ⟨rfl, ho1⟩
      have HO1 := Lib.hid (HO.out.trans ho1 (fun _ _ h => h))
      clear ho1
      go_wp2_with fail
      refine (H6.out w1 HO1.out (k : Int) (by omega)).mono ?_
      rintro e w2 ⟨rfl, ho2⟩
      have HO2 := Lib.hid (HO1.out.trans ho2 (fun _ _ h => h))
      clear ho2
      go_wp2
      go_roundw
      case rel => exact ⟨k + 1, by omega, by go_num, HO2⟩
      case measure => simp [intOf]; omega
    · go_wp2_with fail
      refine (H2.out wo HO.out).mono ?_
      rintro e w' ⟨rfl, rfl⟩
      go_wp2
      go_ret
      exact ⟨rfl, HO.out⟩
end
theorem St.newDisk {W w : World} {l : List Rs} (h : St W w l) (n : Nat) (h1 : 1 ≤ n) (h2 : n ≤ 4096) :
    Calls Try.prog 47 #[.int .i64 (n : Int)] w fun e w' => ∃ g, e = .returned (.tuple #[.pointer (some ⟨g, 0, none⟩), .int .i64 0]) ∧ St W w' (dskR g (newD n) :: l) := by
  refine (NewDisk47_ok n w h1 h2).mono fun e w' ⟨g, gs, cs, he, hd, ho, hg, hgs⟩ => ⟨g, he, ?_⟩
  refine h.add (A := dskOf g gs none) ho ⟨gs, cs, none, 0, hd, fun _ => Iff.rfl⟩ (fun k hk => ?_)
  rcases hk with rfl | rfl | hk
  · exact hg
  · exact hgs
  · cases hk
theorem St.rnewDisk {W w : World} {l : List Rs} (h : St W w l) (n : Nat) (h1 : 1 ≤ n) (h2 : n ≤ 4096) :
    Calls Try.prog 48 #[.int .i64 (n : Int)] w fun e w' => ∃ g, e = .returned (.tuple #[.pointer (some ⟨g, 0, none⟩), .int .i64 0]) ∧ St W w' (rdskR g (newD n) :: l) := by
  refine (RNewDisk48_ok n w h1 h2).mono fun e w' ⟨g, gs, cs, he, hd, ho, hg, hgs⟩ => ⟨g, he, ?_⟩
  refine h.add (A := dskOf g gs none) ho ⟨gs, cs, none, 0, hd, fun _ => Iff.rfl⟩ (fun k hk => ?_)
  rcases hk with rfl | rfl | hk
  · exact hg
  · exact hgs
  · cases hk
end Go.Proofs.Ytenngchidlfaeaa
/- Arguments that are slices of structs, opened. -/
namespace Go.Proofs.Ytenngchidlfaeaa
open Go.ChangeShapes Go.WideShapes Go.ChangeAt Go.RowKit Go.Deep
section
variable {H : Type} {enc : TypeId × Value → H}
instance : Inhabited Ent := ⟨⟨0, 0, ⟨#[]⟩⟩⟩
/-- a slice of structs of one-cell fields -/
theorem open_rows {W : World} {t e : TypeId} {size : Nat} {tys : Array TypeId} (ht : Try.prog.underlying t = some (.slice e)) (hst : Try.prog.underlying e = some (.struct (Try.prog.fieldsOf e))) (hone : oneCellFields Try.prog (Try.prog.fieldsOf e) = true)
    (hC : Try.prog.cellsOf e = (Try.prog.fieldsOf e).size) (hft : (Try.prog.fieldsOf e).map (·.type) = tys) (hsz : tys.size = size) (hs0 : 0 < size) {fuel : Nat} {cs : List Value} {x : DataW H × List MemPlace} (h : DataW.trod enc Try.prog W 0 (fun _ => true) true fuel t cs = some x) :
    ∃ (ao : Option Addr) (len cap : Nat), cs = [.slice ao len cap] ∧ len ≤ maxLen ∧ ∀ k, k < len → ∃ l : List Value, (∃ g off, ao = some ⟨g, off, none⟩ ∧ ∀ (i : Nat) (c : Value), l[i]? = some c → W.cell? ⟨g, off + k * size + i, none⟩ = some c) ∧
      ∃ n, ∀ (i : Nat) (τ : TypeId), tys[i]? = some τ → ∃ u y, l[i]? = some u ∧ DataW.trod enc Try.prog W 0 (fun _ => true) true n τ [u] = some y := by
  rcases open_slice ht h with ⟨rfl, _⟩ | ⟨a, len, cap, m, n, D, Pl, rfl, _, hl, hm, hmd, _, hel⟩
  · exact ⟨none, 0, 0, rfl, by omega, fun k hk => absurd hk (Nat.not_lt_zero _)⟩
  simp only [if_true] at hmd
  subst hmd
  refine ⟨some a, len, m, rfl, Nat.le_trans hl hm, fun k hk => ?_⟩
  obtain ⟨cs', hcs, htr⟩ := hel k (by omega)
  have hcel : Try.prog.cellsOf e = size := by rw [hC, ← hsz, ← hft, Array.size_map]
  rw [hcel] at hcs
  obtain ⟨_, hlen, hcell⟩ := World.cells?_some hcs
  obtain ⟨hcl, n2, hf⟩ := struct_cells hst hone hC hft htr
  refine ⟨cs', ?_, n2, hf⟩
  obtain ⟨ab, ao, spot⟩ := a
  have hspot : spot = none := by
    obtain ⟨cs0, hcs0, _⟩ := hel 0 (by omega)
    rw [hcel, Nat.zero_mul] at hcs0
    obtain ⟨_, hlen0, hcell0⟩ := World.cells?_some hcs0
    have h0 := hcell0 0 hs0
    rw [List.getElem?_eq_getElem (by omega)] at h0
    simpa [Addr.add] using World.cell?_spot h0
  subst hspot
  refine ⟨ab, ao, rfl, fun i c hc => ?_⟩
  have hi : i < size := by rw [← hlen]; exact (List.getElem?_eq_some_iff.1 hc).1
  have h1 := hcell i hi
  rw [addo, addo] at h1
  rw [h1, hc]
/-- a slice of structs of two numbers and a string -/
theorem open_ents {W : World} {t e : TypeId} (ht : Try.prog.underlying t = some (.slice e)) (hst : Try.prog.underlying e = some (.struct (Try.prog.fieldsOf e))) (hone : oneCellFields Try.prog (Try.prog.fieldsOf e) = true)
    (hC : Try.prog.cellsOf e = (Try.prog.fieldsOf e).size) (hft : (Try.prog.fieldsOf e).map (·.type) = #[3, 3, 9]) {fuel : Nat} {cs : List Value} {x : DataW H × List MemPlace} (h : DataW.trod enc Try.prog W 0 (fun _ => true) true fuel t cs = some x) :
    ∃ (ao : Option Addr) (L : List Ent) (len cap : Nat), cs = [.slice ao len cap] ∧ len = L.length ∧ len ≤ maxLen ∧ RdE W ao L ∧ ∀ e ∈ L, e.fit := by
  obtain ⟨ao, len, cap, rfl, hlm, hall⟩ := open_rows ht hst hone hC hft rfl (by decide) h
  have hE : ∀ k, k < len → ∃ e : Ent, (∃ g off, ao = some ⟨g, off, none⟩ ∧ W.cell? ⟨g, off + k * 3, none⟩ = some (.int .i64 e.o) ∧ W.cell? ⟨g, off + k * 3 + 1, none⟩ = some (.int .i64 e.n) ∧ W.cell? ⟨g, off + k * 3 + 2, none⟩ = some (.string e.b)) ∧ e.fit := by
    intro k hk
    obtain ⟨l, ⟨g, off, ha, hc⟩, n, hf⟩ := hall k hk
    obtain ⟨u0, y0, e0, t0⟩ := hf 0 3 rfl
    obtain ⟨u1, y1, e1, t1⟩ := hf 1 3 rfl
    obtain ⟨u2, y2, e2, t2⟩ := hf 2 9 rfl
    obtain ⟨a, rfl, wa⟩ := cell_int t0
    obtain ⟨b, rfl, wb⟩ := cell_int t1
    obtain ⟨s, rfl, ws⟩ := cell_string t2
    exact ⟨⟨a, b, s⟩, ⟨g, off, ha, hc 0 _ e0, hc 1 _ e1, hc 2 _ e2⟩, wf_range wa, wf_range wb, by have h := ws; unfold maxLen at h; show s.size ≤ _; omega⟩
  obtain ⟨f, hf⟩ := choose_lt hE
  refine ⟨ao, (List.range len).map f, len, cap, rfl, by simp, hlm, fun k e he => ?_, fun e he => ?_⟩
  · have hk : k < len := by have := (List.getElem?_eq_some_iff.1 he).1; simpa using this
    have : e = f k := by simpa [hk] using he.symm
    subst this
    exact (hf k hk).1
  · obtain ⟨k, hk, rfl⟩ := List.mem_map.1 he
    exact (hf k (List.mem_range.1 hk)).2
theorem ftys74 : (Try.prog.fieldsOf 74).map (·.type) = #[3, 3, 9] := by kernel_rfl
theorem fone74 : oneCellFields Try.prog (Try.prog.fieldsOf 74) = true := by kernel_rfl
theorem fcel74 : Try.prog.cellsOf 74 = (Try.prog.fieldsOf 74).size := by kernel_rfl
theorem fund74 : Try.prog.underlying 74 = some (.struct (Try.prog.fieldsOf 74)) := by kernel_rfl
set_option maxRecDepth 100000 in
theorem open_ops {W : World} {base : Nat} {v : Value} {d : DataW H} {p : List MemPlace} (hval : Value.okWide Try.prog W .any base 66 v) (h : DataW.Trod enc Try.prog W 0 (fun _ => true) true 66 v d p) :
    ∃ (ao : Option Addr) (L : List Ent) (len cap : Nat), v = .slice ao len cap ∧ len = L.length ∧ len ≤ maxLen ∧ RdE W ao L ∧ ∀ e ∈ L, e.fit := by
  obtain ⟨a1, len, cap, rfl⟩ := okWide_slice Try.underlying66 hval
  obtain ⟨fuel, hf⟩ := h
  obtain ⟨ao, L, len', cap', hcs, h1, h2, h3, h4⟩ := open_ents Try.underlying66 fund74 fone74 fcel74 ftys74 hf
  simp [Value.cells] at hcs
  obtain ⟨rfl, rfl, rfl⟩ := hcs
  exact ⟨a1, L, len, cap, rfl, h1, h2, h3, h4⟩
set_option maxRecDepth 100000 in
theorem open_entries {W : World} {base : Nat} {v : Value} {d : DataW H} {p : List MemPlace} (hval : Value.okWide Try.prog W .any base 46 v) (h : DataW.Trod enc Try.prog W 0 (fun _ => true) true 46 v d p) :
    ∃ (ao : Option Addr) (L : List Ent) (len cap : Nat), v = .slice ao len cap ∧ len = L.length ∧ len ≤ maxLen ∧ RdE W ao L ∧ ∀ e ∈ L, e.fit := by
  obtain ⟨a1, len, cap, rfl⟩ := okWide_slice Try.underlying46 hval
  obtain ⟨fuel, hf⟩ := h
  obtain ⟨ao, L, len', cap', hcs, h1, h2, h3, h4⟩ := open_ents Try.underlying46 fund42 fone42 fcel42 ftys42 hf
  simp [Value.cells] at hcs
  obtain ⟨rfl, rfl, rfl⟩ := hcs
  exact ⟨a1, L, len, cap, rfl, h1, h2, h3, h4⟩
end
end Go.Proofs.Ytenngchidlfaeaa
