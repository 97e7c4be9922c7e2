/- A7: texts T25 T26 T27 T28 T29 T30 T31, joined. -/
import Derived.Test.YtenngchidlfaeaaA6
import Derived.Test.YtenngchidlfaeaaA4
import Derived.Lib.AppendZeros
/- The book's records: keep, walked. -/
namespace Go.Proofs.Ytenngchidlfaeaa
open Go.RowKit
open Rad (Dsk)

theorem keep_err {D : Dsk} {a : Nat} {p : ByteArray} {pre rest : List Stp} {s : Stp} (hn : ¬ D.safe.length < a + sectorsOf p.size) (hs : recS D.safe.length a p = pre ++ s :: rest) (h : runsE D pre = 0) (h2 : stpE (runs D pre) s ≠ 0) :
    keepE D a p = stpE (runs D pre) s ∧ keepD D a p = stp (runs D pre) s := by
  have := runs_fail_at (b := rest) h h2
  unfold keepE keepD
  rw [if_neg hn, if_neg hn, hs]
  exact ⟨this.2, this.1⟩
theorem runs_step {D : Dsk} {pre : List Stp} {s : Stp} (h : runsE D pre = 0) (h2 : stpE (runs D pre) s = 0) : runsE D (pre ++ [s]) = 0 ∧ stp (runs D pre) s = runs D (pre ++ [s]) :=
  ⟨by rw [runsE_snoc h]; exact h2, (runs_snoc h s).symm⟩
theorem run_slice58 (w : World) (g n c lo : Nat) (h1 : lo ≤ n) :
    (Instr.slice 58 (.slice (some ⟨g, 0, none⟩) n c) (some (.int .i64 (lo : Int))) none none).run Try.prog w = .ok (.slice (some ⟨g, if c = lo then 0 else lo, none⟩) (n - lo) (c - lo)) w := by
  have e4 : (⟨g, 0, none⟩ : Addr).add lo = ⟨g, lo, none⟩ := by unfold Addr.add; split <;> simp_all
  by_cases h : c = lo
  · simp [Instr.slice, run_underlying Try.underlying58, Instr.sliceBounds, Instr.sliceBound, asIntOf, h1, h]
  · simp [Instr.slice, run_underlying Try.underlying58, Instr.sliceBounds, Instr.sliceBound, asIntOf, e4, h1, h]
theorem recW_get {a : Nat} {p : ByteArray} {k : Nat} (h : k < sectorsOf p.size - 1) : (recW a p)[k]? = some (.wr (a + 1 + k) (sb (Rad.sect (bl p) (k + 1)))) := by simp [recW, h]
theorem recW_length (a : Nat) (p : ByteArray) : (recW a p).length = sectorsOf p.size - 1 := by simp [recW]
theorem recW_split {a : Nat} {p : ByteArray} {k : Nat} (h : k < sectorsOf p.size - 1) (n : Nat) : recS n a p = (recW a p).take k ++ .wr (a + 1 + k) (sb (Rad.sect (bl p) (k + 1))) :: ((recW a p).drop (k + 1) ++ recZ n a p ++ [.sy, .wr a (sb (Rad.sect (bl p) 0)), .sy]) := by
  have hl := recW_length a p
  have h1 := recW_get (a := a) h
  have h2 : recW a p = (recW a p).take k ++ .wr (a + 1 + k) (sb (Rad.sect (bl p) (k + 1))) :: (recW a p).drop (k + 1) := by
    rw [List.getElem?_eq_getElem (by omega)] at h1
    rw [← Option.some.inj h1, List.getElem_cons_drop, List.take_append_drop]
  unfold recS
  conv => lhs; rw [h2]
  simp [List.append_assoc]
theorem recW_take_succ {a : Nat} {p : ByteArray} {k : Nat} (h : k < sectorsOf p.size - 1) : (recW a p).take (k + 1) = (recW a p).take k ++ [.wr (a + 1 + k) (sb (Rad.sect (bl p) (k + 1)))] := by
  have hl := recW_length a p
  have h1 := recW_get (a := a) h
  rw [List.getElem?_eq_getElem (by omega)] at h1
  rw [List.take_succ_eq_append_getElem (by omega), Option.some.inj h1]
/-- the book's block, the record's sectors, and what has turned -/
structure KS (w : World) (g gd gs : Nat) (o : Option Addr) (bk : List Value) (gl : Nat) (ls : List Value) (o1 : Option Addr) (wr : World) : Prop where
  bk : Blk wr g 165 bk
  ls : Blk wr gl 9 ls
  onl : Onl (fun k => k = g ∨ dskOf gd gs o k) w wr
  own : ∀ k, ownOf o1 k → ownOf o k ∨ w.heap.size ≤ k
  h1 : g ≠ gd
  h2 : g ≠ gs
  h3 : ¬ ownOf o g
  h4 : g < w.heap.size
  h5 : gd < w.heap.size
  h6 : gs < w.heap.size
  h7 : w.heap.size ≤ gl
theorem KS.ext {w : World} {g gd gs : Nat} {o : Option Addr} {bk : List Value} {gl : Nat} {ls : List Value} {o1 : Option Addr} {wr wz : World} (h : KS w g gd gs o bk gl ls o1 wr) (ho : Onl non wr wz) : KS w g gd gs o bk gl ls o1 wz :=
  ⟨h.bk.onl ho (fun h => h), h.ls.onl ho (fun h => h), h.onl.trans ho (fun _ _ h => h.elim), h.own, h.h1, h.h2, h.h3, h.h4, h.h5, h.h6, h.h7⟩
theorem KS.drw {w : World} {g gd gs : Nat} {o : Option Addr} {bk : List Value} {gl : Nat} {ls : List Value} {o1 : Option Addr} {wr wz : World} (h : KS w g gd gs o bk gl ls o1 wr) (hd : Drw wr wz) : KS w g gd gs o bk gl ls o1 wz := h.ext ((Onl.refl non wr).of_drw hd)
theorem KS.step {w : World} {g gd gs cs : Nat} {o : Option Addr} {bk : List Value} {gl : Nat} {ls : List Value} {o1 o2 : Option Addr} {c1 : Nat} {D : Dsk} {wz w2 : World} (h : KS w g gd gs o bk gl ls o1 wz) (hd : DskAt wz gd gs cs o1 c1 D) (ho : Onl (dskOf gd gs o1) wz w2) (hn : ∀ k, ownOf o2 k → ownOf o1 k ∨ wz.heap.size ≤ k) : KS w g gd gs o bk gl ls o2 w2 := by
  refine ⟨h.bk.onl ho (fun hk => ?_), h.ls.onl ho (fun hk => ?_), h.onl.trans ho (fun i hi hk => ?_), fun j hj => ?_, h.h1, h.h2, h.h3, h.h4, h.h5, h.h6, h.h7⟩
  · rcases hk with hk | hk | hk
    · exact h.h1 hk
    · exact h.h2 hk
    · rcases h.own g hk with hk | hk
      · exact h.h3 hk
      · have := h.h4; omega
  · rcases hk with hk | hk | hk
    · have := h.h5; have := h.h7; omega
    · have := h.h6; have := h.h7; omega
    · exact hd.waits.ne_blk h.ls (by decide) hk
  · rcases hk with hk | hk | hk
    · exact .inr (.inl hk)
    · exact .inr (.inr (.inl hk))
    · rcases h.own i hk with hk | hk
      · exact .inr (.inr (.inr hk))
      · omega
  · rcases hn j hj with hk | hk
    · exact h.own j hk
    · have := h.onl.size; exact .inr (by omega)
def KeepPost (g gd gs cs : Nat) (o : Option Addr) (D : Dsk) (lv fv : Value) (a : Nat) (p : ByteArray) (w : World) (e : Ending) (w' : World) : Prop :=
  e = .returned (.int .i64 (keepE D a p)) ∧ ∃ o' cw', DskAt w' gd gs cs o' cw' (keepD D a p) ∧
    Blk w' g 165 [lv, .pointer (some ⟨gd, 0, none⟩), .int .i64 ((if keepE D a p = 0 then a + sectorsOf p.size else a : Nat) : Int), fv] ∧
    Onl (fun k => k = g ∨ dskOf gd gs o k) w w' ∧ (∀ k, ownOf o' k → ownOf o k ∨ w.heap.size ≤ k)
theorem laid_get (p : ByteArray) {i : Nat} (h : i < sectorsOf p.size) : (laid p)[i]? = some (sb (Rad.sect (bl p) i)) := by simp [laid, h]
theorem laid_length (p : ByteArray) : (laid p).length = sectorsOf p.size := by simp [laid]
set_option maxRecDepth 100000 in
set_option maxHeartbeats 2000000 in
theorem keep141 (g gd gs cs : Nat) (o : Option Addr) (cw : Nat) (D : Dsk) (lv fv : Value) (a n : Nat) (p : ByteArray) (w : World)
    (hb : Blk w g 165 [lv, .pointer (some ⟨gd, 0, none⟩), .int .i64 (a : Int), fv]) (h : DskAt w gd gs cs o cw D) (hf : Fits D n) (hn : n ≤ 50000000) (hp : p.size ≤ 8000) (ha : a ≤ 100000) :
    Calls Try.prog 141 #[.pointer (some ⟨g, 0, none⟩), .string p] w fun e w' => KeepPost g gd gs cs o D lv fv a p w e w' := by
  have hgd : g ≠ gd := hb.ne_ h.disk (by decide)
  have hggs : g ≠ gs := hb.ne_ h.safe (by decide)
  have hgo : ¬ ownOf o g := h.waits.ne_blk hb (by decide)
  have HGD := Lib.hid hgd
  have HGS := Lib.hid hggs
  have HGO := Lib.hid hgo
  obtain ⟨N, hN⟩ : ∃ N, N = sectorsOf p.size := ⟨_, rfl⟩
  have hN1 : 1 ≤ N := by rw [hN]; unfold sectorsOf; omega
  have hN2 : N ≤ 200 := by rw [hN]; unfold sectorsOf; omega
  obtain ⟨m, hm⟩ : ∃ m, m = D.safe.length := ⟨_, rfl⟩
  have hm2 : m ≤ 4096 := by rw [hm]; exact h.in2
  have HNe := Lib.hid hN
  have HMe := Lib.hid hm
  have HF := Lib.hid hf
  have H := Lib.hid h
  have HB := Lib.hid hb
  clear hgd hggs hgo hf h hb
  go_enter Try.func141, Try.ntmps141
  go_wp2_with fail
  refine (laid166 p w hp).mono ?_
  rintro e w1 ⟨gl, cl, rfl, hcl, hlgl, ⟨ex, hbl⟩, honl⟩
  rw [← hN] at hcl ⊢
  have HL : Hid (Blk w1 gl 9 (ss (laid p) ++ ex)) := Lib.hid hbl
  have HO : Hid (Onl (fun k => k = g ∨ dskOf gd gs o k) w w1) := Lib.hid (honl.mono (fun _ h => h.elim))
  have H1 : Hid (DskAt w1 gd gs cs o cw D) := Lib.hid (H.out.onl honl (fun _ _ h => h))
  have HB1 : Hid (Blk w1 g 165 [lv, .pointer (some ⟨gd, 0, none⟩), .int .i64 (a : Int), fv]) := Lib.hid (HB.out.onl honl (fun h => h))
  have HGL : Hid (w.heap.size ≤ gl) := Lib.hid hlgl
  clear hbl honl hlgl hN hm
  have hc1 : w1.cell? ⟨g, 1, none⟩ = some (.pointer (some ⟨gd, 0, none⟩)) := HB1.out.cell' rfl
  have hc2 : w1.cell? ⟨g, 2, none⟩ = some (.int .i64 (a : Int)) := HB1.out.cell' rfl
  have HSEC : Hid (∀ wx o c D', DskAt wx gd gs cs o c D' → D'.safe.length = D.safe.length → Calls Try.prog 62 #[.pointer (some ⟨gd, 0, none⟩)] wx fun e w' => e = .returned (.int .i64 (m : Int)) ∧ wx = w') := Lib.hid (fun wx o c D' hx hy => by rw [HMe.out, ← hy]; exact Sectors62 gd gs cs o c D' wx hx)
  have e1 : IntKind.i64.wrap ((a : Int) + (N : Int)) = (a : Int) + (N : Int) := IntWalk.i64_in _ (by omega)
  by_cases hfull : m < a + N
  · have hd : decide ((m : Int) < (a : Int) + (N : Int)) = true := decide_eq_true (by omega)
    go_wp2
    go_quiet ((go_at_call 62; exact qsame (HSEC.out _ _ _ _ (H1.out.drw ⟨_, rfl⟩) rfl)))
    obtain ⟨wq, hq⟩ : ∃ wq, wq = w1.drewN nq := ⟨_, rfl⟩
    rw [← hq]
    have hD : Drw w1 wq := ⟨nq, hq⟩
    clear hq hc1 hc2
    go_wp2
    go_ret
    have hk : D.safe.length < a + sectorsOf p.size := by rw [← HMe.out, ← HNe.out]; exact hfull
    refine ⟨?_, o, cw, ?_, ?_, HO.out.of_drw hD, fun _ h => .inl h⟩
    · unfold keepE; rw [if_pos hk]; rfl
    · unfold keepD; rw [if_pos hk]; exact H1.out.drw hD
    · unfold keepE; rw [if_pos hk, if_neg (by decide)]; exact HB1.out.drw hD
  · have hd : decide ((m : Int) < (a : Int) + (N : Int)) = false := decide_eq_false (by omega)
    have HK : Hid (¬ D.safe.length < a + sectorsOf p.size) := Lib.hid (by rw [← HMe.out, ← HNe.out]; exact hfull)
    go_wp2
    go_quiet ((go_at_call 62; exact qsame (HSEC.out _ _ _ _ (H1.out.drw ⟨_, rfl⟩) rfl)))
    obtain ⟨wq, hq⟩ : ∃ wq, wq = w1.drewN nq := ⟨_, rfl⟩
    rw [← hq]
    have hD : Drw w1 wq := ⟨nq, hq⟩
    have HLq : Hid (Blk wq gl 9 (ss (laid p) ++ ex)) := Lib.hid (HL.out.drw hD)
    have HOq : Hid (Onl (fun k => k = g ∨ dskOf gd gs o k) w wq) := Lib.hid (HO.out.of_drw hD)
    have Hq : Hid (DskAt wq gd gs cs o cw D) := Lib.hid (H1.out.drw hD)
    have HBq : Hid (Blk wq g 165 [lv, .pointer (some ⟨gd, 0, none⟩), .int .i64 (a : Int), fv]) := Lib.hid (HB1.out.drw hD)
    have HK0 : Hid (KS w g gd gs o [lv, .pointer (some ⟨gd, 0, none⟩), .int .i64 (a : Int), fv] gl (ss (laid p) ++ ex) o wq) := Lib.hid ⟨HBq.out, HLq.out, HOq.out, fun _ h => .inl h, HGD.out, HGS.out, HGO.out, HB.out.lt, H.out.disk.lt, H.out.safe.lt, HGL.out⟩
    clear hq hc1 hc2 hD HL HO H1 HB1 hd e1 HLq HOq HBq
    obtain ⟨q, hq⟩ : ∃ q, q = if cl = 1 then 0 else 1 := ⟨_, rfl⟩
    have hsl : ∀ wx, (Instr.slice 58 (.slice (some ⟨gl, 0, none⟩) N cl) (some (.int .i64 1)) none none).run Try.prog wx = .ok (.slice (some ⟨gl, q, none⟩) (N - 1) (cl - 1)) wx := fun wx => by rw [hq]; exact run_slice58 wx gl N cl 1 hN1
    have HQ : Hid (1 < N → q = 1) := Lib.hid (fun h => by rw [hq, if_neg (by omega)])
    obtain ⟨M, hM⟩ : ∃ M, M = N - 1 := ⟨_, rfl⟩
    obtain ⟨cm, hcm⟩ : ∃ cm, cm = cl - 1 := ⟨_, rfl⟩
    rw [← hM, ← hcm] at hsl
    have hM2 : M ≤ 200 := by omega
    have HM := Lib.hid hM
    have HMp : Hid (M = sectorsOf p.size - 1) := Lib.hid (by rw [hM, HNe.out])
    clear hq hM hcm hcl
    go_wp2
    clear hsl
    go_loopw [32] (fun x wr => ∃ (k : Nat) (o1 : Option Addr) (c1 : Nat), k ≤ M ∧ x = .int .i64 k ∧ Hid (runsE D ((recW a p).take k) = 0) ∧ Hid (DskAt wr gd gs cs o1 c1 (runs D ((recW a p).take k))) ∧ Hid (KS w g gd gs o [lv, .pointer (some ⟨gd, 0, none⟩), .int .i64 (a : Int), fv] gl (ss (laid p) ++ ex) o1 wr)) (fun x _ => M - (intOf x).toNat)
    case atStart => exact ⟨0, o, cw, by omega, rfl, Lib.hid rfl, Hq, HK0⟩
    case round =>
      clear Hq HK0
      obtain ⟨wo, rfl⟩ : ∃ wo : World, wo = wr := ⟨_, rfl⟩
      obtain ⟨k, o1, c1, hk, rfl, HR, H1, HS⟩ := hrel
      by_cases hlt : k < M
      · obtain rfl : q = 1 := HQ.out (by have := HM.out; omega)
        have hkp : k < sectorsOf p.size - 1 := by rw [← HMp.out]; exact hlt
        have hcl : wo.cell? ⟨gl, 1 + k, none⟩ = some (.string (sb (Rad.sect (bl p) (k + 1)))) := HS.out.ls.cell_pre (ss_get (by rw [Nat.add_comm 1 k]; exact laid_get p (by omega)))
        obtain ⟨T, hT⟩ : ∃ T, T = sb (Rad.sect (bl p) (k + 1)) := ⟨_, rfl⟩
        have hTs : T.size ≤ 9223372036854775807 := by rw [hT, sb_size, Rad.sect_length]; omega
        rw [← hT] at hcl
        have HT := Lib.hid hT
        obtain ⟨b, hb⟩ : ∃ b, b = a + 1 + k := ⟨_, rfl⟩
        have e1 : IntKind.i64.wrap ((a : Int) + 1) = (a : Int) + 1 := IntWalk.i64_in _ (by omega)
        have e2 : IntKind.i64.wrap ((a : Int) + 1 + (k : Int)) = (b : Int) := by rw [IntWalk.i64_in _ (by omega)]; omega
        have hb2 : b ≤ 1000000 := by omega
        have HBe := Lib.hid hb
        have i0 : (0 : Int) ≤ (k : Int) := by omega
        have i1 : (k : Int) < (M : Int) := by omega
        have hc1 : wo.cell? ⟨g, 1, none⟩ = some (.pointer (some ⟨gd, 0, none⟩)) := HS.out.bk.cell' rfl
        have hc2 : wo.cell? ⟨g, 2, none⟩ = some (.int .i64 (a : Int)) := HS.out.bk.cell' rfl
        have HKP := Lib.hid hkp
        have E1 := Lib.hid e1
        have E2 := Lib.hid e2
        obtain ⟨Dk, hDk⟩ : ∃ Dk, Dk = runs D ((recW a p).take k) := ⟨_, rfl⟩
        rw [← hDk] at H1
        have HDk := Lib.hid hDk
        have hfk : Fits Dk (n + 400) := by rw [hDk]; exact HF.out.runs.mono (by rw [List.length_take]; omega)
        have HFK := Lib.hid hfk
        clear hT hb hkp e1 e2 hDk hfk
        go_wp2
        have e1 := E1.out
        have e2 := E2.out
        refine wp_region_qt 12 (by kernel_rfl) (by kernel_rfl) ?_
        simp only [List.take_succ_cons, List.take_zero, List.drop_succ_cons, List.drop_zero]
        repeat (go_big_quiet_step (fail))
        refine wpQuiet_nil ?_
        intro wz hw'
        have hD : Drw wo wz := hw'
        clear hw' e1 e2 hc1 hc2 hcl i0 i1
        have HA : Hid (DskAt wz gd gs cs o1 c1 Dk) := Lib.hid (H1.out.drw hD)
        have HSz := Lib.hid (HS.out.drw hD)
        clear hD H1 HS
        go_wp2_with fail
        refine (Write49 gd gs cs o1 c1 Dk (b : Int) T _ HA.out (by have := HFK.out.1; omega) HFK.out.2.2 (by have := HFK.out.2.1; omega) (by omega) hTs).mono ?_
        rintro e w2 ⟨rfl, o2, c2, hd2, ho2, hn2⟩
        have H2 : Hid (DskAt w2 gd gs cs o2 c2 (Dk.write (b : Int) T)) := Lib.hid hd2
        have HS2 := Lib.hid (HSz.out.step HA.out ho2 hn2)
        clear hd2 ho2 hn2 HA HSz
        obtain ⟨E, hE⟩ : ∃ E, E = Dk.writeE (b : Int) T := ⟨_, rfl⟩
        rw [← hE]
        have HE := Lib.hid hE
        clear hE
        by_cases h0 : E = 0
        · subst h0
          go_wp2
          go_roundw
          case rel =>
            have hst := runs_step (s := .wr b T) HR.out (by show (runs D ((recW a p).take k)).writeE (b : Int) T = 0; rw [← HDk.out]; exact HE.out.symm)
            have htk : (recW a p).take (k + 1) = (recW a p).take k ++ [.wr b T] := by rw [recW_take_succ HKP.out, HBe.out, HT.out]
            refine ⟨k + 1, o2, c2, by omega, by go_num, Lib.hid ?_, Lib.hid ?_, HS2⟩
            · rw [htk]; exact hst.1
            · rw [htk, ← hst.2, ← HDk.out]; exact H2.out
          case measure => simp [intOf]; omega
        · have hb0 : (E != 0) = true := by rw [bne_iff_ne]; exact h0
          have H0 := Lib.hid h0
          clear h0
          go_wp2
          go_ret
          have hke := keep_err HK.out (recW_split HKP.out _) HR.out (by show (runs D ((recW a p).take k)).writeE _ _ ≠ 0; rw [← HDk.out, ← HBe.out, ← HT.out, ← HE.out]; exact H0.out)
          have e3 : keepE D a p = E := by rw [hke.1]; show (runs D ((recW a p).take k)).writeE _ _ = _; rw [← HDk.out, ← HBe.out, ← HT.out, ← HE.out]
          have e4 : keepD D a p = Dk.write (b : Int) T := by rw [hke.2]; show (runs D ((recW a p).take k)).write _ _ = _; rw [← HDk.out, ← HBe.out, ← HT.out]
          refine ⟨by rw [e3]; rfl, o2, c2, by rw [e4]; exact H2.out, ?_, HS2.out.onl, HS2.out.own⟩
          rw [e3, if_neg H0.out]; exact HS2.out.bk
      · have hkM : k = M := by omega
        have HR0 : Hid (runsE D (recW a p) = 0) := Lib.hid (by have h := HR.out; rwa [hkM, HMp.out, ← recW_length a p, List.take_length] at h)
        have HD0 : Hid (DskAt wo gd gs cs o1 c1 (runs D (recW a p))) := Lib.hid (by have h := H1.out; rwa [hkM, HMp.out, ← recW_length a p, List.take_length] at h)
        clear hkM HR H1
        have hc1 : wo.cell? ⟨g, 1, none⟩ = some (.pointer (some ⟨gd, 0, none⟩)) := HS.out.bk.cell' rfl
        have hc2 : wo.cell? ⟨g, 2, none⟩ = some (.int .i64 (a : Int)) := HS.out.bk.cell' rfl
        obtain ⟨D0, hD0⟩ : ∃ D0, D0 = runs D (recW a p) := ⟨_, rfl⟩
        have hl0 : D0.safe.length = D.safe.length := by rw [hD0, runs_len]
        have hf0 : Fits D0 (n + 400) := by rw [hD0]; exact HF.out.runs.mono (by rw [recW_length]; have := HMp.out; omega)
        rw [← hD0] at HD0
        have HDe := Lib.hid hD0
        have HL0 := Lib.hid hl0
        have HF0 := Lib.hid hf0
        clear hD0 hl0 hf0
        by_cases hz : a + N < m
        case' pos =>
          have hd : decide ((a : Int) + (N : Int) < (m : Int)) = true := decide_eq_true (by omega)
          have HZe : Hid (recZ D.safe.length a p = [.wr (a + N) (zer 64)]) := Lib.hid (by unfold recZ; rw [← HMe.out, ← HNe.out, if_pos hz])
          go_wp2_with (go_at_call 62; refine (HSEC.out _ _ _ _ HD0.out HL0.out).mono ?_; rintro e w' ⟨rfl, rfl⟩)
          have hcz : ∀ x : Ext non wo, x.val.cell? ⟨g, 1, none⟩ = some (.pointer (some ⟨gd, 0, none⟩)) := fun x => (HS.out.bk.onl x.property (fun h => h)).cell' rfl
          obtain ⟨T, hT⟩ : ∃ T, T = zer 64 := ⟨_, rfl⟩
          have hTs : T.size ≤ 9223372036854775807 := by rw [hT, zer, sb_size, List.length_replicate]; omega
          have HZ : Hid (∀ wx, Calls Try.prog 109 #[] wx fun e w' => e = .returned (.string T) ∧ Onl non wx w') := Lib.hid (by intro wx; rw [hT]; exact zeros109 wx)
          rw [← hT] at HZe
          clear hT hc1 hc2
          refine wp_region_quiet_tail (fun w' => ∃ x : Ext non wo, w' = x.val) 6 (by kernel_rfl) (by kernel_rfl) ⟨⟨wo.drew, (Onl.refl non wo).drew⟩, rfl⟩ ?_
          simp only [List.take_succ_cons, List.take_zero, List.drop_succ_cons, List.drop_zero]
          repeat (go_big_quiet_step ((go_at_call 109; exact qext (HZ.out _))))
          refine wpQuiet_nil ?_
          intro wz hw'
          obtain ⟨x, hx⟩ := hw'
          have hO := x.property
          rw [← hx] at hO
          have HA : Hid (DskAt wz gd gs cs o1 c1 D0) := Lib.hid (HD0.out.onl hO (fun _ _ h => h))
          have HSz := Lib.hid (HS.out.ext hO)
          clear hcz hx hO HS HD0
          go_wp2_with fail
          refine (Write49 gd gs cs o1 c1 D0 ((a : Int) + (N : Int)) T _ HA.out (by have := HF0.out.1; omega) HF0.out.2.2 (by have := HF0.out.2.1; omega) (by omega) hTs).mono ?_
          rintro e w5 ⟨rfl, o5, c5, hd2, ho2, hn2⟩
          have H2 := Lib.hid hd2
          have HS5 := Lib.hid (HSz.out.step HA.out ho2 hn2)
          clear hd2 ho2 hn2 HA HSz
          obtain ⟨E, hE⟩ : ∃ E, E = D0.writeE ((a : Int) + (N : Int)) T := ⟨_, rfl⟩
          rw [← hE]
          have HE := Lib.hid hE
          have HC : Hid ((a : Int) + (N : Int) = ((a + N : Nat) : Int)) := Lib.hid (by omega)
          clear hE
          by_cases h0 : E = 0
          rotate_left
          · have hb0 : (E != 0) = true := by rw [bne_iff_ne]; exact h0
            have H0 := Lib.hid h0
            clear h0
            go_wp2
            go_ret
            have hke := keep_err (rest := [.sy, .wr a (sb (Rad.sect (bl p) 0)), .sy]) (s := .wr (a + N) T) (pre := recW a p) HK.out (by unfold recS; rw [HZe.out]; simp) HR0.out (by show (runs D (recW a p)).writeE _ _ ≠ 0; rw [← HDe.out, ← HC.out, ← HE.out]; exact H0.out)
            have e3 : keepE D a p = E := by rw [hke.1]; show (runs D (recW a p)).writeE _ _ = _; rw [← HDe.out, ← HC.out, ← HE.out]
            have e4 : keepD D a p = D0.write ((a : Int) + (N : Int)) T := by rw [hke.2]; show (runs D (recW a p)).write _ _ = _; rw [← HDe.out, ← HC.out]
            refine ⟨by rw [e3]; rfl, o5, c5, by rw [e4]; exact H2.out, ?_, HS5.out.onl, HS5.out.own⟩
            rw [e3, if_neg H0.out]; exact HS5.out.bk
          subst h0
          have hst := runs_step (D := D) (pre := recW a p) (s := .wr (a + N) T) HR0.out (by show (runs D (recW a p)).writeE _ _ = 0; rw [← HDe.out, ← HC.out]; exact HE.out.symm)
          have HR5 : Hid (runsE D (recW a p ++ recZ D.safe.length a p) = 0) := Lib.hid (by rw [HZe.out]; exact hst.1)
          have H5 : Hid (DskAt w5 gd gs cs o5 c5 (runs D (recW a p ++ recZ D.safe.length a p))) := Lib.hid (by
            have h := H2.out
            rw [HZe.out, ← hst.2]
            show DskAt w5 gd gs cs o5 c5 ((runs D (recW a p)).write _ _)
            rw [← HDe.out, ← HC.out]; exact h)
          clear hst HZ HZe hTs HE HC H2 hd
        case' neg =>
          have hd : decide ((a : Int) + (N : Int) < (m : Int)) = false := decide_eq_false (by omega)
          have HZe : Hid (recZ D.safe.length a p = []) := Lib.hid (by unfold recZ; rw [← HMe.out, ← HNe.out, if_neg hz])
          go_wp2_with (go_at_call 62; refine (HSEC.out _ _ _ _ HD0.out HL0.out).mono ?_; rintro e w' ⟨rfl, rfl⟩)
          have HR5 : Hid (runsE D (recW a p ++ recZ D.safe.length a p) = 0) := Lib.hid (by rw [HZe.out, List.append_nil]; exact HR0.out)
          have H5 : Hid (DskAt wo gd gs cs o1 c1 (runs D (recW a p ++ recZ D.safe.length a p))) := Lib.hid (by rw [HZe.out, List.append_nil, ← HDe.out]; exact HD0.out)
          have HS5 := HS
          clear HS hc1 hc2 HD0 HZe hd
          obtain ⟨w5, rfl⟩ : ∃ w5 : World, w5 = wo := ⟨_, rfl⟩
          obtain ⟨o5, rfl⟩ : ∃ o5 : Option Addr, o5 = o1 := ⟨_, rfl⟩
          obtain ⟨c5, rfl⟩ : ∃ c5 : Nat, c5 = c1 := ⟨_, rfl⟩
        all_goals
          obtain ⟨P, hP⟩ : ∃ P, P = recW a p ++ recZ D.safe.length a p := ⟨_, rfl⟩
          rw [← hP] at HR5 H5
          have HPe : Hid (recS D.safe.length a p = P ++ [.sy, .wr a (sb (Rad.sect (bl p) 0)), .sy]) := Lib.hid (by rw [hP]; rfl)
          have hPl : P.length ≤ 300 := by rw [hP, List.length_append, recW_length]; have := HMp.out; unfold recZ; split <;> simp <;> omega
          obtain ⟨D5, hD5⟩ : ∃ D5, D5 = runs D P := ⟨_, rfl⟩
          have hf5 : Fits D5 (n + 300) := by rw [hD5]; exact HF.out.runs.mono (by omega)
          rw [← hD5] at H5
          have HD5 := Lib.hid hD5
          have HF5 := Lib.hid hf5
          clear hP hD5 hf5 hPl
          have hc1 : w5.cell? ⟨g, 1, none⟩ = some (.pointer (some ⟨gd, 0, none⟩)) := HS5.out.bk.cell' rfl
          go_wp2_with fail
          refine (Sync52 gd gs cs o5 c5 D5 _ H5.out (by have := HF5.out.1; omega) HF5.out.2.2 (by have := HF5.out.2.1; omega)).mono ?_
          rintro e w6 ⟨rfl, hd6, ho6⟩
          have H6 := Lib.hid hd6
          have HS6 := Lib.hid (HS5.out.step H5.out ho6 (fun _ h => .inl h))
          clear hd6 ho6 hc1 H5 HS5
          obtain ⟨E, hE⟩ : ∃ E, E = D5.syncE := ⟨_, rfl⟩
          rw [← hE]
          have HE := Lib.hid hE
          clear hE
          by_cases h0 : E = 0
          rotate_left
          · have hb0 : (E != 0) = true := by rw [bne_iff_ne]; exact h0
            have H0 := Lib.hid h0
            clear h0
            go_wp2
            go_ret
            have hke := keep_err HK.out HPe.out HR5.out (by show (runs D P).syncE ≠ 0; rw [← HD5.out, ← HE.out]; exact H0.out)
            have e3 : keepE D a p = E := by rw [hke.1]; show (runs D P).syncE = _; rw [← HD5.out, ← HE.out]
            have e4 : keepD D a p = D5.sync := by rw [hke.2]; show (runs D P).sync = _; rw [← HD5.out]
            refine ⟨by rw [e3]; rfl, o5, c5, by rw [e4]; exact H6.out, ?_, HS6.out.onl, HS6.out.own⟩
            rw [e3, if_neg H0.out]; exact HS6.out.bk
          subst h0
          have hst := runs_step (D := D) (pre := P) (s := .sy) HR5.out (by show (runs D P).syncE = 0; rw [← HD5.out]; exact HE.out.symm)
          obtain ⟨Q, hQ⟩ : ∃ Q, Q = P ++ [Stp.sy] := ⟨_, rfl⟩
          rw [← hQ] at hst
          have HRQ := Lib.hid hst.1
          have HQe : Hid (recS D.safe.length a p = Q ++ [.wr a (sb (Rad.sect (bl p) 0)), .sy]) := Lib.hid (by rw [HPe.out, hQ]; simp)
          have hD6 : D5.sync = runs D Q := by rw [← hst.2]; show _ = (runs D P).sync; rw [← HD5.out]
          have hf6 : Fits D5.sync (n + 301) := HF5.out.sync
          obtain ⟨D6, hD6e⟩ : ∃ D6, D6 = D5.sync := ⟨_, rfl⟩
          rw [← hD6e] at H6 hD6 hf6
          have HD6 := Lib.hid hD6
          have HF6 := Lib.hid hf6
          clear hst hQ hD6 hf6 hD6e HE HD5 HF5 HR5 HPe
          have hcl : w6.cell? ⟨gl, 0, none⟩ = some (.string (sb (Rad.sect (bl p) 0))) := HS6.out.ls.cell_pre (ss_get (laid_get p (by have := HNe.out; omega)))
          obtain ⟨T, hT⟩ : ∃ T, T = sb (Rad.sect (bl p) 0) := ⟨_, rfl⟩
          have hTs : T.size ≤ 9223372036854775807 := by rw [hT, sb_size, Rad.sect_length]; omega
          rw [← hT] at hcl HQe
          have hc1 : w6.cell? ⟨g, 1, none⟩ = some (.pointer (some ⟨gd, 0, none⟩)) := HS6.out.bk.cell' rfl
          have hc2 : w6.cell? ⟨g, 2, none⟩ = some (.int .i64 (a : Int)) := HS6.out.bk.cell' rfl
          have i0 : (0 : Int) < (N : Int) := by omega
          clear hT
          go_wp2
          refine wp_region_qt 11 (by kernel_rfl) (by kernel_rfl) ?_
          simp only [List.take_succ_cons, List.take_zero, List.drop_succ_cons, List.drop_zero]
          repeat (go_big_quiet_step (fail))
          refine wpQuiet_nil ?_
          intro wz hw'
          have hD : Drw w6 wz := hw'
          clear hw' hc1 hc2 hcl i0
          have HA := Lib.hid (H6.out.drw hD)
          have HSz := Lib.hid (HS6.out.drw hD)
          clear hD H6 HS6
          go_wp2_with fail
          refine (Write49 gd gs cs o5 c5 D6 (a : Int) T _ HA.out (by have := HF6.out.1; omega) HF6.out.2.2 (by have := HF6.out.2.1; omega) (by omega) hTs).mono ?_
          rintro e w7 ⟨rfl, o7, c7, hd2, ho2, hn2⟩
          have H7 := Lib.hid hd2
          have HS7 := Lib.hid (HSz.out.step HA.out ho2 hn2)
          clear hd2 ho2 hn2 HA HSz
          obtain ⟨E, hE⟩ : ∃ E, E = D6.writeE (a : Int) T := ⟨_, rfl⟩
          rw [← hE]
          have HE := Lib.hid hE
          clear hE
          by_cases h0 : E = 0
          rotate_left
          · have hb0 : (E != 0) = true := by rw [bne_iff_ne]; exact h0
            have H0 := Lib.hid h0
            clear h0
            go_wp2
            go_ret
            have hke := keep_err HK.out HQe.out HRQ.out (by show (runs D Q).writeE _ _ ≠ 0; rw [← HD6.out, ← HE.out]; exact H0.out)
            have e3 : keepE D a p = E := by rw [hke.1]; show (runs D Q).writeE _ _ = _; rw [← HD6.out, ← HE.out]
            have e4 : keepD D a p = D6.write (a : Int) T := by rw [hke.2]; show (runs D Q).write _ _ = _; rw [← HD6.out]
            refine ⟨by rw [e3]; rfl, o7, c7, by rw [e4]; exact H7.out, ?_, HS7.out.onl, HS7.out.own⟩
            rw [e3, if_neg H0.out]; exact HS7.out.bk
          subst h0
          have hst := runs_step (D := D) (pre := Q) (s := .wr a T) HRQ.out (by show (runs D Q).writeE _ _ = 0; rw [← HD6.out]; exact HE.out.symm)
          obtain ⟨R, hR⟩ : ∃ R, R = Q ++ [Stp.wr a T] := ⟨_, rfl⟩
          rw [← hR] at hst
          have HRR := Lib.hid hst.1
          have HRe : Hid (recS D.safe.length a p = R ++ [.sy]) := Lib.hid (by rw [HQe.out, hR]; simp)
          have hD7 : D6.write (a : Int) T = runs D R := by rw [← hst.2]; show _ = (runs D Q).write _ _; rw [← HD6.out]
          have hf7 : Fits (D6.write (a : Int) T) (n + 302) := HF6.out.write _ _
          obtain ⟨D7, hD7e⟩ : ∃ D7, D7 = D6.write (a : Int) T := ⟨_, rfl⟩
          rw [← hD7e] at H7 hD7 hf7
          have HD7 := Lib.hid hD7
          have HF7 := Lib.hid hf7
          clear hst hR hD7 hf7 hD7e HE HD6 HF6 HRQ HQe hTs
          have hc1 : w7.cell? ⟨g, 1, none⟩ = some (.pointer (some ⟨gd, 0, none⟩)) := HS7.out.bk.cell' rfl
          go_wp2_with fail
          refine (Sync52 gd gs cs o7 c7 D7 _ H7.out (by have := HF7.out.1; omega) HF7.out.2.2 (by have := HF7.out.2.1; omega)).mono ?_
          rintro e w8 ⟨rfl, hd6, ho6⟩
          have H8 := Lib.hid hd6
          have HS8 := Lib.hid (HS7.out.step H7.out ho6 (fun _ h => .inl h))
          clear hd6 ho6 hc1 H7 HS7
          obtain ⟨E, hE⟩ : ∃ E, E = D7.syncE := ⟨_, rfl⟩
          rw [← hE]
          have HE := Lib.hid hE
          clear hE
          by_cases h0 : E = 0
          rotate_left
          · have hb0 : (E != 0) = true := by rw [bne_iff_ne]; exact h0
            have H0 := Lib.hid h0
            clear h0
            go_wp2
            go_ret
            have hke := keep_err HK.out HRe.out HRR.out (by show (runs D R).syncE ≠ 0; rw [← HD7.out, ← HE.out]; exact H0.out)
            have e3 : keepE D a p = E := by rw [hke.1]; show (runs D R).syncE = _; rw [← HD7.out, ← HE.out]
            have e4 : keepD D a p = D7.sync := by rw [hke.2]; show (runs D R).sync = _; rw [← HD7.out]
            refine ⟨by rw [e3]; rfl, o7, c7, by rw [e4]; exact H8.out, ?_, HS8.out.onl, HS8.out.own⟩
            rw [e3, if_neg H0.out]; exact HS8.out.bk
          subst h0
          have hst := runs_step (D := D) (pre := R) (s := .sy) HRR.out (by show (runs D R).syncE = 0; rw [← HD7.out]; exact HE.out.symm)
          have HKE : Hid (keepE D a p = 0) := Lib.hid (by unfold keepE; rw [if_neg HK.out, HRe.out]; exact hst.1)
          have HKD : Hid (keepD D a p = D7.sync) := Lib.hid (by unfold keepD; rw [if_neg HK.out, HRe.out, ← hst.2]; show (runs D R).sync = _; rw [← HD7.out])
          clear hst HE
          have hc2 : w8.cell? ⟨g, 2, none⟩ = some (.int .i64 (a : Int)) := HS8.out.bk.cell' rfl
          have hf2 := HS8.out.bk.free 2
          go_wp2
          go_ret
          have hgw : g < w.heap.size := HB.out.lt
          have ho8 : Onl (one g) w8 (w8.setCell ⟨g, 2, none⟩ (.int .i64 ((a : Int) + (N : Int)))) := (Onl.refl _ _).set _ _ (fun _ => rfl)
          have hog : ¬ dskOf gd gs o7 g := fun h => by
            rcases h with h | h | h
            · exact HS8.out.h1 h
            · exact HS8.out.h2 h
            · rcases HS8.out.own g h with h | h
              · exact HS8.out.h3 h
              · omega
          refine ⟨by rw [HKE.out]; rfl, o7, c7, ?_, ?_, HS8.out.onl.set _ _ (fun _ => .inl rfl), HS8.out.own⟩
          · rw [HKD.out]
            exact H8.out.onl ho8 (fun k hk e => hog (by rw [← show k = g from e]; exact hk))
          · rw [HKE.out, if_pos rfl, ← HNe.out]
            have h := HS8.out.bk.set 2 (.int .i64 ((a : Int) + (N : Int)))
            rw [show (((a + N : Nat) : Int)) = (a : Int) + (N : Int) from by omega]
            exact h
end Go.Proofs.Ytenngchidlfaeaa
/- The book: down, changes, walked. -/
namespace Go.Proofs.Ytenngchidlfaeaa
open Go.RowKit
open Rad (Dsk)

theorem bne_decide (a b : Nat) : ((a : Int) != (b : Int)) = decide (a ≠ b) := by
  by_cases h : a = b
  · rw [eq_bne h]; simp [h]
  · rw [ne_bne h]; simp [h]
set_option maxRecDepth 100000 in
theorem down117 (g gl c gd gs cs : Nat) (rows : List (Option Addr × Nat)) (o : Option Addr) (cw : Nat) (D : Dsk) (B : Bk) (w : World) (h : BkAt w g gl c gd rows B) (hd : DskAt w gd gs cs o cw D) :
    Calls Try.prog 117 #[.pointer (some ⟨g, 0, none⟩)] w fun e w' => e = .returned (.bool (decide (B.falls ≠ D.falls))) ∧ Drw w w' := by
  have hc1 := h.c1
  have hc3 := h.c3
  have hc4 := hd.c4
  clear h hd
  go_enter Try.func117, Try.ntmps117
  go_wp2
  go_quiet (fail)
  go_wp2
  go_ret
  exact ⟨retBool (bne_decide _ _), ⟨nq, rfl⟩⟩
/-- does a message change the book -/
def Bk.changes (B : Bk) (e : Ent) : Bool := e.ok && B.fresh e.o.toNat e.n.toNat e.b
def entV (o n : Int) (s : ByteArray) : Value := .agg #[.int .i64 o, .int .i64 n, .string s]
theorem qcall {P : Program} {f : FuncId} {args : Array Value} {w : World} {x : Ext non w} {v : Value}
    (h : Calls P f args x.val fun e w' => e = .returned v ∧ Onl non x.val w') : Calls P f args x.val fun e w'' => e = .returned v ∧ ∃ y : Ext non w, w'' = y.val := qext h
theorem qcall_same {P : Program} {f : FuncId} {args : Array Value} {w : World} {x : Ext non w} {v : Value}
    (h : Calls P f args x.val fun e w' => e = .returned v ∧ x.val = w') : Calls P f args x.val fun e w'' => e = .returned v ∧ ∃ y : Ext non w, w'' = y.val := qext (h.mono fun _ w' ⟨a, b⟩ => ⟨a, by rw [← b]; exact Onl.refl _ _⟩)
set_option maxRecDepth 100000 in
theorem changes118_no (g _gl _c _gd : Nat) (_rows : List (Option Addr × Nat)) (_B : Bk) (o n : Int) (s : ByteArray) (w : World) (hs : s.size ≤ 9223372036854775807) (hk : ¬ OkE o n s.size) :
    Calls Try.prog 118 #[.pointer (some ⟨g, 0, none⟩), .agg #[.int .i64 o, .int .i64 n, .string s]] w fun e w' => e = .returned (.bool false) ∧ Onl non w w' := by
  have HC : Hid (∀ wx, Calls Try.prog 39 #[.agg #[.int .i64 o, .int .i64 n, .string s]] wx fun e w' => e = .returned (.int .i64 92) ∧ Onl non wx w') := Lib.hid (fun wx => CheckEntry_no o n s wx hs hk)
  clear hk
  obtain ⟨w1, hw1⟩ : ∃ w1, w1 = w.alloc (.cells #[.int .i64 o, .int .i64 n, .string s] 42) := ⟨_, rfl⟩
  have HB : Hid (Blk w1 w.heap.size 42 [.int .i64 o, .int .i64 n, .string s]) := Lib.hid (by rw [hw1]; exact Blk.new w 42 _)
  have HO : Hid (Onl non w w1) := Lib.hid (by rw [hw1]; exact (Onl.refl _ _).alloc _)
  go_enter Try.func118, Try.ntmps118
  go_wp2
  rw [← hw1]
  have h0 : ∀ x : Ext non w1, x.val.cell? ⟨w.heap.size, 0, none⟩ = some (.int .i64 o) := fun x => (HB.out.onl x.property (fun h => h)).cell' rfl
  have h1 : ∀ x : Ext non w1, x.val.cell? ⟨w.heap.size, 1, none⟩ = some (.int .i64 n) := fun x => (HB.out.onl x.property (fun h => h)).cell' rfl
  have h2 : ∀ x : Ext non w1, x.val.cell? ⟨w.heap.size, 2, none⟩ = some (.string s) := fun x => (HB.out.onl x.property (fun h => h)).cell' rfl
  refine wp_region_quiet_class (fun w' => ∃ x : Ext non w1, w' = x.val) (by kernel_rfl) (by kernel_rfl) ⟨⟨w1.drew, (Onl.refl non w1).drew⟩, rfl⟩ ?_
  repeat (go_big_quiet_step ((go_at_call 39; exact qext (HC.out _))))
  refine wpQuiet_nil ?_
  intro wz hw'
  obtain ⟨x, hx⟩ := hw'
  have hO := x.property
  rw [← hx] at hO
  clear h0 h1 h2 hx hw1
  go_wp2
  go_ret
  exact ⟨rfl, HO.out.trans hO (fun _ _ h => h)⟩
set_option maxRecDepth 100000 in
theorem changes118_far (g gl c gd : Nat) (rows : List (Option Addr × Nat)) (B : Bk) (o n : Nat) (s : ByteArray) (w : World) (h : BkAt w g gl c gd rows B) (hk : OkE o n s.size) (ho : B.logs.length ≤ o) :
    Calls Try.prog 118 #[.pointer (some ⟨g, 0, none⟩), .agg #[.int .i64 (o : Int), .int .i64 (n : Int), .string s]] w fun e w' => e = .returned (.bool false) ∧ Onl non w w' := by
  have HC : Hid (∀ wx, Calls Try.prog 39 #[.agg #[.int .i64 (o : Int), .int .i64 (n : Int), .string s]] wx fun e w' => e = .returned (.int .i64 0) ∧ Onl non wx w') := Lib.hid (fun wx => CheckEntry_ok o n s wx hk)
  have HW : Hid (∀ wx, Calls Try.prog 93 #[.int .i64 (o : Int), .int .i64 (B.logs.length : Int)] wx fun e w' => e = .returned (.bool false) ∧ wx = w') := Lib.hid (fun wx => within_f _ _ wx (by omega))
  have hss : s.size ≤ 1024 := hk.2.2
  clear hk ho
  obtain ⟨w1, hw1⟩ : ∃ w1, w1 = w.alloc (.cells #[.int .i64 (o : Int), .int .i64 (n : Int), .string s] 42) := ⟨_, rfl⟩
  have HB : Hid (Blk w1 w.heap.size 42 [.int .i64 (o : Int), .int .i64 (n : Int), .string s]) := Lib.hid (by rw [hw1]; exact Blk.new w 42 _)
  have HO : Hid (Onl non w w1) := Lib.hid (by rw [hw1]; exact (Onl.refl _ _).alloc _)
  have HBk : Hid (BkAt w1 g gl c gd rows B) := Lib.hid (h.onl HO.out (fun _ _ h => h))
  obtain ⟨m, hm⟩ : ∃ m, m = B.logs.length := ⟨_, rfl⟩
  rw [← hm] at HW
  have HM := Lib.hid hm
  clear h hm
  go_enter Try.func118, Try.ntmps118
  go_wp2
  rw [← hw1]
  have h0 : ∀ x : Ext non w1, x.val.cell? ⟨w.heap.size, 0, none⟩ = some (.int .i64 (o : Int)) := fun x => (HB.out.onl x.property (fun h => h)).cell' rfl
  have h1 : ∀ x : Ext non w1, x.val.cell? ⟨w.heap.size, 1, none⟩ = some (.int .i64 (n : Int)) := fun x => (HB.out.onl x.property (fun h => h)).cell' rfl
  have h2 : ∀ x : Ext non w1, x.val.cell? ⟨w.heap.size, 2, none⟩ = some (.string s) := fun x => (HB.out.onl x.property (fun h => h)).cell' rfl
  have h3 : ∀ x : Ext non w1, x.val.cell? ⟨g, 0, none⟩ = some (.slice (some ⟨gl, 0, none⟩) m c) := fun x => by rw [HM.out]; exact (HBk.out.onl x.property (fun _ _ h => h)).c0
  refine wp_region_quiet_class (fun w' => ∃ x : Ext non w1, w' = x.val) (by kernel_rfl) (by kernel_rfl) ⟨⟨w1.drew, (Onl.refl non w1).drew⟩, rfl⟩ ?_
  repeat (go_big_quiet_step ((first | (go_at_call 39; exact qext (HC.out _)) | (go_at_call 93; exact qcall_same (HW.out _)))))
  refine wpQuiet_nil ?_
  intro wz hw'
  obtain ⟨x, hx⟩ := hw'
  have hO := x.property
  rw [← hx] at hO
  clear h0 h1 h2 h3 hx hw1
  go_wp2
  go_ret
  exact ⟨rfl, HO.out.trans hO (fun _ _ h => h)⟩
theorem fresh_eq {B : Bk} {p : Nat} {l : List ByteArray} (h : B.logs[p]? = some l) (n : Nat) (b : ByteArray) : B.fresh p n b = (decide (n = l.length) || (decide (n < l.length) && blt b (l.getD n ⟨#[]⟩))) := by
  have hp : p < B.logs.length := (List.getElem?_eq_some_iff.1 h).1
  unfold Bk.fresh
  simp only [log_of h, hp, decide_true, Bool.true_and]
set_option maxRecDepth 100000 in
theorem changes118_near (g gl c gd : Nat) (rows : List (Option Addr × Nat)) (B : Bk) (o n : Nat) (s : ByteArray) (w : World) (h : BkAt w g gl c gd rows B) (hk : OkE o n s.size) (ho : o < B.logs.length) :
    Calls Try.prog 118 #[.pointer (some ⟨g, 0, none⟩), .agg #[.int .i64 (o : Int), .int .i64 (n : Int), .string s]] w fun e w' => e = .returned (.bool (B.fresh o n s)) ∧ Onl non w w' := by
  have HC : Hid (∀ wx, Calls Try.prog 39 #[.agg #[.int .i64 (o : Int), .int .i64 (n : Int), .string s]] wx fun e w' => e = .returned (.int .i64 0) ∧ Onl non wx w') := Lib.hid (fun wx => CheckEntry_ok o n s wx hk)
  have HW : Hid (∀ wx, Calls Try.prog 93 #[.int .i64 (o : Int), .int .i64 (B.logs.length : Int)] wx fun e w' => e = .returned (.bool true) ∧ wx = w') := Lib.hid (fun wx => within_t _ _ wx (by omega) (by omega))
  have hss : s.size ≤ 1024 := hk.2.2
  obtain ⟨l, hl⟩ : ∃ l, B.logs[o]? = some l := ⟨_, List.getElem?_eq_getElem ho⟩
  obtain ⟨r, hr⟩ : ∃ r, rows[o]? = some r := ⟨_, List.getElem?_eq_getElem (by rw [h.len]; exact ho)⟩
  have HFr : Hid (B.fresh o n s = (decide (n = l.length) || (decide (n < l.length) && blt s (l.getD n ⟨#[]⟩)))) := Lib.hid (fresh_eq hl n s)
  have hll : l.length ≤ 64 := h.in2 l (List.mem_of_getElem? hl)
  obtain ⟨w1, hw1⟩ : ∃ w1, w1 = w.alloc (.cells #[.int .i64 (o : Int), .int .i64 (n : Int), .string s] 42) := ⟨_, rfl⟩
  have HB : Hid (Blk w1 w.heap.size 42 [.int .i64 (o : Int), .int .i64 (n : Int), .string s]) := Lib.hid (by rw [hw1]; exact Blk.new w 42 _)
  have HO : Hid (Onl non w w1) := Lib.hid (by rw [hw1]; exact (Onl.refl _ _).alloc _)
  have HBk : Hid (BkAt w1 g gl c gd rows B) := Lib.hid (h.onl HO.out (fun _ _ h => h))
  have hn64 : n < 64 := by have := hk.2.1; omega
  obtain ⟨m, hm⟩ : ∃ m, m = B.logs.length := ⟨_, rfl⟩
  have hm8 : m ≤ 8 := by rw [hm]; exact h.in1
  rw [← hm] at HW ho
  have HM := Lib.hid hm
  have HL := Lib.hid hl
  have HR := Lib.hid hr
  clear h hm hl hr hk
  obtain ⟨ro, rc⟩ := r
  obtain ⟨k, hk⟩ : ∃ k, k = l.length := ⟨_, rfl⟩
  rw [← hk] at HFr hll
  have HKl := Lib.hid hk
  clear hk
  have HRow : Hid (∀ wx, Onl non w1 wx → wx.cell? ⟨gl, o, none⟩ = some (.slice ro k rc) ∧ Own wx 0 42 3 ro k rc (ecs o 0 l)) := Lib.hid (fun wx hx => by
    have hA := HBk.out.onl hx (fun _ _ h => h)
    rw [HKl.out]
    exact ⟨hA.cr HL.out HR.out, hA.row o l _ HL.out HR.out⟩)
  go_enter Try.func118, Try.ntmps118
  go_wp2
  rw [← hw1]
  have h0 : ∀ x : Ext non w1, x.val.cell? ⟨w.heap.size, 0, none⟩ = some (.int .i64 (o : Int)) := fun x => (HB.out.onl x.property (fun h => h)).cell' rfl
  have h1 : ∀ x : Ext non w1, x.val.cell? ⟨w.heap.size, 1, none⟩ = some (.int .i64 (n : Int)) := fun x => (HB.out.onl x.property (fun h => h)).cell' rfl
  have h2 : ∀ x : Ext non w1, x.val.cell? ⟨w.heap.size, 2, none⟩ = some (.string s) := fun x => (HB.out.onl x.property (fun h => h)).cell' rfl
  have h3 : ∀ x : Ext non w1, x.val.cell? ⟨g, 0, none⟩ = some (.slice (some ⟨gl, 0, none⟩) m c) := fun x => by rw [HM.out]; exact (HBk.out.onl x.property (fun _ _ h => h)).c0
  refine wp_region_quiet_class (fun w' => ∃ x : Ext non w1, w' = x.val) (by kernel_rfl) (by kernel_rfl) ⟨⟨w1.drew, (Onl.refl non w1).drew⟩, rfl⟩ ?_
  repeat (go_big_quiet_step ((first | (go_at_call 39; exact qext (HC.out _)) | (go_at_call 93; exact qcall_same (HW.out _)))))
  refine wpQuiet_nil ?_
  intro wz hw'
  obtain ⟨x, hx⟩ := hw'
  have hO := x.property
  rw [← hx] at hO
  have HOz := Lib.hid hO
  have k0 : wz.cell? ⟨w.heap.size, 0, none⟩ = some (.int .i64 (o : Int)) := by rw [hx]; exact h0 x
  have k1 : wz.cell? ⟨w.heap.size, 1, none⟩ = some (.int .i64 (n : Int)) := by rw [hx]; exact h1 x
  have k2 : wz.cell? ⟨w.heap.size, 2, none⟩ = some (.string s) := by rw [hx]; exact h2 x
  have k3 : wz.cell? ⟨g, 0, none⟩ = some (.slice (some ⟨gl, 0, none⟩) m c) := by rw [hx]; exact h3 x
  have k4 := (HRow.out wz hO).1
  clear h0 h1 h2 h3 hx hw1 hO
  have i0 : (0 : Int) ≤ (o : Int) := by omega
  have i1 : (o : Int) < (m : Int) := by omega
  go_wp2
  go_quiet (fail)
  obtain ⟨wq, hq⟩ : ∃ wq, wq = wz.drewN nq := ⟨_, rfl⟩
  rw [← hq]
  have hO2 : Onl non w1 wq := by rw [hq]; exact HOz.out.drewN nq
  have HOq := Lib.hid hO2
  have j1 : wq.cell? ⟨w.heap.size, 1, none⟩ = some (.int .i64 (n : Int)) := by rw [hq]; exact k1
  have j2 : wq.cell? ⟨w.heap.size, 2, none⟩ = some (.string s) := by rw [hq]; exact k2
  have HOw := Lib.hid (HRow.out wq hO2).2
  clear k0 k1 k2 k3 k4 i0 i1 hq hO2
  by_cases hc1 : n = k
  · have hb : ((n : Int) == (k : Int)) = true := by simp [hc1]
    have HE : Hid (B.fresh o n s = true) := Lib.hid (by rw [HFr.out, decide_eq_true hc1]; rfl)
    clear hc1
    go_wp2
    go_quiet (fail)
    go_wp2
    go_ret
    exact ⟨retBool HE.out.symm, (HO.out.trans HOq.out (fun _ _ h => h)).drewN _⟩
  · by_cases hc2 : n < k
    · obtain ⟨gr, ex, rfl, _, hbr, _, _, _⟩ := HOw.out.shape (by omega)
      obtain ⟨x, hx⟩ : ∃ x, l[n]? = some x := ⟨_, List.getElem?_eq_getElem (by rw [← HKl.out]; exact hc2)⟩
      have j3 : wq.cell? ⟨gr, n * 3 + 2, none⟩ = some (.string x) := hbr.cell_pre (ecs_get o hx).2.2
      have hb : ((n : Int) == (k : Int)) = false := ne_beq hc1
      have hd : decide ((n : Int) < (k : Int)) = true := decide_eq_true (by omega)
      have i0 : (0 : Int) ≤ (n : Int) := by omega
      have i1 : (n : Int) < (k : Int) := by omega
      have HE : Hid (B.fresh o n s = Op.bytesLess s.toList x.toList) := Lib.hid (by
        rw [HFr.out, decide_eq_false hc1, decide_eq_true hc2, List.getD_eq_getElem?_getD, hx]; rfl)
      clear hc1 hx hbr
      go_wp2
      go_quiet (fail)
      go_wp2
      go_ret
      exact ⟨retBool HE.out.symm, (HO.out.trans HOq.out (fun _ _ h => h)).drewN _⟩
    · have hb : ((n : Int) == (k : Int)) = false := ne_beq hc1
      have hd : decide ((n : Int) < (k : Int)) = false := decide_eq_false (by omega)
      have HE : Hid (B.fresh o n s = false) := Lib.hid (by rw [HFr.out, decide_eq_false hc1, decide_eq_false hc2]; rfl)
      clear hc1
      go_wp2
      go_quiet (fail)
      go_wp2
      go_ret
      exact ⟨retBool HE.out.symm, (HO.out.trans HOq.out (fun _ _ h => h)).drewN _⟩
end Go.Proofs.Ytenngchidlfaeaa
/- The book: change, write, walked. -/
namespace Go.Proofs.Ytenngchidlfaeaa
open Go.RowKit
open Rad (Dsk)

def ChPost (g gl c gd : Nat) (rows : List (Option Addr × Nat)) (B' : Bk) (w : World) (e : Ending) (w' : World) : Prop :=
  e = .returned (.tuple #[]) ∧ ∃ rows', BkAt w' g gl c gd rows' B' ∧ Onl (bkOf g gl rows) w w' ∧ (∀ k, bkOf g gl rows' k → bkOf g gl rows k ∨ w.heap.size ≤ k)
theorem info42 : (Try.prog.info? 42).map (fun i => (i.zero, i.size, i.bytes)) = some (some (.agg #[.int .i64 0, .int .i64 0, .string ⟨#[]⟩]), 3, 32) := by kernel_rfl
set_option maxRecDepth 100000 in
set_option maxHeartbeats 1000000 in
theorem change129 (g gl c gd : Nat) (rows : List (Option Addr × Nat)) (B : Bk) (o n : Nat) (s : ByteArray) (w : World) (h : BkAt w g gl c gd rows B) (hk : OkE o n s.size) (hf : B.fresh o n s = true) :
    Calls Try.prog 129 #[.pointer (some ⟨g, 0, none⟩), .agg #[.int .i64 (o : Int), .int .i64 (n : Int), .string s]] w fun e w' => ChPost g gl c gd rows (B.change o n s) w e w' := by
  have hss : s.size ≤ 1024 := hk.2.2
  have hn64 : n < 64 := by have := hk.2.1; omega
  have ho : o < B.logs.length := by
    unfold Bk.fresh at hf
    simp only [Bool.and_eq_true, decide_eq_true_eq] at hf
    exact hf.1
  obtain ⟨l, hl⟩ : ∃ l, B.logs[o]? = some l := ⟨_, List.getElem?_eq_getElem ho⟩
  obtain ⟨r, hr⟩ : ∃ r, rows[o]? = some r := ⟨_, List.getElem?_eq_getElem (by rw [h.len]; exact ho)⟩
  have hfr := fresh_eq hl n s
  rw [hf] at hfr
  have hnl : n = l.length ∨ n < l.length := by
    have h2 := hfr.symm
    simp only [Bool.or_eq_true, Bool.and_eq_true, decide_eq_true_eq] at h2
    rcases h2 with h2 | h2
    · exact .inl h2
    · exact .inr h2.1
  have hll : l.length ≤ 64 := h.in2 l (List.mem_of_getElem? hl)
  obtain ⟨w1, hw1⟩ : ∃ w1, w1 = w.alloc (.cells #[.int .i64 (o : Int), .int .i64 (n : Int), .string s] 42) := ⟨_, rfl⟩
  have HB : Hid (Blk w1 w.heap.size 42 [.int .i64 (o : Int), .int .i64 (n : Int), .string s]) := Lib.hid (by rw [hw1]; exact Blk.new w 42 _)
  have HO : Hid (Onl non w w1) := Lib.hid (by rw [hw1]; exact (Onl.refl _ _).alloc _)
  have HBk : Hid (BkAt w1 g gl c gd rows B) := Lib.hid (h.onl HO.out (fun _ _ h => h))
  obtain ⟨m, hm⟩ : ∃ m, m = B.logs.length := ⟨_, rfl⟩
  have hm8 : m ≤ 8 := by rw [hm]; exact h.in1
  rw [← hm] at ho
  obtain ⟨ro, rc⟩ := r
  have HNew : Hid (∀ k, ownOf ro k → k < w.heap.size) := Lib.hid (fun k hk => (h.lt (k := k) (.inr (.inr ⟨_, List.mem_of_getElem? hr, hk⟩))))
  have HM := Lib.hid hm
  have HL := Lib.hid hl
  have HR := Lib.hid hr
  clear h hm hl hr hk hf hfr
  obtain ⟨k, hk⟩ : ∃ k, k = l.length := ⟨_, rfl⟩
  rw [← hk] at hll hnl
  have HKl := Lib.hid hk
  clear hk
  go_enter Try.func129, Try.ntmps129
  go_wp2
  rw [← hw1]
  clear hw1
  have k0 : w1.cell? ⟨w.heap.size, 0, none⟩ = some (.int .i64 (o : Int)) := HB.out.cell' rfl
  have k3 : w1.cell? ⟨g, 0, none⟩ = some (.slice (some ⟨gl, 0, none⟩) m c) := by rw [HM.out]; exact HBk.out.c0
  have k4 : w1.cell? ⟨gl, o, none⟩ = some (.slice ro k rc) := by rw [HKl.out]; exact HBk.out.cr HL.out HR.out
  have i0 : (0 : Int) ≤ (o : Int) := by omega
  have i1 : (o : Int) < (m : Int) := by omega
  go_quiet (fail)
  obtain ⟨wq, hq⟩ : ∃ wq, wq = w1.drewN nq := ⟨_, rfl⟩
  rw [← hq]
  have HBq : Hid (Blk wq w.heap.size 42 [.int .i64 (o : Int), .int .i64 (n : Int), .string s]) := Lib.hid (by rw [hq]; exact HB.out)
  have HOq : Hid (Onl non w wq) := Lib.hid (by rw [hq]; exact HO.out.drewN nq)
  have HBkq : Hid (BkAt wq g gl c gd rows B) := Lib.hid (HBk.out.drw ⟨nq, hq⟩)
  clear k0 k3 k4 hq HB HO HBk
  have k1 : wq.cell? ⟨w.heap.size, 1, none⟩ = some (.int .i64 (n : Int)) := HBq.out.cell' rfl
  rcases hnl with hnk | hnk
  · have hb : ((n : Int) == (k : Int)) = true := by simp [hnk]
    have HNK := Lib.hid hnk
    clear hnk
    go_wp2
    clear k1 hb
    have HS : Hid (∀ wx, Onl (fun k => ownOf ro k ∨ k = gl) wq wx → wx.cell? ⟨g, 0, none⟩ = some (.slice (some ⟨gl, 0, none⟩) m c) ∧ wx.cell? ⟨w.heap.size, 0, none⟩ = some (.int .i64 (o : Int)) ∧ wx.cell? ⟨w.heap.size, 1, none⟩ = some (.int .i64 (n : Int)) ∧
        wx.cell? ⟨w.heap.size, 2, none⟩ = some (.string s)) := Lib.hid (by
      intro wx hx
      have hrow := HBkq.out.row o l _ HL.out HR.out
      have hgg : g ≠ gl := HBkq.out.book.ne_ HBkq.out.logs (by decide)
      have hb := HBkq.out.book.onl hx (fun hk => by
        rcases hk with hk | hk
        · exact hrow.ne_blk HBkq.out.book (by decide) hk
        · exact hgg hk)
      have hgn : w.heap.size ≠ gl := HBq.out.ne_ HBkq.out.logs (by decide)
      have he := HBq.out.onl hx (fun hk => by
        rcases hk with hk | hk
        · have := HNew.out _ hk; omega
        · exact hgn hk)
      exact ⟨by rw [HM.out]; exact hb.cell' rfl, he.cell' rfl, he.cell' rfl, he.cell' rfl⟩)
    have HC : Hid (∀ wx, Onl (ownOf ro) wq wx → wx.cell? ⟨gl, o, none⟩ = some (.slice ro k rc) ∧ wx.frozen? ⟨gl, o, none⟩ = false) := Lib.hid (by
      intro wx hx
      have hrow := HBkq.out.row o l _ HL.out HR.out
      have hg := HBkq.out.logs.onl hx (hrow.ne_blk HBkq.out.logs (by decide))
      refine ⟨?_, hg.free o⟩
      exact hg.cell' (by have h1 := HL.out; have h2 := HR.out; simp [List.getElem?_zipWith, h1, h2, rowV, HKl.out]))
    have HRw : Hid (Own wq 0 42 3 ro k rc (ecs o 0 l)) := Lib.hid (by rw [HKl.out]; exact HBkq.out.row o l _ HL.out HR.out)
    go_region_held3 (fun w' => w'.cell? ⟨g, 0, none⟩ = some (.slice (some ⟨gl, 0, none⟩) m c) ∧ w'.cell? ⟨w.heap.size, 0, none⟩ = some (.int .i64 (o : Int)) ∧ w'.cell? ⟨w.heap.size, 1, none⟩ = some (.int .i64 (n : Int)) ∧ w'.cell? ⟨w.heap.size, 2, none⟩ = some (.string s))
      (first | exact HS.out _ ((Onl.refl _ _).drewN 1) | exact HS.out _ (((Onl.refl _ _).drewN 1).alloc _) | exact HS.out _ ((((Onl.refl (fun k => ownOf ro k ∨ k = gl) _).drewN 1).alloc _).trans hA2 (fun _ _ h => .inl h)) | exact HS.out _ (((((Onl.refl (fun k => ownOf ro k ∨ k = gl) _).drewN 1).alloc _).trans hA2 (fun _ _ h => .inl h)).set _ _ (fun _ => .inr rfl)))
      ((refine step_app (by rfl) (.tmp 24) (.tmp 26) 46 (by rfl) 0 42 (.agg #[.int .i64 0, .int .i64 0, .string ⟨#[]⟩]) 3 32 Try.underlying46 info42 rfl (by decide) ro k rc (ecs o 0 l) (by rfl) ((HRw.out.drewN 1).alloc _) ⟨wq.heap.size, 0, none⟩ 1 1 (es [⟨o, n, s⟩]) (by rfl) (by rfl) ((Blk.new _ 42 (es [⟨o, n, s⟩])).cells) (es_one _) (by omega) (by omega) (by omega) ?_; intro o1 c1 wA hA1 hA2 hA3; have hcA := (HC.out _ ((((Onl.refl (ownOf ro) _).drewN 1).alloc _).trans hA2 (fun _ _ h => h))).1; have hfA := (HC.out _ ((((Onl.refl (ownOf ro) _).drewN 1).alloc _).trans hA2 (fun _ _ h => h))).2))
    have hA4 : Onl (ownOf ro) wq wA := (((Onl.refl (ownOf ro) _).drewN 1).alloc _).trans hA2 (fun _ _ h => h)
    have hA5 : Own wA 0 42 3 o1 (l.length + 1) c1 (ecs o 0 (l ++ [s])) := by
      have e : ecs o 0 (l ++ [s]) = ecs o 0 l ++ es [⟨o, n, s⟩] := by rw [ecs_snoc, HNK.out, HKl.out]; rfl
      rw [e, ← HKl.out]; exact hA1
    have hA6 := HBkq.out.app HL.out HR.out hss (by rw [← HKl.out, ← HNK.out]; exact hn64) hA5 hA4 (fun k hk => by
      rcases hA3 k hk with h | h
      · exact .inl h
      · exact .inr (by simp at h; omega))
    rw [← HKl.out] at hA6
    have HA6 := Lib.hid hA6
    clear hA1 hA2 hA3 hA4 hA5 hA6 hcA hfA
    go_wp2
    refine bodyPost_end (v := .tuple #[]) (by simp [results, Try.results129, go_sem]) rfl ⟨rfl, rows.set o (o1, c1), ?_, ?_, ?_⟩
    · rw [HNK.out]; exact HA6.out.1
    · exact (HOq.out.mono (fun _ h => h.elim)).trans HA6.out.2.1 (fun _ _ h => h)
    · intro j hj
      rcases HA6.out.2.2 j hj with h | h
      · exact .inl h
      · exact .inr (Nat.le_trans HOq.out.size h)
  · obtain ⟨gr, ex, rfl, _, hbr, _, _, hxl⟩ := (HBkq.out.row o l _ HL.out HR.out).shape (by rw [← HKl.out]; omega)
    have hb : ((n : Int) == (k : Int)) = false := ne_beq (by omega)
    have hel : (ecs o 0 l).length = k * 3 := by rw [ecs_length, HKl.out]
    obtain ⟨x, hx⟩ : ∃ x, l[n]? = some x := ⟨_, List.getElem?_eq_getElem (by rw [← HKl.out]; exact hnk)⟩
    have hg := ecs_get o hx
    have j0 : wq.cell? ⟨gr, n * 3, none⟩ = some (.int .i64 (o : Int)) := hbr.cell_pre hg.1
    have j1 : wq.cell? ⟨gr, n * 3 + 1, none⟩ = some (.int .i64 (n : Int)) := hbr.cell_pre hg.2.1
    have j2 : wq.cell? ⟨gr, n * 3 + 2, none⟩ = some (.string x) := hbr.cell_pre hg.2.2
    have f0 := hbr.free (n * 3)
    have f1 := hbr.free (n * 3 + 1)
    have f2 := hbr.free (n * 3 + 2)
    have k0 : wq.cell? ⟨w.heap.size, 0, none⟩ = some (.int .i64 (o : Int)) := HBq.out.cell' rfl
    have k2 : wq.cell? ⟨w.heap.size, 2, none⟩ = some (.string s) := HBq.out.cell' rfl
    have HR6 := Lib.hid (HBkq.out.rep HL.out HR.out hss (n := n) (by rw [← HKl.out]; exact hnk))
    clear hbr hxl hel hx hg
    go_wp2
    refine bodyPost_end (v := .tuple #[]) (by simp [results, Try.results129, go_sem]) rfl ⟨rfl, rows, HR6.out.1, (HOq.out.mono (fun _ h => h.elim)).trans HR6.out.2 (fun _ _ h => h), fun _ h => .inl h⟩
theorem BkAt.setPos {w w' : World} {g gl c gd gs cs : Nat} {o : Option Addr} {cw : Nat} {D : Dsk} {rows : List (Option Addr × Nat)} {B : Bk} (h : BkAt w g gl c gd rows B) (hd : DskAt w gd gs cs o cw D) (ho : Onl (fun k => k = g ∨ dskOf gd gs o k) w w') {p : Nat} (hp : p ≤ 4096)
    (hb : Blk w' g 165 [.slice (some ⟨gl, 0, none⟩) B.logs.length c, .pointer (some ⟨gd, 0, none⟩), .int .i64 (p : Int), .int .i64 (B.falls : Int)]) : BkAt w' g gl c gd rows { B with pos := p } := by
  have hn : ∀ k, bkOf g gl rows k → k ≠ g → ¬ (k = g ∨ dskOf gd gs o k) := fun k hk hkg hk2 => by
    rcases hk2 with rfl | hk2
    · exact hkg rfl
    · exact dsk_bk hd h hk2 hk
  refine ⟨hb, h.logs.onl ho (hn gl (.inr (.inl rfl)) (fun e => h.logs.ne_ h.book (by decide) e)), h.len, fun q l r hl hr => (h.row q l r hl hr).onl ho (fun k hk => hn k (.inr (.inr ⟨r, List.mem_of_getElem? hr, hk⟩)) (fun e => (h.row q l r hl hr).ne_blk h.book (by decide) (by rw [← e]; exact hk))), h.apart, h.in1, h.in2, h.in3, hp, h.in5⟩
theorem keepE_fit {D : Dsk} {a : Nat} {p : ByteArray} (h : keepE D a p = 0) : a + sectorsOf p.size ≤ D.safe.length := by
  unfold keepE at h
  split at h
  · cases h
  · omega
set_option maxRecDepth 100000 in
set_option maxHeartbeats 1000000 in
theorem write119 (F : Nat → Prop) (g gd : Nat) (D : Dsk) (B : Bk) (p n : Nat) (b : ByteArray) (N : Nat) (w : World) (h : Mach w F g gd D B) (hf : Fits D N) (hN : N ≤ 40000000) (hk : OkE p n b.size) (hfr : B.fresh p n b = true) :
    Calls Try.prog 119 #[.pointer (some ⟨g, 0, none⟩), .agg #[.int .i64 (p : Int), .int .i64 (n : Int), .string b]] w fun e w' => e = .returned (.int .i64 (putE D B p n b)) ∧ Went w F g gd w' (putD D B p n b) (putB D B p n b) := by
  obtain ⟨gl, c, rows, gs, cs, o, cw, hd, hb, hF⟩ := h
  have hbs : b.size ≤ 1024 := hk.2.2
  have hp8 : p < 256 := by have := hk.1; omega
  have hn64 : n < 256 := by have := hk.2.1; omega
  have HOk := Lib.hid hk
  have HFr := Lib.hid hfr
  have HF := Lib.hid hF
  have HFi := Lib.hid hf
  obtain ⟨w1, hw1⟩ : ∃ w1, w1 = w.alloc (.cells #[.int .i64 (p : Int), .int .i64 (n : Int), .string b] 42) := ⟨_, rfl⟩
  have HE : Hid (Blk w1 w.heap.size 42 [.int .i64 (p : Int), .int .i64 (n : Int), .string b]) := Lib.hid (by rw [hw1]; exact Blk.new w 42 _)
  have HO : Hid (Onl non w w1) := Lib.hid (by rw [hw1]; exact (Onl.refl _ _).alloc _)
  have HB := Lib.hid (hb.onl HO.out (fun _ _ h => h))
  have HD := Lib.hid (hd.onl HO.out (fun _ _ h => h))
  have HDl : Hid (∀ k, dskOf gd gs o k → k < w.heap.size) := Lib.hid (fun k hk => hd.lt hk)
  have HBl : Hid (∀ k, bkOf g gl rows k → k < w.heap.size) := Lib.hid (fun k hk => hb.lt hk)
  clear hb hd hF hf hk hfr
  go_enter Try.func119, Try.ntmps119
  go_wp2_with fail
  rw [← hw1]
  clear hw1
  have k0 : w1.cell? ⟨w.heap.size, 0, none⟩ = some (.int .i64 (p : Int)) := HE.out.cell' rfl
  have k1 : w1.cell? ⟨w.heap.size, 1, none⟩ = some (.int .i64 (n : Int)) := HE.out.cell' rfl
  have k2 : w1.cell? ⟨w.heap.size, 2, none⟩ = some (.string b) := HE.out.cell' rfl
  go_wp2_with fail
  refine (entryPayload162 p n b w1 hp8 hn64 (by omega)).mono ?_
  rintro e w2 ⟨rfl, hO2⟩
  have HO2 := Lib.hid hO2
  have HE2 := Lib.hid (HE.out.onl hO2 (fun h => h))
  have HB2 := Lib.hid (HB.out.onl hO2 (fun _ _ h => h))
  have HD2 := Lib.hid (HD.out.onl hO2 (fun _ _ h => h))
  clear hO2 k0 k1 k2 HE HB HD
  go_wp2_with fail
  refine (keep141 g gd gs cs o cw D _ _ B.pos N (epay p n b) w2 HB2.out.book HD2.out HFi.out (by omega) (by rw [epay_size]; omega) (by have := HB2.out.in4; omega)).mono ?_
  rintro e w3 ⟨rfl, o3, c3, hd3, hb3, ho3, hn3⟩
  have HD3 := Lib.hid hd3
  have HB3 := Lib.hid hb3
  have HO3 := Lib.hid ho3
  have HN3 := Lib.hid hn3
  have HE3 : Hid (Blk w3 w.heap.size 42 [.int .i64 (p : Int), .int .i64 (n : Int), .string b]) := Lib.hid (HE2.out.onl ho3 (fun h => by
    rcases h with h | h
    · have := HBl.out g (.inl rfl); omega
    · have := HDl.out _ h; omega))
  clear hd3 hb3 ho3 hn3 HE2
  obtain ⟨E, hE⟩ : ∃ E, E = keepE D B.pos (epay p n b) := ⟨_, rfl⟩
  have HPE : Hid (putE D B p n b = E) := Lib.hid (by rw [hE]; rfl)
  have hB3 := HB3.out
  rw [← hE] at hB3 ⊢
  have HB4 := Lib.hid hB3
  have HEe := Lib.hid hE
  clear hB3 HB3 hE
  have hlow : ∀ k, ownOf o3 k → F k ∨ w.heap.size ≤ k := fun k hk => by
    rcases HN3.out k hk with h | h
    · exact .inl ((HF.out k).2 (.inl (.inr (.inr h))))
    · exact .inr (by have := HO.out.size; have := HO2.out.size; omega)
  have hO03 : Onl F w w3 := ((HO.out.mono (T := F) (fun _ h => h.elim)).trans HO2.out (fun _ _ h => h.elim)).trans HO3.out (fun k _ hk => by
    rcases hk with rfl | hk
    · exact (HF.out _).2 (.inr (.inl rfl))
    · exact (HF.out _).2 (.inl hk))
  have HLow := Lib.hid hlow
  have HO03 := Lib.hid hO03
  clear hlow hO03
  by_cases h0 : E = 0
  · subst h0
    have HB5 : Hid (BkAt w3 g gl c gd rows { B with pos := B.pos + sectorsOf (epay p n b).size }) := Lib.hid (HB2.out.setPos HD2.out HO3.out (by
      have := keepE_fit HEe.out.symm
      have := HD2.out.in2
      omega) (by have h := HB4.out; rwa [if_pos rfl] at h))
    have k0 : w3.cell? ⟨w.heap.size, 0, none⟩ = some (.int .i64 (p : Int)) := HE3.out.cell' rfl
    have k1 : w3.cell? ⟨w.heap.size, 1, none⟩ = some (.int .i64 (n : Int)) := HE3.out.cell' rfl
    have k2 : w3.cell? ⟨w.heap.size, 2, none⟩ = some (.string b) := HE3.out.cell' rfl
    go_wp2_with fail
    refine (change129 g gl c gd rows { B with pos := B.pos + sectorsOf (epay p n b).size } p n b w3 HB5.out HOk.out HFr.out).mono ?_
    rintro e w4 ⟨rfl, rows', hb4, ho4, hn4⟩
    have HB6 := Lib.hid hb4
    have HO6 := Lib.hid ho4
    have HN6 := Lib.hid hn4
    clear hb4 ho4 hn4 k0 k1 k2
    go_wp2
    go_ret
    refine ⟨by rw [HPE.out]; rfl, fun k => dskOf gd gs o3 k ∨ bkOf g gl rows' k, ?_, ?_, ?_⟩
    · have hpb : putB D B p n b = ({ B with pos := B.pos + sectorsOf (epay p n b).size } : Bk).change p n b := by
        unfold putB; rw [if_pos HPE.out]; rfl
      rw [hpb]
      exact ⟨gl, c, rows', gs, cs, o3, c3, HD3.out.onl HO6.out (fun k hk hk2 => dsk_bk HD3.out HB5.out hk hk2), HB6.out, fun _ => Iff.rfl⟩
    · intro k hk
      rcases hk with hk | hk
      · rcases hk with rfl | rfl | hk
        · exact .inl ((HF.out _).2 (.inl (.inl rfl)))
        · exact .inl ((HF.out _).2 (.inl (.inr (.inl rfl))))
        · exact HLow.out k hk
      · rcases HN6.out k hk with h | h
        · exact .inl ((HF.out _).2 (.inr h))
        · exact .inr (Nat.le_trans HO03.out.size h)
    · exact HO03.out.trans HO6.out (fun k _ hk => (HF.out _).2 (.inr hk))
  · have hb0 : (E != 0) = true := by rw [bne_iff_ne]; exact h0
    have H0 := Lib.hid h0
    clear h0
    go_wp2
    go_ret
    refine ⟨by rw [HPE.out]; rfl, fun k => dskOf gd gs o3 k ∨ bkOf g gl rows k, ?_, ?_, HO03.out⟩
    · have hpb : putB D B p n b = B := by unfold putB; rw [if_neg (by rw [HPE.out]; exact H0.out)]
      rw [hpb]
      have h := HB4.out
      rw [if_neg H0.out] at h
      exact ⟨gl, c, rows, gs, cs, o3, c3, HD3.out, HB2.out.setPos HD2.out HO3.out HB2.out.in4 h, fun _ => Iff.rfl⟩
    · intro k hk
      rcases hk with hk | hk
      · rcases hk with rfl | rfl | hk
        · exact .inl ((HF.out _).2 (.inl (.inl rfl)))
        · exact .inl ((HF.out _).2 (.inl (.inr (.inl rfl))))
        · exact HLow.out k hk
      · exact .inl ((HF.out _).2 (.inr hk))
end Go.Proofs.Ytenngchidlfaeaa
/- The book: Add, walked. -/
namespace Go.Proofs.Ytenngchidlfaeaa
open Go.RowKit
open Rad (Dsk)

def AddPost (F : Nat → Prop) (g gd : Nat) (D : Dsk) (B : Bk) (x : Ent) (w : World) (e : Ending) (w' : World) : Prop :=
  e = .returned (.int .i64 (addE D B x)) ∧ Went w F g gd w' (addD D B x) (addB D B x)
theorem add_off {D : Dsk} {B : Bk} {x : Ent} (h : addW D B x = false) : addE D B x = addX D B x ∧ addD D B x = D ∧ addB D B x = B := by
  unfold addE addD addB; simp [h]
theorem Went.weak {w w' : World} {F : Nat → Prop} {g gd : Nat} {D : Dsk} {B : Bk} (h : Mach w F g gd D B) (ho : Onl non w w') {x : Ent} (hx : addW D B x = false) : Went w F g gd w' (addD D B x) (addB D B x) := by
  rw [(add_off hx).2.1, (add_off hx).2.2]; exact Went.of h ho
theorem Went.andThen_same {w w1 w2 : World} {F : Nat → Prop} {g gd : Nat} {D' : Dsk} {B' : Bk} (h : Onl non w w1) (k : Went w1 F g gd w2 D' B') : Went w F g gd w2 D' B' := by
  obtain ⟨F2, hm2, hf2, ho2⟩ := k
  refine ⟨F2, hm2, fun k hk => ?_, (h.mono (fun _ h => h.elim)).trans ho2 (fun _ _ h => h)⟩
  rcases hf2 k hk with h2 | h2
  · exact .inl h2
  · exact .inr (Nat.le_trans h.size h2)
set_option maxRecDepth 100000 in
set_option maxHeartbeats 1000000 in
theorem Add73 (F : Nat → Prop) (g gd : Nat) (D : Dsk) (B : Bk) (o n : Int) (s : ByteArray) (N : Nat) (w : World) (h : Mach w F g gd D B) (hf : Fits D N) (hN : N ≤ 40000000) (hs : s.size ≤ 9223372036854775807) :
    Calls Try.prog 73 #[.pointer (some ⟨g, 0, none⟩), .agg #[.int .i64 o, .int .i64 n, .string s]] w fun e w' => AddPost F g gd D B ⟨o, n, s⟩ w e w' := by
  have HM := Lib.hid h
  have HFi := Lib.hid hf
  obtain ⟨gl, c, rows, gs, cs, ow, cw, hd, hb, hF⟩ := h
  obtain ⟨w1, hw1⟩ : ∃ w1, w1 = w.alloc (.cells #[.int .i64 o, .int .i64 n, .string s] 42) := ⟨_, rfl⟩
  have HE : Hid (Blk w1 w.heap.size 42 [.int .i64 o, .int .i64 n, .string s]) := Lib.hid (by rw [hw1]; exact Blk.new w 42 _)
  have HO : Hid (Onl non w w1) := Lib.hid (by rw [hw1]; exact (Onl.refl _ _).alloc _)
  have HDown : Hid (∀ wx, Onl non w wx → Calls Try.prog 117 #[.pointer (some ⟨g, 0, none⟩)] wx fun e w' => e = .returned (.bool (decide (B.falls ≠ D.falls))) ∧ Drw wx w') := Lib.hid (fun wx hx => down117 g gl c gd gs cs rows ow cw D B wx (hb.onl hx (fun _ _ h => h)) (hd.onl hx (fun _ _ h => h)))
  have HB := Lib.hid hb
  clear hf hF hd hb
  by_cases hfl : B.falls = D.falls
  rotate_left
  · have hdn : decide (B.falls ≠ D.falls) = true := decide_eq_true hfl
    have HFl := Lib.hid hfl
    rw [hdn] at HDown
    clear hfl hdn
    go_enter Try.func73, Try.ntmps73
    go_wp2_with fail
    rw [← hw1]
    clear hw1
    refine (HDown.out w1 HO.out).mono ?_
    rintro e w2 ⟨rfl, hd2⟩
    have HD2 := Lib.hid hd2
    clear hd2
    go_wp2
    go_ret
    have hx : addW D B ⟨o, n, s⟩ = false := by unfold addW; rw [decide_eq_false HFl.out]; rfl
    refine ⟨?_, Went.weak HM.out (HO.out.of_drw HD2.out) hx⟩
    rw [(add_off hx).1, addX, if_pos HFl.out]; rfl
  · have hdn : decide (B.falls ≠ D.falls) = false := by simp [hfl]
    have HFl := Lib.hid hfl
    rw [hdn] at HDown
    clear hfl hdn
    by_cases hk : OkE o n s.size
    rotate_left
    · have HC : Hid (∀ wx, Calls Try.prog 39 #[.agg #[.int .i64 o, .int .i64 n, .string s]] wx fun e w' => e = .returned (.int .i64 92) ∧ Onl non wx w') := Lib.hid (fun wx => CheckEntry_no o n s wx hs hk)
      have HK := Lib.hid hk
      clear hk
      go_enter Try.func73, Try.ntmps73
      go_wp2_with fail
      rw [← hw1]
      clear hw1
      refine (HDown.out w1 HO.out).mono ?_
      rintro e w2 ⟨rfl, hd2⟩
      have HE2 := Lib.hid (HE.out.drw hd2)
      have HO2 := Lib.hid (HO.out.of_drw hd2)
      clear hd2 HE HO
      go_wp2
      have h0 : ∀ x : Ext non w2, x.val.cell? ⟨w.heap.size, 0, none⟩ = some (.int .i64 o) := fun x => (HE2.out.onl x.property (fun h => h)).cell' rfl
      have h1 : ∀ x : Ext non w2, x.val.cell? ⟨w.heap.size, 1, none⟩ = some (.int .i64 n) := fun x => (HE2.out.onl x.property (fun h => h)).cell' rfl
      have h2 : ∀ x : Ext non w2, x.val.cell? ⟨w.heap.size, 2, none⟩ = some (.string s) := fun x => (HE2.out.onl x.property (fun h => h)).cell' rfl
      refine wp_region_quiet_class (fun w' => ∃ x : Ext non w2, w' = x.val) (by kernel_rfl) (by kernel_rfl) ⟨⟨w2.drew, (Onl.refl non w2).drew⟩, rfl⟩ ?_
      repeat (go_big_quiet_step ((go_at_call 39; exact qext (HC.out _))))
      refine wpQuiet_nil ?_
      intro wz hw'
      obtain ⟨x, hx⟩ := hw'
      have hO := x.property
      rw [← hx] at hO
      clear h0 h1 h2 hx
      go_wp2
      go_ret
      have hok : (Ent.mk o n s).ok = false := decide_eq_false HK.out
      have hx : addW D B ⟨o, n, s⟩ = false := by unfold addW; rw [hok]; simp
      refine ⟨?_, Went.weak HM.out (HO2.out.trans hO (fun _ _ h => h)) hx⟩
      rw [(add_off hx).1, addX, if_neg (by simp [HFl.out]), hok]; rfl
    · obtain ⟨o, rfl⟩ : ∃ o' : Nat, o = (o' : Int) := ⟨o.toNat, by have := hk.1; omega⟩
      obtain ⟨n, rfl⟩ : ∃ n' : Nat, n = (n' : Int) := ⟨n.toNat, by have := hk.2.1; omega⟩
      have HC : Hid (∀ wx, Calls Try.prog 39 #[.agg #[.int .i64 (o : Int), .int .i64 (n : Int), .string s]] wx fun e w' => e = .returned (.int .i64 0) ∧ Onl non wx w') := Lib.hid (fun wx => CheckEntry_ok o n s wx hk)
      have HK := Lib.hid hk
      have hok : (Ent.mk (o : Int) (n : Int) s).ok = true := decide_eq_true hk
      have HOk := Lib.hid hok
      have hss : s.size ≤ 1024 := hk.2.2
      have hn64 : n < 64 := by have := hk.2.1; omega
      obtain ⟨m, hm⟩ : ∃ m, m = B.logs.length := ⟨_, rfl⟩
      have hm8 : m ≤ 8 := by rw [hm]; exact HB.out.in1
      have HMm := Lib.hid hm
      clear hm hk hok
      by_cases ho : o < m
      rotate_left
      · have HW : Hid (∀ wx, Calls Try.prog 93 #[.int .i64 (o : Int), .int .i64 (m : Int)] wx fun e w' => e = .returned (.bool false) ∧ wx = w') := Lib.hid (fun wx => within_f _ _ wx (by omega))
        go_enter Try.func73, Try.ntmps73
        go_wp2_with fail
        rw [← hw1]
        clear hw1
        refine (HDown.out w1 HO.out).mono ?_
        rintro e w2 ⟨rfl, hd2⟩
        have HE2 := Lib.hid (HE.out.drw hd2)
        have HO2 := Lib.hid (HO.out.of_drw hd2)
        clear hd2 HE HO
        go_wp2
        have h0 : ∀ x : Ext non w2, x.val.cell? ⟨w.heap.size, 0, none⟩ = some (.int .i64 (o : Int)) := fun x => (HE2.out.onl x.property (fun h => h)).cell' rfl
        have h1 : ∀ x : Ext non w2, x.val.cell? ⟨w.heap.size, 1, none⟩ = some (.int .i64 (n : Int)) := fun x => (HE2.out.onl x.property (fun h => h)).cell' rfl
        have h2 : ∀ x : Ext non w2, x.val.cell? ⟨w.heap.size, 2, none⟩ = some (.string s) := fun x => (HE2.out.onl x.property (fun h => h)).cell' rfl
        have h3 : ∀ x : Ext non w2, x.val.cell? ⟨g, 0, none⟩ = some (.slice (some ⟨gl, 0, none⟩) m c) := fun x => by rw [HMm.out]; exact ((HB.out.onl HO2.out (fun _ _ h => h)).onl x.property (fun _ _ h => h)).c0
        refine wp_region_quiet_class (fun w' => ∃ x : Ext non w2, w' = x.val) (by kernel_rfl) (by kernel_rfl) ⟨⟨w2.drew, (Onl.refl non w2).drew⟩, rfl⟩ ?_
        repeat (go_big_quiet_step ((first | (go_at_call 39; exact qext (HC.out _)) | (go_at_call 93; exact qcall_same (HW.out _)))))
        refine wpQuiet_nil ?_
        intro wz hw'
        obtain ⟨x, hx⟩ := hw'
        have hO := x.property
        rw [← hx] at hO
        clear h0 h1 h2 h3 hx
        go_wp2
        go_ret
        have hlt : decide ((o : Int).toNat < B.logs.length) = false := decide_eq_false (by rw [← HMm.out]; simpa using ho)
        have hx : addW D B ⟨o, n, s⟩ = false := by unfold addW; simp only [hlt, Bool.and_false, Bool.false_and]
        refine ⟨?_, Went.weak HM.out (HO2.out.trans hO (fun _ _ h => h)) hx⟩
        rw [(add_off hx).1, addX, if_neg (by simp [HFl.out])]
        simp only [hlt, Bool.and_false]; rfl
      · have HW : Hid (∀ wx, Calls Try.prog 93 #[.int .i64 (o : Int), .int .i64 (m : Int)] wx fun e w' => e = .returned (.bool true) ∧ wx = w') := Lib.hid (fun wx => within_t _ _ wx (by omega) (by omega))
        have hom : o < B.logs.length := by rw [← HMm.out]; exact ho
        obtain ⟨l, hl⟩ : ∃ l, B.logs[o]? = some l := ⟨_, List.getElem?_eq_getElem hom⟩
        obtain ⟨r, hr⟩ : ∃ r, rows[o]? = some r := ⟨_, List.getElem?_eq_getElem (by rw [HB.out.len]; exact hom)⟩
        have hll : l.length ≤ 64 := HB.out.in2 l (List.mem_of_getElem? hl)
        have HL := Lib.hid hl
        have HR := Lib.hid hr
        have HLog : Hid (B.log o = l) := Lib.hid (log_of hl)
        have HLt : Hid (decide ((o : Int).toNat < B.logs.length) = true) := Lib.hid (decide_eq_true (by simpa using hom))
        clear hl hr hom
        obtain ⟨ro, rc⟩ := r
        obtain ⟨k, hk⟩ : ∃ k, k = l.length := ⟨_, rfl⟩
        rw [← hk] at hll
        have HKl := Lib.hid hk
        clear hk
        have HRow : Hid (∀ wx, Onl non w wx → wx.cell? ⟨gl, o, none⟩ = some (.slice ro k rc) ∧ Own wx 0 42 3 ro k rc (ecs o 0 l)) := Lib.hid (fun wx hx => by
          have hA := HB.out.onl hx (fun _ _ h => h)
          rw [HKl.out]
          exact ⟨hA.cr HL.out HR.out, hA.row o l _ HL.out HR.out⟩)
        have hgd : Try.prog.eqGuardType Try.prog.depth 42 = false := by kernel_rfl
        go_enter Try.func73, Try.ntmps73
        go_wp2_with fail
        rw [← hw1]
        clear hw1
        refine (HDown.out w1 HO.out).mono ?_
        rintro e w2 ⟨rfl, hd2⟩
        have HE2 := Lib.hid (HE.out.drw hd2)
        have HO2 := Lib.hid (HO.out.of_drw hd2)
        clear hd2 HE HO
        go_wp2
        have h0 : ∀ x : Ext non w2, x.val.cell? ⟨w.heap.size, 0, none⟩ = some (.int .i64 (o : Int)) := fun x => (HE2.out.onl x.property (fun h => h)).cell' rfl
        have h1 : ∀ x : Ext non w2, x.val.cell? ⟨w.heap.size, 1, none⟩ = some (.int .i64 (n : Int)) := fun x => (HE2.out.onl x.property (fun h => h)).cell' rfl
        have h2 : ∀ x : Ext non w2, x.val.cell? ⟨w.heap.size, 2, none⟩ = some (.string s) := fun x => (HE2.out.onl x.property (fun h => h)).cell' rfl
        have h3 : ∀ x : Ext non w2, x.val.cell? ⟨g, 0, none⟩ = some (.slice (some ⟨gl, 0, none⟩) m c) := fun x => by rw [HMm.out]; exact ((HB.out.onl HO2.out (fun _ _ h => h)).onl x.property (fun _ _ h => h)).c0
        refine wp_region_quiet_class (fun w' => ∃ x : Ext non w2, w' = x.val) (by kernel_rfl) (by kernel_rfl) ⟨⟨w2.drew, (Onl.refl non w2).drew⟩, rfl⟩ ?_
        repeat (go_big_quiet_step ((first | (go_at_call 39; exact qext (HC.out _)) | (go_at_call 93; exact qcall_same (HW.out _)))))
        refine wpQuiet_nil ?_
        intro wz hw'
        obtain ⟨x, hx⟩ := hw'
        have hO := x.property
        rw [← hx] at hO
        have HE3 := Lib.hid (HE2.out.onl hO (fun h => h))
        have HO3 := Lib.hid (HO2.out.trans hO (fun _ _ h => h))
        clear h0 h1 h2 h3 hx hO
        have k0 : wz.cell? ⟨w.heap.size, 0, none⟩ = some (.int .i64 (o : Int)) := HE3.out.cell' rfl
        have k3 : wz.cell? ⟨g, 0, none⟩ = some (.slice (some ⟨gl, 0, none⟩) m c) := by rw [HMm.out]; exact (HB.out.onl HO3.out (fun _ _ h => h)).c0
        have k4 := (HRow.out wz HO3.out).1
        have i0 : (0 : Int) ≤ (o : Int) := by omega
        have i1 : (o : Int) < (m : Int) := by omega
        go_wp2
        go_quiet (fail)
        obtain ⟨wq, hq⟩ : ∃ wq, wq = wz.drewN nq := ⟨_, rfl⟩
        rw [← hq]
        have HE4 : Hid (Blk wq w.heap.size 42 [.int .i64 (o : Int), .int .i64 (n : Int), .string s]) := Lib.hid (by rw [hq]; exact HE3.out)
        have HO4 : Hid (Onl non w wq) := Lib.hid (by rw [hq]; exact HO3.out.drewN nq)
        clear k0 k3 k4 hq HE3 HO3 HE2 HO2 i0 i1
        have k0 : wq.cell? ⟨w.heap.size, 0, none⟩ = some (.int .i64 (o : Int)) := HE4.out.cell' rfl
        have k1 : wq.cell? ⟨w.heap.size, 1, none⟩ = some (.int .i64 (n : Int)) := HE4.out.cell' rfl
        have k2 : wq.cell? ⟨w.heap.size, 2, none⟩ = some (.string s) := HE4.out.cell' rfl
        by_cases hnk : n < k
        · obtain ⟨gr, ex, rfl, _, hbr, _, _, _⟩ := (HRow.out wq HO4.out).2.shape (by omega)
          obtain ⟨x, hx⟩ : ∃ x, l[n]? = some x := ⟨_, List.getElem?_eq_getElem (by rw [← HKl.out]; exact hnk)⟩
          have hg := ecs_get o hx
          have j0 : wq.cell? ⟨gr, n * 3, none⟩ = some (.int .i64 (o : Int)) := hbr.cell_pre hg.1
          have j1 : wq.cell? ⟨gr, n * 3 + 1, none⟩ = some (.int .i64 (n : Int)) := hbr.cell_pre hg.2.1
          have j2 : wq.cell? ⟨gr, n * 3 + 2, none⟩ = some (.string x) := hbr.cell_pre hg.2.2
          have hd : decide ((n : Int) < (k : Int)) = true := decide_eq_true (by omega)
          have i0 : (0 : Int) ≤ (n : Int) := by omega
          have i1 : (n : Int) < (k : Int) := by omega
          have HX := Lib.hid hx
          have HNE : Hid (addW D B ⟨o, n, s⟩ = false) := Lib.hid (by
            unfold addW
            have e : decide ((n : Int).toNat = (B.log (o : Int).toNat).length) = false := decide_eq_false (by simp only [Int.toNat_natCast, HLog.out, ← HKl.out]; omega)
            simp only [e, Bool.and_false])
          have HAX : Hid (addX D B ⟨o, n, s⟩ = if x = s then 0 else 92) := Lib.hid (by
            unfold addX
            simp only [HOk.out, HLt.out]
            rw [if_neg (by simp [HFl.out])]
            simp only [Bool.and_self, if_true, Int.toNat_natCast, HLog.out, HX.out, Option.some.injEq])
          clear hbr hx hg
          by_cases hxs : x = s
          · have heq : ∀ wx, (binOp .eql 42 (.agg #[.int .i64 (o : Int), .int .i64 (n : Int), .string x]) (.agg #[.int .i64 (o : Int), .int .i64 (n : Int), .string s])).run Try.prog wx = .ok (.bool true) wx := fun wx => by
              rw [eql42, eqE_iff, decide_eq_true ⟨rfl, rfl, hxs⟩]
            have HXS := Lib.hid hxs
            clear hxs
            go_wp2
            go_quiet (fail)
            go_wp2
            go_ret
            refine ⟨?_, Went.weak HM.out (HO4.out.drewN _) HNE.out⟩
            rw [(add_off HNE.out).1, HAX.out, if_pos HXS.out]; rfl
          · have heq : ∀ wx, (binOp .eql 42 (.agg #[.int .i64 (o : Int), .int .i64 (n : Int), .string x]) (.agg #[.int .i64 (o : Int), .int .i64 (n : Int), .string s])).run Try.prog wx = .ok (.bool false) wx := fun wx => by
              rw [eql42, eqE_iff, decide_eq_false (fun h => hxs h.2.2)]
            have HXS := Lib.hid hxs
            have hb : ((n : Int) != (k : Int)) = true := ne_bne (by omega)
            clear hxs
            go_wp2
            go_quiet (fail)
            go_wp2
            go_ret
            refine ⟨?_, Went.weak HM.out (HO4.out.drewN _) HNE.out⟩
            rw [(add_off HNE.out).1, HAX.out, if_neg HXS.out]; rfl
        · have hd : decide ((n : Int) < (k : Int)) = false := decide_eq_false (by omega)
          by_cases hnk2 : n = k
          · have hb : ((n : Int) != (k : Int)) = false := eq_bne hnk2
            have HWt : Hid (addW D B ⟨o, n, s⟩ = true) := Lib.hid (by
              unfold addW
              have e : decide ((n : Int).toNat = (B.log (o : Int).toNat).length) = true := decide_eq_true (by simp only [Int.toNat_natCast, HLog.out, ← HKl.out]; exact hnk2)
              simp only [e, HOk.out, HLt.out, decide_eq_true HFl.out, Bool.and_self])
            have hfr : B.fresh o n s = true := by rw [fresh_eq HL.out, ← HKl.out, decide_eq_true hnk2]; rfl
            have HFr := Lib.hid hfr
            clear hnk2 hfr
            go_wp2
            go_quiet (fail)
            obtain ⟨wy, hy⟩ : ∃ wy, wy = wq.drewN nq := ⟨_, rfl⟩
            rw [← hy]
            have HE5 : Hid (Blk wy w.heap.size 42 [.int .i64 (o : Int), .int .i64 (n : Int), .string s]) := Lib.hid (by rw [hy]; exact HE4.out)
            have HO5 : Hid (Onl non w wy) := Lib.hid (by rw [hy]; exact HO4.out.drewN nq)
            clear k0 k1 k2 hy HE4 HO4
            have k0 : wy.cell? ⟨w.heap.size, 0, none⟩ = some (.int .i64 (o : Int)) := HE5.out.cell' rfl
            have k1 : wy.cell? ⟨w.heap.size, 1, none⟩ = some (.int .i64 (n : Int)) := HE5.out.cell' rfl
            have k2 : wy.cell? ⟨w.heap.size, 2, none⟩ = some (.string s) := HE5.out.cell' rfl
            go_wp2_with fail
            refine (write119 F g gd D B o n s N wy (HM.out.onl HO5.out (fun _ _ h => h)) HFi.out hN HK.out HFr.out).mono ?_
            rintro e w9 ⟨rfl, hw9⟩
            have HW9 := Lib.hid hw9
            clear hw9 k0 k1 k2
            go_wp2
            go_ret
            refine ⟨by unfold addE; rw [if_pos HWt.out]; rfl, ?_⟩
            have e1 : addD D B ⟨o, n, s⟩ = putD D B o n s := by unfold addD; rw [if_pos HWt.out]; rfl
            have e2 : addB D B ⟨o, n, s⟩ = putB D B o n s := by unfold addB; rw [if_pos HWt.out]; rfl
            rw [e1, e2]
            exact Went.andThen_same HO5.out HW9.out
          · have hb : ((n : Int) != (k : Int)) = true := ne_bne hnk2
            have HNE : Hid (addW D B ⟨o, n, s⟩ = false) := Lib.hid (by
              unfold addW
              have e : decide ((n : Int).toNat = (B.log (o : Int).toNat).length) = false := decide_eq_false (by simp only [Int.toNat_natCast, HLog.out, ← HKl.out]; omega)
              simp only [e, Bool.and_false])
            have HAX : Hid (addX D B ⟨o, n, s⟩ = 92) := Lib.hid (by
              unfold addX
              simp only [HOk.out, HLt.out]
              rw [if_neg (by simp [HFl.out])]
              have e : l[n]? = none := List.getElem?_eq_none (by rw [← HKl.out]; omega)
              simp [Int.toNat_natCast, HLog.out, e])
            clear hnk2
            go_wp2
            go_quiet (fail)
            go_wp2
            go_ret
            refine ⟨?_, Went.weak HM.out (HO4.out.drewN _) HNE.out⟩
            rw [(add_off HNE.out).1, HAX.out]; rfl
end Go.Proofs.Ytenngchidlfaeaa
/- The book: Make, walked. -/
namespace Go.Proofs.Ytenngchidlfaeaa
open Go.RowKit
open Rad (Dsk)

set_option maxRecDepth 100000 in
theorem Make81_nil (m : Int) (w : World) : Calls Try.prog 81 #[.pointer none, .int .i64 m] w fun e w' => e = .returned (.tuple #[.pointer none, .int .i64 1]) ∧ w = w' := by
  go_enter Try.func81, Try.ntmps81
  go_wp2
  go_ret2
  exact ⟨rfl, rfl⟩
set_option maxRecDepth 100000 in
theorem Make81_arg (g gs cs : Nat) (o : Option Addr) (cw : Nat) (D : Dsk) (m : Int) (w : World) (_h : DskAt w g gs cs o cw D) (hm : m < 1 ∨ 8 < m) : Calls Try.prog 81 #[.pointer (some ⟨g, 0, none⟩), .int .i64 m] w fun e w' => e = .returned (.tuple #[.pointer none, .int .i64 1]) ∧ w = w' := by
  rcases hm with hm | hm
  · go_enter Try.func81, Try.ntmps81
    go_wp2
    go_ret2
    exact ⟨rfl, rfl⟩
  · have h1 : ¬ m < 1 := by omega
    go_enter Try.func81, Try.ntmps81
    go_wp2
    go_ret2
    exact ⟨rfl, rfl⟩
def MakePost (F : Nat → Prop) (gd : Nat) (D : Dsk) (m : Nat) (w : World) (e : Ending) (w' : World) : Prop :=
  (makeE D m ≠ 0 ∧ e = .returned (.tuple #[.pointer none, .int .i64 (makeE D m)]) ∧ DWent w F gd w' (makeD D m)) ∨
  (makeE D m = 0 ∧ ∃ g, e = .returned (.tuple #[.pointer (some ⟨g, 0, none⟩), .int .i64 0]) ∧ w.heap.size ≤ g ∧ ∃ F', Mach w' F' g gd (makeD D m) (makeB D m) ∧ (∀ k, F' k → F k ∨ w.heap.size ≤ k) ∧ Onl F w w')
theorem info46 : (Try.prog.info? 46).map (fun i => (i.zero, i.size, i.bytes)) = some (some (.slice none 0 0), 1, 24) := by kernel_rfl
set_option maxRecDepth 100000 in
set_option maxHeartbeats 1000000 in
theorem Make81_run (F : Nat → Prop) (gd : Nat) (D : Dsk) (m N : Nat) (w : World) (h : DM w F gd D) (hf : Fits D N) (hN : N ≤ 40000000) (h1 : 1 ≤ m) (h2 : m ≤ 8) :
    Calls Try.prog 81 #[.pointer (some ⟨gd, 0, none⟩), .int .i64 (m : Int)] w fun e w' => MakePost F gd D m w e w' := by
  have HDM := Lib.hid h
  obtain ⟨gs, cs, o, cw, hd, hF⟩ := h
  have HF := Lib.hid hF
  have HFi := Lib.hid hf
  have HD := Lib.hid hd
  have hup := Up60 gd gs cs o cw D w hd
  have b1 : ¬ (m : Int) < 1 := by omega
  have b2 : ¬ 8 < (m : Int) := by omega
  clear hF hf hd
  cases hoff : D.off with
  | true =>
    rw [hoff] at hup
    have HUp := Lib.hid hup
    have HOff := Lib.hid hoff
    clear hup hoff
    go_enter Try.func81, Try.ntmps81
    go_wp2_with fail
    refine HUp.out.mono ?_
    rintro e w' ⟨rfl, rfl⟩
    go_wp2
    go_ret2
    have e1 : makeE D m = 93 := by unfold makeE; rw [if_pos HOff.out]
    have e2 : makeD D m = D := by unfold makeD; rw [if_pos HOff.out]
    exact .inl ⟨by rw [e1]; decide, by rw [e1]; rfl, by rw [e2]; exact DWent.of HDM.out (Onl.refl _ _)⟩
  | false =>
    rw [hoff] at hup
    have HUp := Lib.hid hup
    have HOff := Lib.hid hoff
    clear hup hoff
    have HME : Hid (makeE D m = keepE D 0 (bpay m)) := Lib.hid (by unfold makeE; rw [if_neg (by rw [HOff.out]; simp)])
    have HMD : Hid (makeD D m = keepD D 0 (bpay m)) := Lib.hid (by unfold makeD; rw [if_neg (by rw [HOff.out]; simp)])
    have hc4 := HD.out.c4
    have hmk := fun W => run_make_row' (P := Try.prog) 163 46 (.slice none 0 0) 24 Try.underlying163 info46 rfl .i64 .i64 m (by omega) (by omega) W
    have hc5 : (w.alloc (.cells (madeCells #[.slice none 0 0] m) 46)).cell? ⟨gd, 4, none⟩ = some (.int .i64 (D.falls : Int)) := (HD.out.onl ((Onl.refl non w).alloc _) (fun _ _ h => h)).c4
    go_enter Try.func81, Try.ntmps81
    go_wp2_with fail
    refine HUp.out.mono ?_
    rintro e w' ⟨rfl, rfl⟩
    go_wp2
    go_region
    go_wp2_with fail
    obtain ⟨w2, hw2⟩ : ∃ w2, w2 = ((w.alloc (.cells (madeCells #[.slice none 0 0] m) 46)).alloc (.cells #[.slice (some ⟨w.heap.size, 0, none⟩) m m, .pointer (some ⟨gd, 0, none⟩), .int .i64 0, .int .i64 (D.falls : Int)] 165)).drew := ⟨_, rfl⟩
    rw [← hw2]
    have HO2 : Hid (Onl non w w2) := Lib.hid (by rw [hw2]; exact (((Onl.refl non w).alloc _).alloc _).drew)
    have HL2 : Hid (Blk w2 w.heap.size 46 (List.replicate m (.slice none 0 0))) := Lib.hid (by
      rw [hw2, made_replicate]
      exact ((Blk.new w 46 _).alloc _).drew)
    have HB2 : Hid (Blk w2 (w.heap.size + 1) 165 [.slice (some ⟨w.heap.size, 0, none⟩) m m, .pointer (some ⟨gd, 0, none⟩), .int .i64 ((0 : Nat) : Int), .int .i64 (D.falls : Int)]) := Lib.hid (by
      rw [hw2]; exact (Blk.newB w _ 165 _).drew)
    clear hw2 hc4 hc5 hmk
    obtain ⟨gb, hgb⟩ : ∃ gb, gb = w.heap.size + 1 := ⟨_, rfl⟩
    rw [← hgb] at HB2 ⊢
    have HGB : Hid (w.heap.size ≤ gb) := Lib.hid (by omega)
    obtain ⟨gl, hgl⟩ : ∃ gl, gl = w.heap.size := ⟨_, rfl⟩
    rw [← hgl] at HB2 HL2 ⊢
    have HGL : Hid (w.heap.size ≤ gl) := Lib.hid (by omega)
    clear hgb hgl
    refine (beginPayload142 m w2 (by omega)).mono ?_
    rintro e w3 ⟨rfl, hO3⟩
    have HO3 := Lib.hid (HO2.out.trans hO3 (fun _ _ h => h))
    have HL3 := Lib.hid (HL2.out.onl hO3 (fun h => h))
    have HB3 := Lib.hid (HB2.out.onl hO3 (fun h => h))
    have HD3 := Lib.hid (HD.out.onl HO3.out (fun _ _ h => h))
    have HDl : Hid (∀ k, dskOf gd gs o k → k < w.heap.size) := Lib.hid (fun k hk => HD.out.lt hk)
    clear hO3 HO2 HL2 HB2
    go_wp2_with fail
    refine (keep141 gb gd gs cs o cw D _ _ 0 N (bpay m) w3 HB3.out HD3.out HFi.out (by omega) (by show (sb _).size ≤ _; rw [sb_size]; simp) (by omega)).mono ?_
    rintro e w4 ⟨rfl, o4, c4, hd4, hb4, ho4, hn4⟩
    have HD4 := Lib.hid hd4
    have HO4 := Lib.hid ho4
    have HN4 := Lib.hid hn4
    have HL4 := Lib.hid (HL3.out.onl ho4 (fun h => by
      rcases h with h | h
      · exact HL3.out.ne_ HB3.out (by decide) h
      · have := HDl.out _ h; have := HGL.out; omega))
    have HF4 : Hid (∀ k, dskOf gd gs o4 k → F k ∨ w.heap.size ≤ k) := Lib.hid (fun k hk => by
      rcases hk with rfl | rfl | hk
      · exact .inl ((HF.out _).2 (.inl rfl))
      · exact .inl ((HF.out _).2 (.inr (.inl rfl)))
      · rcases hn4 k hk with h | h
        · exact .inl ((HF.out _).2 (.inr (.inr h)))
        · exact .inr (Nat.le_trans HO3.out.size h))
    have HOF : Hid (Onl F w w4) := Lib.hid ((HO3.out.mono (T := F) (fun _ h => h.elim)).trans ho4 (fun k hk h => by
      rcases h with rfl | h
      · have := HGB.out; omega
      · exact (HF.out _).2 h))
    obtain ⟨E, hE⟩ : ∃ E, E = keepE D 0 (bpay m) := ⟨_, rfl⟩
    rw [← hE] at hb4 HME ⊢
    have HB4 := Lib.hid hb4
    have HEe := Lib.hid hE
    clear hd4 hb4 ho4 hn4 hE
    by_cases h0 : E = 0
    · subst h0
      go_wp2
      go_ret2
      refine .inr ⟨HME.out, gb, rfl, HGB.out, fun k => dskOf gd gs o4 k ∨ bkOf gb gl (List.replicate m (none, 0)) k, ?_, ?_, HOF.out⟩
      · rw [HMD.out]
        refine ⟨gl, m, List.replicate m (none, 0), gs, cs, o4, c4, HD4.out, ?_, fun _ => Iff.rfl⟩
        have hlen : (makeB D m).logs.length = m := by simp [makeB, newB]
        refine ⟨?_, ?_, by rw [hlen]; simp, ?_, ?_, by rw [hlen]; exact h2, ?_, ?_, by show 1 ≤ 4096; omega, by have := HFi.out.1; show D.falls ≤ _; omega⟩
        · have h := HB4.out
          rw [if_pos trivial, show 0 + sectorsOf (bpay m).size = 1 from by show 0 + sectorsOf (sb _).size = 1; rw [sb_size]; simp [sectorsOf]] at h
          unfold bcs
          rw [hlen]
          exact h
        · have h := HL4.out
          have e : List.zipWith rowV (List.replicate m ((none : Option Addr), 0)) (makeB D m).logs = List.replicate m (.slice none 0 0) := by
            show List.zipWith rowV (List.replicate m ((none : Option Addr), 0)) (List.replicate m []) = _
            rw [List.zipWith_replicate']
            rfl
          rw [e]; exact h
        · intro p l r hl hr
          have hl2 : l = [] := List.eq_of_mem_replicate (List.mem_of_getElem? hl)
          have hr2 : r = (none, 0) := List.eq_of_mem_replicate (List.mem_of_getElem? hr)
          subst hl2; subst hr2
          exact Own.nil _ _ _ _
        · intro p q r s _ hr _ k hk
          have hr2 : r = (none, 0) := List.eq_of_mem_replicate (List.mem_of_getElem? hr)
          subst hr2
          simp [ownOf] at hk
        · intro l hl
          have hl2 : l = [] := List.eq_of_mem_replicate hl
          subst hl2; simp
        · intro l hl b hb
          have hl2 : l = [] := List.eq_of_mem_replicate hl
          subst hl2; simp at hb
      · intro k hk
        rcases hk with hk | hk
        · exact HF4.out k hk
        · rcases hk with rfl | rfl | ⟨r, hr, hk⟩
          · exact .inr HGB.out
          · exact .inr HGL.out
          · have hr2 : r = (none, 0) := List.eq_of_mem_replicate hr
            subst hr2
            simp [ownOf] at hk
    · have hb0 : (E != 0) = true := by rw [bne_iff_ne]; exact h0
      have H0 := Lib.hid h0
      clear h0
      go_wp2
      go_ret2
      refine .inl ⟨by rw [HME.out]; exact H0.out, by rw [HME.out]; rfl, dskOf gd gs o4, ?_, HF4.out, HOF.out⟩
      rw [HMD.out]; exact HD4.out.dm
end Go.Proofs.Ytenngchidlfaeaa
/- Split, walked. -/
namespace Go.Proofs.Ytenngchidlfaeaa
open Go.RowKit

/-- a frame -/
structure Frm where
  o : Int
  n : Int
  p : Int
  q : Int
  b : ByteArray
/-- frames as cells -/
def fs (l : List Frm) : List Value := l.flatMap fun f => [.int .i64 f.o, .int .i64 f.n, .int .i64 f.p, .int .i64 f.q, .string f.b]
theorem fs_cons (f : Frm) (l : List Frm) : fs (f :: l) = .int .i64 f.o :: .int .i64 f.n :: .int .i64 f.p :: .int .i64 f.q :: .string f.b :: fs l := rfl
theorem fs_length (l : List Frm) : (fs l).length = l.length * 5 := by
  induction l with
  | nil => rfl
  | cons e r ih => rw [fs_cons]; simp only [List.length_cons, ih]; omega
theorem fs_append (l m : List Frm) : fs (l ++ m) = fs l ++ fs m := by simp [fs]
theorem fs_get {f : Frm} : ∀ {l : List Frm} {j : Nat}, l[j]? = some f → (fs l)[j * 5]? = some (.int .i64 f.o) ∧ (fs l)[j * 5 + 1]? = some (.int .i64 f.n) ∧ (fs l)[j * 5 + 2]? = some (.int .i64 f.p) ∧ (fs l)[j * 5 + 3]? = some (.int .i64 f.q) ∧ (fs l)[j * 5 + 4]? = some (.string f.b)
  | [], j, h => by simp at h
  | c :: r, 0, h => by
    simp only [List.getElem?_cons_zero, Option.some.injEq] at h
    subst h; exact ⟨rfl, rfl, rfl, rfl, rfl⟩
  | c :: r, j + 1, h => by
    have h' : r[j]? = some f := by simpa using h
    have := fs_get h'
    rw [show (j + 1) * 5 = j * 5 + 1 + 1 + 1 + 1 + 1 from by omega]
    exact this
theorem fs_one (l : List Frm) : ∀ u ∈ fs l, u.oneCell' = true := by
  intro u hu
  obtain ⟨e, _, he⟩ := List.mem_flatMap.1 hu
  simp only [List.mem_cons, List.not_mem_nil, or_false] at he
  rcases he with rfl | rfl | rfl | rfl | rfl <;> rfl
theorem info23 : (Try.prog.info? 23).map (fun i => (i.zero, i.size, i.bytes)) = some (some (.agg #[.int .i64 0, .int .i64 0, .int .i64 0, .int .i64 0, .string ⟨#[]⟩]), 5, 48) := by kernel_rfl
/-- into how many parts a body is split -/
def partsOf (n : Nat) : Nat := max 1 ((n + 31) / 32)
def partAt (b : ByteArray) (i : Nat) : ByteArray := b.extract (i * 32) (min b.size (i * 32 + 32))
def splitOf (o n : Int) (b : ByteArray) : List Frm := (List.range (partsOf b.size)).map fun (i : Nat) => ⟨o, n, (i : Int), (partsOf b.size : Int), partAt b i⟩
theorem splitOf_length (o n : Int) (b : ByteArray) : (splitOf o n b).length = partsOf b.size := by simp [splitOf]
theorem splitOf_take_succ (o n : Int) (b : ByteArray) {k : Nat} (h : k < partsOf b.size) : (splitOf o n b).take (k + 1) = (splitOf o n b).take k ++ [⟨o, n, (k : Int), (partsOf b.size : Int), partAt b k⟩] := by
  rw [List.take_succ_eq_append_getElem (by rw [splitOf_length]; exact h)]
  simp [splitOf]
def SplitPost (o n : Int) (b : ByteArray) (w : World) (e : Ending) (w' : World) : Prop :=
  ∃ o' c', e = .returned (.tuple #[.slice o' (partsOf b.size) c', .int .i64 0]) ∧ Own w' w.heap.size 23 5 o' (partsOf b.size) c' (fs (splitOf o n b)) ∧ Onl non w w'
set_option maxRecDepth 100000 in
set_option maxHeartbeats 1000000 in
theorem Split33_ok (o n : Int) (b : ByteArray) (w : World) (hk : OkE o n b.size) :
    Calls Try.prog 33 #[.agg #[.int .i64 o, .int .i64 n, .string b]] w fun e w' => SplitPost o n b w e w' := by
  have hbs : b.size ≤ 1024 := hk.2.2
  have HK := Lib.hid hk
  obtain ⟨w1, hw1⟩ : ∃ w1, w1 = w.alloc (.cells #[.int .i64 o, .int .i64 n, .string b] 42) := ⟨_, rfl⟩
  have HE : Hid (Blk w1 w.heap.size 42 [.int .i64 o, .int .i64 n, .string b]) := Lib.hid (by rw [hw1]; exact Blk.new w 42 _)
  have HO : Hid (Onl non w w1) := Lib.hid (by rw [hw1]; exact (Onl.refl _ _).alloc _)
  clear hk
  go_enter Try.func33, Try.ntmps33
  go_wp2_with fail
  rw [← hw1]
  clear hw1
  have k0 : w1.cell? ⟨w.heap.size, 0, none⟩ = some (.int .i64 o) := HE.out.cell' rfl
  have k1 : w1.cell? ⟨w.heap.size, 1, none⟩ = some (.int .i64 n) := HE.out.cell' rfl
  have k2 : w1.cell? ⟨w.heap.size, 2, none⟩ = some (.string b) := HE.out.cell' rfl
  go_wp2_with fail
  refine (CheckEntry_ok o n b w1 HK.out).mono ?_
  rintro e w2 ⟨rfl, hO2⟩
  have HE2 := Lib.hid (HE.out.onl hO2 (fun h => h))
  have HO2 := Lib.hid (HO.out.trans hO2 (fun _ _ h => h))
  clear hO2 HE HO k0 k1 k2
  have k2 : w2.cell? ⟨w.heap.size, 2, none⟩ = some (.string b) := HE2.out.cell' rfl
  go_wp2
  obtain ⟨P, hP⟩ : ∃ P, P = partsOf b.size := ⟨_, rfl⟩
  have hPe : max 1 (((b.size : Int) + 32 - 1) / 32) = (P : Int) := by rw [hP]; unfold partsOf; omega
  have hP2 : P ≤ 100 := by rw [hP]; unfold partsOf; omega
  have hPb : b.size ≤ P * 32 := by rw [hP]; unfold partsOf; omega
  have hPc : ∀ k, k < P → k * 32 ≤ b.size := fun k hk => by rw [hP] at hk; unfold partsOf at hk; omega
  rw [hPe]
  have HP := Lib.hid hP
  have HPc := Lib.hid hPc
  have HK2 : Hid (w.heap.size ≤ w2.heap.size) := Lib.hid HO2.out.size
  clear hP hPe hPc k2
  go_loopw [6, 23] (fun u v wr => ∃ (k : Nat) (o1 : Option Addr) (c1 : Nat), k ≤ P ∧ u = .slice o1 k c1 ∧ v = .int .i64 k ∧ Hid (Own wr (w.heap.size + 1) 23 5 o1 k c1 (fs ((splitOf o n b).take k))) ∧ Hid (Blk wr w.heap.size 42 [.int .i64 o, .int .i64 n, .string b]) ∧ Hid (Onl non w wr)) (fun _ v _ => P - (intOf v).toNat)
  case atStart => exact ⟨0, none, 0, by omega, rfl, rfl, Lib.hid (Own.nil _ _ _ _), HE2, HO2⟩
  case round =>
    clear HE2 HO2
    obtain ⟨k, o1, c1, hk, rfl, rfl, HOw, HE, HO⟩ := hrel
    by_cases hlt : k < P
    · have k0 : wr.cell? ⟨w.heap.size, 0, none⟩ = some (.int .i64 o) := HE.out.cell' rfl
      have k1 : wr.cell? ⟨w.heap.size, 1, none⟩ = some (.int .i64 n) := HE.out.cell' rfl
      have k2 : wr.cell? ⟨w.heap.size, 2, none⟩ = some (.string b) := HE.out.cell' rfl
      have hk32 := HPc.out k hlt
      obtain ⟨T, hT⟩ : ∃ T, T = partAt b k := ⟨_, rfl⟩
      have hsl : ∀ wx, (Instr.slice 9 (.string b) (some (.int .i64 ((k : Int) * 32))) (some (.int .i64 (min (b.size : Int) ((k : Int) * 32 + 32)))) none).run Try.prog wx = .ok (.string T) wx := fun wx => by
        have e1 : (k : Int) * 32 = ((k * 32 : Nat) : Int) := by omega
        have e2 : min (b.size : Int) (((k * 32 : Nat) : Int) + 32) = ((min b.size (k * 32 + 32) : Nat) : Int) := by omega
        rw [e1, e2, str_slice b (k * 32) (min b.size (k * 32 + 32)) _ wx (by omega) (by omega) rfl, hT]
        congr 2
        apply bl_inj
        rw [bl_sb (fun x hx => bl_bytes b x (List.mem_of_mem_drop (List.mem_of_mem_take hx))), partAt, bl_extract]
      have HT := Lib.hid hT
      obtain ⟨news, hnews⟩ : ∃ news, news = fs [⟨o, n, (k : Int), (P : Int), T⟩] := ⟨_, rfl⟩
      have hnb : ∀ i u, news[i]? = some u → (wr.alloc (.cells #[.int .i64 o, .int .i64 n, .int .i64 (k : Int), .int .i64 (P : Int), .string T] 23)).cell? ((⟨wr.heap.size, 0, none⟩ : Addr).add i) = some u := by
        rw [hnews]; exact (Blk.new wr 23 (fs [⟨o, n, (k : Int), (P : Int), T⟩])).cells
      have HNB := Lib.hid hnb
      have hn1 : ∀ u ∈ news, u.oneCell' = true := by rw [hnews]; exact fs_one _
      have HN1 := Lib.hid hn1
      have hnl : news.length = 1 * 5 := by rw [hnews]; rfl
      have HNL := Lib.hid hnl
      have HNW := Lib.hid hnews
      have HX : Hid (Own (wr.alloc (.cells #[.int .i64 o, .int .i64 n, .int .i64 (k : Int), .int .i64 (P : Int), .string T] 23)) (w.heap.size + 1) 23 5 o1 k c1 (fs ((splitOf o n b).take k))) := Lib.hid (HOw.out.alloc _)
      have hwl : w.heap.size < wr.heap.size := HE.out.lt
      clear hT hnb hn1 hnl hnews
      go_wp2_with (at_builtin; refine wpList_app rfl (.tmp 38) (.tmp 47) 43 rfl (w.heap.size + 1) 23 (.agg #[.int .i64 0, .int .i64 0, .int .i64 0, .int .i64 0, .string ⟨#[]⟩]) 5 48 Try.underlying43 info23 rfl (by decide) _ _ _ _ rfl HX.out ⟨wr.heap.size, 0, none⟩ 1 1 news rfl HNL.out HNB.out HN1.out (by omega) (by omega) (by simp; omega) ?_; intro o2 c2 wA hA1 hA2 hA3; have HA1 := Lib.hid hA1; have HA2 := Lib.hid hA2; clear hA1 hA2 hA3)
      go_roundw
      case rel =>
        refine ⟨k + 1, o2, c2, by omega, rfl, by go_num, Lib.hid ?_, Lib.hid ?_, Lib.hid ?_⟩
        · have h := HA1.out
          have e : fs ((splitOf o n b).take (k + 1)) = fs ((splitOf o n b).take k) ++ news := by
            rw [splitOf_take_succ o n b (by rw [← HP.out]; exact hlt), fs_append, HNW.out, HT.out, ← HP.out]
          rw [e]; exact h
        · exact (HE.out.alloc _).onl HA2.out (fun h => by have := (HOw.out.lt _ h).1; omega)
        · exact (HO.out.alloc _).trans HA2.out (fun i hi h => by have := (HOw.out.lt _ h).1; omega)
      case measure => simp [intOf]; omega
    · have hkP : k = P := by omega
      subst hkP
      go_wp2
      go_ret2
      refine ⟨o1, c1, by rw [← HP.out]; rfl, ?_, HO.out⟩
      have h := HOw.out
      rw [List.take_of_length_le (by rw [splitOf_length, ← HP.out]; exact Nat.le_refl _), HP.out] at h
      exact h.mono (fun j hj => by have := (h.lt j hj).1; omega)
set_option maxRecDepth 100000 in
theorem Split33_no (o n : Int) (b : ByteArray) (w : World) (hs : b.size ≤ 9223372036854775807) (hk : ¬ OkE o n b.size) :
    Calls Try.prog 33 #[.agg #[.int .i64 o, .int .i64 n, .string b]] w fun e w' => e = .returned (.tuple #[.slice none 0 0, .int .i64 92]) ∧ Onl non w w' := by
  have HK := Lib.hid hk
  obtain ⟨w1, hw1⟩ : ∃ w1, w1 = w.alloc (.cells #[.int .i64 o, .int .i64 n, .string b] 42) := ⟨_, rfl⟩
  have HE : Hid (Blk w1 w.heap.size 42 [.int .i64 o, .int .i64 n, .string b]) := Lib.hid (by rw [hw1]; exact Blk.new w 42 _)
  have HO : Hid (Onl non w w1) := Lib.hid (by rw [hw1]; exact (Onl.refl _ _).alloc _)
  clear hk
  go_enter Try.func33, Try.ntmps33
  go_wp2_with fail
  rw [← hw1]
  clear hw1
  have k0 : w1.cell? ⟨w.heap.size, 0, none⟩ = some (.int .i64 o) := HE.out.cell' rfl
  have k1 : w1.cell? ⟨w.heap.size, 1, none⟩ = some (.int .i64 n) := HE.out.cell' rfl
  have k2 : w1.cell? ⟨w.heap.size, 2, none⟩ = some (.string b) := HE.out.cell' rfl
  go_wp2_with fail
  refine (CheckEntry_no o n b w1 hs HK.out).mono ?_
  rintro e w2 ⟨rfl, hO2⟩
  go_wp2
  go_ret2
  exact ⟨rfl, HO.out.trans hO2 (fun _ _ h => h)⟩
set_option maxRecDepth 100000 in
theorem frame87 (w : World) : Calls Try.prog 87 #[] w fun e w' => e = .returned (.agg #[.int .i64 1, .int .i64 2, .int .i64 0, .int .i64 1, .string ⟨#[115, 110, 111, 119]⟩]) ∧ Onl non w w' := by
  go_enter Try.func87, Try.ntmps87
  go_wp2
  refine bodyPost_ret (v := .agg #[.int .i64 1, .int .i64 2, .int .i64 0, .int .i64 1, .string ⟨#[115, 110, 111, 119]⟩]) ?_ rfl ⟨rfl, ?_⟩
  rotate_left
  · exact (Onl.refl non w).alloc _
  simp [results, Try.results87, go_sem]
end Go.Proofs.Ytenngchidlfaeaa
/- All messages of a book: Grow, Concat, All, walked. -/
namespace Go.Proofs.Ytenngchidlfaeaa
open Go.RowKit

theorem allOf_append : ∀ (a b : List (List ByteArray)) (p : Nat), allOf p (a ++ b) = allOf p a ++ allOf (p + a.length) b
  | [], b, p => by simp [allOf]
  | l :: r, b, p => by
    show ents p 0 l ++ allOf (p + 1) (r ++ b) = (ents p 0 l ++ allOf (p + 1) r) ++ allOf (p + (r.length + 1)) b
    rw [allOf_append r b (p + 1), List.append_assoc, show p + 1 + r.length = p + (r.length + 1) from by omega]
theorem allOf_take_succ {L : List (List ByteArray)} {k : Nat} {l : List ByteArray} (h : L[k]? = some l) : allOf 0 (L.take (k + 1)) = allOf 0 (L.take k) ++ ents k 0 l := by
  have hk : k < L.length := (List.getElem?_eq_some_iff.1 h).1
  have e : L[k] = l := by rw [List.getElem?_eq_getElem hk] at h; exact Option.some.inj h
  rw [List.take_succ_eq_append_getElem hk, allOf_append, e, List.length_take, Nat.min_eq_left (by omega), Nat.zero_add]
  simp [allOf]
theorem allOf_length_le : ∀ (L : List (List ByteArray)) (p : Nat), (∀ l ∈ L, l.length ≤ 64) → (allOf p L).length ≤ 64 * L.length
  | [], _, _ => by simp [allOf]
  | l :: r, p, h => by
    have h1 := allOf_length_le r (p + 1) (fun m hm => h m (by simp [hm]))
    have h2 := h l (by simp)
    show (ents p 0 l ++ allOf (p + 1) r).length ≤ 64 * (r.length + 1)
    rw [List.length_append, ents_length]; omega
/-- append of no element that is nil -/
theorem run_app_nil {P : Program} (w : World) (base : Nat) (t ty e : TypeId) (z : Value) (size bytes : Nat) (ht : P.underlying t = some (.slice e)) (hinfo : (P.info? e).map (fun i => (i.zero, i.size, i.bytes)) = some (some z, size, bytes))
    (so : Option Addr) (n sc : Nat) (xs : List Value) (hown : Own w base e size so n sc xs) (c : Nat) : (Builtin.append_ #[t, t] ty #[.slice so n sc, .slice none 0 c]).run P w = .ok (.slice so n sc) w := by
  obtain ⟨i, hi, _, _, _⟩ := info_parts hinfo
  rcases hown.2 with ⟨hv, _⟩ | ⟨g, cap, cur, hv, _, _, hnc, _⟩
  · simp only [Value.slice.injEq] at hv
    obtain ⟨rfl, rfl, rfl⟩ := hv
    simp [Builtin.append_, run_underlying ht, sizeOf, typeInfo, hi, Builtin.lenOf, Builtin.firstCells]
  · simp only [Value.slice.injEq] at hv
    obtain ⟨rfl, _, rfl⟩ := hv
    simp [Builtin.append_, run_underlying ht, sizeOf, typeInfo, hi, Builtin.lenOf, Builtin.firstCells, hnc, storeCells]
/-- append of an owned row to an owned row -/
theorem run_app2 {P : Program} (w : World) (t ty : TypeId) (base base' : Nat) (e : TypeId) (z : Value) (size bytes : Nat) (ht : P.underlying t = some (.slice e)) (hinfo : (P.info? e).map (fun i => (i.zero, i.size, i.bytes)) = some (some z, size, bytes)) (hzs : z.cells.size = size) (hsz : 0 < size)
    (so : Option Addr) (n sc : Nat) (xs : List Value) (hown : Own w base e size so n sc xs) (xo : Option Addr) (m c : Nat) (news : List Value) (hx : Own w base' e size xo m c news) (h1 : ∀ u ∈ news, u.oneCell' = true)
    (hbound : n + m ≤ 100000000) (hb2 : bytes ≤ 1000) (hbase : base ≤ w.heap.size) :
    ∃ o' c' w', (Builtin.append_ #[t, t] ty #[.slice so n sc, .slice xo m c]).run P w = .ok (.slice o' (n + m) c') w' ∧ Own w' base e size o' (n + m) c' (xs ++ news) ∧ Onl (ownOf so) w w' ∧ (∀ k, ownOf o' k → ownOf so k ∨ w.heap.size ≤ k) := by
  rcases hx.2 with ⟨hv, hm⟩ | ⟨g, cap, cur, hv, _, hg, _, _, _, hcur⟩
  · simp only [Value.slice.injEq] at hv
    obtain ⟨rfl, rfl, rfl⟩ := hv
    have hnil : news = [] := List.eq_nil_of_length_eq_zero (by rw [hx.1]; simp)
    subst hnil
    exact ⟨so, sc, w, run_app_nil w base t ty e z size bytes ht hinfo so n sc xs hown 0, by simpa using hown, Onl.refl _ _, fun _ h => .inl h⟩
  · simp only [Value.slice.injEq] at hv
    obtain ⟨rfl, _, rfl⟩ := hv
    refine run_app w t ty base e z size bytes ht hinfo hzs hsz so n sc xs hown ⟨g, 0, none⟩ m c news hx.1 ?_ h1 hbound hb2 hbase
    have hb : Blk w g e cur.toList := by unfold Blk; rw [hg]
    intro j u hu
    refine hb.cells j u ?_
    rw [← hcur, List.getElem?_take] at hu
    split at hu
    · exact hu
    · cases hu
theorem wpList_app2 {P : Program} {w : World} {ops : Array Oper} {rest : List Oper} {o : Oper} {a : Act} {Q : Exit → Act → World → Prop} (hgd : o.guard = none) (s x : Operand) (t : TypeId) (ho : o.op = .call { callee := .builtin .append, args := #[s, x], argTypes := #[t, t] })
    (base base' : Nat) (e : TypeId) (z : Value) (size bytes : Nat) (ht : P.underlying t = some (.slice e)) (hinfo : (P.info? e).map (fun i => (i.zero, i.size, i.bytes)) = some (some z, size, bytes)) (hzs : z.cells.size = size) (hsz : 0 < size)
    (so : Option Addr) (n sc : Nat) (xs : List Value) (hs : a.eval s = .slice so n sc) (hown : Own w base e size so n sc xs)
    (xo : Option Addr) (m c : Nat) (news : List Value) (hx : a.eval x = .slice xo m c) (hxo : Own w base' e size xo m c news) (h1 : ∀ u ∈ news, u.oneCell' = true)
    (hbound : n + m ≤ 100000000) (hb2 : bytes ≤ 1000) (hbase : base ≤ w.heap.size)
    (h : ∀ o' c' w', Own w' base e size o' (n + m) c' (xs ++ news) → Onl (ownOf so) w w' → (∀ k, ownOf o' k → ownOf so k ∨ w.heap.size ≤ k) → wpList P ops Q rest (a.put o.dst (.slice o' (n + m) c')) w') : wpList P ops Q (o :: rest) a w := by
  obtain ⟨o', c', w', hr, h2, h3, h4⟩ := run_app2 (P := P) w t o.type base base' e z size bytes ht hinfo hzs hsz so n sc xs hown xo m c news hxo h1 hbound hb2 hbase
  refine wpList_plain hgd fun K hK => ?_
  unfold Oper.wp execOp
  simp only [ho, resolve, invoke, builtin, Sem.run_bind, Sem.run_pure, Result.andThen_ok, List.map_toArray, List.map_cons, List.map_nil, hs, hx, hr]
  exact hK _ _ (h o' c' w' h2 h3 h4)
theorem info42' : (Try.prog.info? 42).map (fun i => (i.zero, i.size, i.bytes)) = some (some (.agg #[.int .i64 0, .int .i64 0, .string ⟨#[]⟩]), 3, 32) := by kernel_rfl
def GrowPost (w : World) (e : Ending) (w' : World) : Prop := ∃ o' c', e = .returned (.slice o' 0 c') ∧ Own w' w.heap.size 42 3 o' 0 c' [] ∧ Onl non w w'
set_option maxRecDepth 100000 in
theorem Grow163 (n : Nat) (w : World) (hn : n ≤ 100000) : Calls Try.prog 163 #[.slice none 0 0, .int .i64 (n : Int)] w fun e w' => GrowPost w e w' := by
  by_cases h0 : n = 0
  · subst h0
    go_enter Try.func163, Try.ntmps163
    go_wp2
    go_ret
    exact ⟨none, 0, rfl, Own.nil _ _ _ _, Onl.refl _ _⟩
  · obtain ⟨i, hi, hz0, hz1, hz2⟩ := info_parts info42'
    have h1 : 0 < n := by omega
    have hr := Lib.run_append_nil_zeros (P := Try.prog) w 46 3 46 42 i _ .i64 .i64 Try.underlying46 Try.underlying3 hi hz0 n h1 (by omega) (by omega) (by rw [hz2]; omega)
    obtain ⟨C, hC⟩ : ∃ C, C = grownCap w n 0 42 := ⟨_, rfl⟩
    obtain ⟨w1, hw1⟩ : ∃ w1, w1 = w.drew.alloc (.cells (Builtin.zeroCells (Value.agg #[.int .i64 0, .int .i64 0, .string ⟨#[]⟩]).cells n ++ Builtin.zeroCells (Value.agg #[.int .i64 0, .int .i64 0, .string ⟨#[]⟩]).cells (grownCap w n 0 42 - n)) 42) := ⟨_, rfl⟩
    have hcl : n ≤ C := by rw [hC]; exact grownCap_ge w n 0 42
    have hcm : C ≤ maxLen := by rw [hC]; exact grownCap_le_maxLen w n 0 42 (by unfold maxLen; omega)
    have HOw : Hid (Own w1 w.heap.size 42 3 (some ⟨w.heap.size, 0, none⟩) 0 C []) := Lib.hid (by
      have hb := Blk.new w.drew 42 (Builtin.zeroCells (Value.agg #[.int .i64 0, .int .i64 0, .string ⟨#[]⟩]).cells n ++ Builtin.zeroCells (Value.agg #[.int .i64 0, .int .i64 0, .string ⟨#[]⟩]).cells (grownCap w n 0 42 - n)).toList
      rw [Array.toArray_toList, ← hw1] at hb
      refine Own.of_blk (extra := _) (by rw [List.nil_append]; exact hb) (Nat.le_refl _) rfl ?_ (Nat.zero_le _) hcm
      rw [List.nil_append, Array.length_toList, Array.size_append, size_zeroCells, size_zeroCells]
      have : (Value.agg #[.int .i64 0, .int .i64 0, .string ⟨#[]⟩]).cells.size = 3 := rfl
      rw [this, ← hC]; omega)
    have HO : Hid (Onl non w w1) := Lib.hid (by rw [hw1]; exact ((Onl.refl non w).drew).alloc _)
    rw [← hw1, ← hC] at hr
    have hsl : ∀ wx, (Instr.slice 46 (.slice (some ⟨w.heap.size, 0, none⟩) n C) none (some (.int .i64 0)) none).run Try.prog wx = .ok (.slice (some ⟨w.heap.size, 0, none⟩) 0 C) wx := fun wx => by
      simp [Instr.slice, run_underlying Try.underlying46, Instr.sliceBounds, Instr.sliceBound, asIntOf, add0]
    have hng : ¬ (n : Int) < 0 := by omega
    have hgt : (0 : Int) < (n : Int) := by omega
    have HR := Lib.hid hr
    clear hw1 hC hcl hcm h0 h1 hz0 hz1 hz2 hi hr
    go_enter Try.func163, Try.ntmps163
    go_wp2_with (at_builtin; refine Lib.wpList_append_run _ rfl (.tmp 20) (.tmp 21) 46 3 rfl _ _ rfl rfl _ _ HR.out ?_)
    go_ret
    exact ⟨_, _, rfl, HOw.out, HO.out⟩
def ConcatPost (L : List (List ByteArray)) (w : World) (e : Ending) (w' : World) : Prop := ∃ o' c', e = .returned (.slice o' (allOf 0 L).length c') ∧ Own w' w.heap.size 42 3 o' (allOf 0 L).length c' (es (allOf 0 L)) ∧ Onl non w w'
set_option maxRecDepth 100000 in
set_option maxHeartbeats 1000000 in
theorem Concat122 (g gl c gd : Nat) (rows : List (Option Addr × Nat)) (B : Bk) (w : World) (h : BkAt w g gl c gd rows B) : Calls Try.prog 122 #[.slice (some ⟨gl, 0, none⟩) B.logs.length c] w fun e w' => ConcatPost B.logs w e w' := by
  obtain ⟨m, hm⟩ : ∃ m, m = B.logs.length := ⟨_, rfl⟩
  have hm8 : m ≤ 8 := by rw [hm]; exact h.in1
  have HM := Lib.hid hm
  have HIn2 : Hid (∀ l ∈ B.logs, l.length ≤ 64) := Lib.hid h.in2
  have HTot : Hid (∀ k, (allOf 0 (B.logs.take k)).length ≤ 512) := Lib.hid (fun k => by
    have h1 := allOf_length_le (B.logs.take k) 0 (fun l hl => HIn2.out l (List.mem_of_mem_take hl))
    have h2 : (B.logs.take k).length ≤ 8 := by rw [List.length_take]; have := h.in1; omega
    omega)
  have HB := Lib.hid h
  have HRow : Hid (∀ k, k < m → ∃ l ro rc, B.logs[k]? = some l ∧ rows[k]? = some (ro, rc)) := Lib.hid (fun k hk => by
    rw [hm] at hk
    refine ⟨_, _, _, List.getElem?_eq_getElem hk, List.getElem?_eq_getElem (by rw [h.len]; exact hk)⟩)
  rw [← hm]
  clear hm h
  go_enter Try.func122, Try.ntmps122
  go_wp2
  go_loop [3, 11] (fun u v => ∃ k : Nat, k ≤ m ∧ v = .int .i64 k ∧ u = .int .i64 ((allOf 0 (B.logs.take k)).length : Nat)) (fun _ v => m - (intOf v).toNat)
  case atStart => exact ⟨0, by omega, rfl, rfl⟩
  case round =>
    obtain ⟨k, hk, rfl, rfl⟩ := hrel
    have htk := HTot.out k
    by_cases hlt : k < m
    · obtain ⟨l, ro, rc, hl, hr⟩ := HRow.out k hlt
      have hcr := HB.out.cr hl hr
      have hll := HIn2.out l (List.mem_of_getElem? hl)
      obtain ⟨t, ht⟩ : ∃ t, t = (allOf 0 (B.logs.take k)).length := ⟨_, rfl⟩
      rw [← ht] at htk ⊢
      have HL := Lib.hid hl
      have HT := Lib.hid ht
      have hneg : ¬ (t : Int) + (l.length : Int) < 0 := by omega
      clear hl hr ht
      go_wp2
      go_round
      case rel =>
        refine ⟨k + 1, by omega, by go_num, ?_⟩
        rw [allOf_take_succ HL.out, List.length_append, ents_length, ← HT.out]
        go_num
      case measure => simp [intOf]; omega
    · have hkm : k = m := by omega
      have htot : (allOf 0 B.logs).length ≤ 512 := by have h1 := HTot.out m; rwa [HM.out, List.take_length] at h1
      obtain ⟨t, ht⟩ : ∃ t, t = (allOf 0 B.logs).length := ⟨_, rfl⟩
      have htk2 : (allOf 0 (B.logs.take k)).length = t := by rw [hkm, HM.out, List.take_length, ht]
      rw [← ht] at htot
      rw [htk2]
      have HT := Lib.hid ht
      clear hkm ht htk2 htk
      go_wp2_with fail
      refine (Grow163 t w (by omega)).mono ?_
      rintro e w1 ⟨o1, c1, rfl, hown, honl⟩
      have HOw := Lib.hid hown
      have HO := Lib.hid honl
      clear hown honl
      go_wp2
      go_loopw [6, 27] (fun u v wr => ∃ (k n : Nat) (o1 : Option Addr) (c1 : Nat), k ≤ m ∧ v = .int .i64 k ∧ u = .slice o1 n c1 ∧ Hid (n = (allOf 0 (B.logs.take k)).length) ∧ Hid (Own wr w.heap.size 42 3 o1 n c1 (es (allOf 0 (B.logs.take k)))) ∧ Hid (Onl non w wr)) (fun _ v _ => m - (intOf v).toNat)
      case atStart => exact ⟨0, 0, o1, c1, by omega, rfl, rfl, Lib.hid rfl, HOw, HO⟩
      case round =>
        clear HOw HO
        obtain ⟨k, n, o2, c2, hk, rfl, rfl, HN, HOw, HO⟩ := hrel
        by_cases hlt : k < m
        · obtain ⟨l, ro, rc, hl, hr⟩ := HRow.out k hlt
          have hBr := HB.out.onl HO.out (fun _ _ h => h)
          have hcr := hBr.cr hl hr
          have hll := HIn2.out l (List.mem_of_getElem? hl)
          have HRw := Lib.hid (hBr.row k l _ hl hr)
          have HL := Lib.hid hl
          have hn512 : n ≤ 512 := by rw [HN.out]; exact HTot.out k
          have hsz := HO.out.size
          clear hBr hl hr
          go_wp2_with (at_builtin; refine wpList_app2 rfl (.tmp 31) (.tmp 32) 46 rfl w.heap.size 0 42 (.agg #[.int .i64 0, .int .i64 0, .string ⟨#[]⟩]) 3 32 Try.underlying46 info42' rfl (by decide) _ _ _ _ rfl HOw.out _ _ _ _ rfl HRw.out (es_one _) (by omega) (by omega) hsz ?_; intro o3 c3 wA hA1 hA2 hA3; have HA1 := Lib.hid hA1; have HA2 := Lib.hid hA2; clear hA1 hA2 hA3)
          go_roundw
          case rel =>
            refine ⟨k + 1, n + l.length, o3, c3, by omega, by go_num, rfl, Lib.hid ?_, Lib.hid ?_, Lib.hid ?_⟩
            · rw [allOf_take_succ HL.out, List.length_append, ents_length, HN.out]
            · rw [allOf_take_succ HL.out, es_append]; exact HA1.out
            · exact HO.out.trans HA2.out (fun i hi hk => by have := (HOw.out.lt i hk).1; omega)
          case measure => simp [intOf]; omega
        · have hkm : k = m := by omega
          have hn : n = t := by rw [HN.out, hkm, HM.out, List.take_length, HT.out]
          have HOw2 : Hid (Own wr w.heap.size 42 3 o2 t c2 (es (allOf 0 B.logs))) := Lib.hid (by have h := HOw.out; rwa [hkm, HM.out, List.take_length, hn] at h)
          subst hn
          clear hkm HN HOw
          go_wp2
          go_ret
          exact ⟨o2, c2, by rw [← HT.out]; rfl, by rw [← HT.out]; exact HOw2.out, HO.out⟩
set_option maxRecDepth 100000 in
theorem All70 (F : Nat → Prop) (g gd : Nat) (D : Rad.Dsk) (B : Bk) (w : World) (h : Mach w F g gd D B) : Calls Try.prog 70 #[.pointer (some ⟨g, 0, none⟩)] w fun e w' => ConcatPost B.logs w e w' := by
  obtain ⟨gl, c, rows, gs, cs, o, cw, _, hb, _⟩ := h
  have HC := Lib.hid (Concat122 g gl c gd rows B w hb)
  have hc0 := hb.c0
  clear hb
  go_enter Try.func70, Try.ntmps70
  go_wp2_with fail
  refine HC.out.mono ?_
  rintro e w1 ⟨o1, c1, rfl, hown, honl⟩
  have HOw := Lib.hid hown
  clear hown
  go_wp2
  go_ret
  exact ⟨o1, c1, rfl, HOw.out, honl⟩
end Go.Proofs.Ytenngchidlfaeaa
