/- B4: texts T53 T54 P8 C22, joined. -/
import Derived.Test.YtenngchidlfaeaaB3
import Derived.Lib.LazyBuf
/- The program's book: Entries; sums of messages; the law's plain, walked. -/
namespace Go.Proofs.Ytenngchidlfaeaa
open Go.RowKit
open Rad (Dsk)

set_option maxRecDepth 100000 in
theorem Clone126 (o : Option Addr) (n c : Nat) (xs : List Value) (w : World) (h : Own w 0 42 3 o n c xs) (h1 : ∀ u ∈ xs, u.oneCell' = true) (hn : n ≤ 1000000) :
    Calls Try.prog 126 #[.slice o n c] w fun e w' => ∃ o' c', e = .returned (.slice o' n c') ∧ Own w' w.heap.size 42 3 o' n c' xs ∧ Onl non w w' := by
  have heq := fun wx => run_eql_slice_nil (P := Try.prog) wx 46 42 o n c Try.underlying46
  have HOw := Lib.hid h
  have H1 := Lib.hid h1
  rcases h.addr with ⟨h2, h3, h4⟩ | ⟨g, ex, h2, h3, _⟩
  · subst h2
    subst h3
    subst h4
    have hx : xs = [] := List.eq_nil_of_length_eq_zero (by rw [h.length])
    have HX := Lib.hid hx
    clear h h1 hx
    go_enter Try.func126, Try.ntmps126
    go_wp2
    go_ret
    exact ⟨none, 0, rfl, by rw [HX.out]; exact Own.nil _ _ _ _, Onl.refl _ _⟩
  · subst h2
    clear h h1
    obtain ⟨w1, hw1⟩ : ∃ w1, w1 = w.alloc (.cells #[] 42) := ⟨_, rfl⟩
    have HS : Hid (Own w1 w.heap.size 42 3 (some ⟨w.heap.size, 0, none⟩) 0 0 []) := Lib.hid (by rw [hw1]; exact Own.made0 w w.heap.size 42 3 (Nat.le_refl _))
    have HX : Hid (Own w1 0 42 3 (some ⟨g, 0, none⟩) n c xs) := Lib.hid (by rw [hw1]; exact HOw.out.alloc _)
    have HO : Hid (Onl non w w1) := Lib.hid (by rw [hw1]; exact (Onl.refl _ _).alloc _)
    have hsz : w.heap.size ≤ w1.heap.size := HO.out.size
    go_enter Try.func126, Try.ntmps126
    go_upto_region 3 with fail
    go_wp2_with (first | (at_builtin; rw [← hw1]; refine wpList_app2 rfl (.tmp 5) (.tmp 6) 46 rfl w.heap.size 0 42 (.agg #[.int .i64 0, .int .i64 0, .string ⟨#[]⟩]) 3 32 Try.underlying46 info42' rfl (by decide) _ _ _ _ rfl HS.out _ _ _ _ rfl HX.out H1.out (by omega) (by omega) hsz ?_; intro o3 c3 wA hA1 hA2 hA3; have HA1 := Lib.hid hA1; have HA2 := Lib.hid hA2; clear hA1 hA2 hA3))
    go_ret
    refine ⟨o3, c3, by simp, ?_, ?_⟩
    · have h := HA1.out
      rw [Nat.zero_add, List.nil_append] at h; exact h
    · exact HO.out.trans HA2.out (fun k hk h => by have := (HS.out.lt k h).1; omega)
set_option maxRecDepth 100000 in
theorem Entries74_in (F : Nat → Prop) (g gd : Nat) (D : Dsk) (B : Bk) (p : Nat) (w : World) (h : Mach w F g gd D B) (hp : p < B.logs.length) :
    Calls Try.prog 74 #[.pointer (some ⟨g, 0, none⟩), .int .i64 (p : Int)] w fun e w' => ∃ o c, e = .returned (.tuple #[.slice o (B.log p).length c, .int .i64 0]) ∧ Own w' w.heap.size 42 3 o (B.log p).length c (ecs p 0 (B.log p)) ∧ Onl non w w' := by
  obtain ⟨gl, c, rows, gs, cs0, od, cw, _, hb, _⟩ := h
  have hm8 := hb.in1
  obtain ⟨l, hl⟩ : ∃ l, B.logs[p]? = some l := ⟨_, List.getElem?_eq_getElem hp⟩
  obtain ⟨⟨ro, rc⟩, hr⟩ : ∃ r, rows[p]? = some r := ⟨_, List.getElem?_eq_getElem (by rw [hb.len]; exact hp)⟩
  have hlog : B.log p = l := log_of hl
  rw [hlog]
  have hrow := hb.row p l _ hl hr
  dsimp only at hrow
  have hl64 := hb.in2 l (List.mem_of_getElem? hl)
  have HC := Lib.hid (fun wx (hx : Onl non w wx) => Clone126 ro l.length rc (ecs p 0 l) wx (hrow.onl hx (fun _ _ h => h)) (es_one _) (by omega))
  have hc0 := hb.c0
  have hcr := hb.cr hl hr
  dsimp only at hcr
  obtain ⟨m, hm⟩ : ∃ m, m = B.logs.length := ⟨_, rfl⟩
  rw [← hm] at hc0 hp hm8
  obtain ⟨nl, hnl⟩ : ∃ nl, nl = l.length := ⟨_, rfl⟩
  rw [← hnl] at hcr HC ⊢
  have HW := Lib.hid (fun wx => within93 (p : Int) (m : Int) wx)
  have d1 : decide ((0 : Int) ≤ (p : Int) ∧ (p : Int) < (m : Int)) = true := decide_eq_true (by omega)
  have i0 : (0 : Int) ≤ (p : Int) := by omega
  have i1 : (p : Int) < (m : Int) := by omega
  clear hb hl hr hlog hrow hl64 hm hnl
  go_enter Try.func74, Try.ntmps74
  go_wp2_with fail
  refine (HW.out w).mono ?_
  rintro e w' ⟨rfl, rfl⟩
  go_wp2_with fail
  refine (HC.out w (Onl.refl _ _)).mono ?_
  rintro e w2 ⟨o', c', rfl, hown, ho⟩
  have HOw := Lib.hid hown
  have HO := Lib.hid ho
  clear hown ho hc0 hcr
  go_wp2
  go_ret2
  exact ⟨o', c', rfl, HOw.out, HO.out⟩
set_option maxRecDepth 100000 in
theorem Entries74_out (F : Nat → Prop) (g gd : Nat) (D : Dsk) (B : Bk) (p : Int) (w : World) (h : Mach w F g gd D B) (hp : ¬ (0 ≤ p ∧ p < (B.logs.length : Int))) :
    Calls Try.prog 74 #[.pointer (some ⟨g, 0, none⟩), .int .i64 p] w fun e w' => e = .returned (.tuple #[.slice none 0 0, .int .i64 1]) ∧ w = w' := by
  obtain ⟨gl, c, rows, gs, cs0, od, cw, _, hb, _⟩ := h
  have hc0 := hb.c0
  obtain ⟨m, hm⟩ : ∃ m, m = B.logs.length := ⟨_, rfl⟩
  rw [← hm] at hc0 hp
  have d1 : decide ((0 : Int) ≤ p ∧ p < (m : Int)) = false := decide_eq_false hp
  have HW := Lib.hid (fun wx => within93 p (m : Int) wx)
  clear hb hm hp
  go_enter Try.func74, Try.ntmps74
  go_wp2_with fail
  refine (HW.out w).mono ?_
  rintro e w' ⟨rfl, rfl⟩
  go_wp2
  go_ret2
  exact ⟨rfl, rfl⟩
theorem St.entries {W w : World} {l1 l2 : List Rs} {g gd : Nat} {D : Dsk} {B : Bk} (h : St W w (l1 ++ machR g gd D B :: l2)) (p : Nat) (hp : p < B.logs.length) :
    Calls Try.prog 74 #[.pointer (some ⟨g, 0, none⟩), .int .i64 (p : Int)] w fun e w' => ∃ o c, e = .returned (.tuple #[.slice o (B.log p).length c, .int .i64 0]) ∧ Own w' w.heap.size 42 3 o (B.log p).length c (ecs p 0 (B.log p)) ∧ Onl non w w' := by
  obtain ⟨A, hA, _⟩ := h.get
  exact Entries74_in A g gd D B p w hA hp
/-- Sum of messages -/
noncomputable def sumR (L : List Ent) : Int := if L.all Ent.ok then ((sumE L : Nat) : Int) else 0
def sumX (L : List Ent) : Int := if L.all Ent.ok then 0 else 92
set_option maxRecDepth 100000 in
theorem Sum85 (L : List Ent) (ao : Option Addr) (na ca : Nat) (w : World) (hna : na = L.length) (hna2 : na ≤ 9223372036854775807) (hL : RdE w ao L) (hfit : ∀ e ∈ L, e.fit) :
    Calls Try.prog 85 #[.slice ao na ca] w fun e w' => e = .returned (.tuple #[.int .u64 (sumR L), .int .i64 (sumX L)]) ∧ Onl non w w' := by
  have HL := Lib.hid hL
  have HNa := Lib.hid hna
  have HFit := Lib.hid hfit
  have HO := Lib.hid (Onl.refl non w)
  clear hL hna hfit
  go_enter Try.func85, Try.ntmps85
  go_wp2
  go_loopw [9] (fun x wr => ∃ k : Nat, k ≤ na ∧ x = .int .i64 k ∧ Hid (Onl non w wr) ∧ Hid (∀ e ∈ L.take k, e.ok = true)) (fun x _ => na - (intOf x).toNat)
  case atStart => exact ⟨0, by omega, rfl, HO, Lib.hid (fun e he => by cases he)⟩
  case round =>
    clear HO
    obtain ⟨wo, rfl⟩ : ∃ wo : World, wo = wr := ⟨_, rfl⟩
    obtain ⟨k, hk, rfl, HO, HA⟩ := hrel
    by_cases hlt : k < na
    · obtain ⟨⟨o, n, b⟩, he⟩ : ∃ e, L[k]? = some e := ⟨_, List.getElem?_eq_getElem (by have := HNa.out; omega)⟩
      obtain ⟨gx, off, hao, hx0, hx1, hx2⟩ := (HL.out.onl HO.out) k _ he
      subst hao
      dsimp only at hx0 hx1 hx2
      have hbs : b.size ≤ 9223372036854775807 := (HFit.out _ (List.mem_of_getElem? he)).2.2
      have i0 : (0 : Int) ≤ (k : Int) := by omega
      have i1 : (k : Int) < (na : Int) := by omega
      have HTk : Hid (L.take (k + 1) = L.take k ++ [⟨o, n, b⟩]) := Lib.hid (by
        have hkl : k < L.length := (List.getElem?_eq_some_iff.1 he).1
        rw [List.take_succ_eq_append_getElem hkl]
        rw [List.getElem?_eq_getElem hkl] at he
        rw [Option.some.inj he])
      have HMem : Hid (Ent.mk o n b ∈ L) := Lib.hid (List.mem_of_getElem? he)
      obtain ⟨wq, hwq⟩ : ∃ wq, wq = wo.alloc (.cells #[.int .i64 o, .int .i64 n, .string b] 42) := ⟨_, rfl⟩
      have HB : Hid (Blk wq wo.heap.size 42 [.int .i64 o, .int .i64 n, .string b]) := Lib.hid (by rw [hwq]; exact Blk.new wo 42 _)
      have HOq : Hid (Onl non w wq) := Lib.hid (by rw [hwq]; exact HO.out.alloc _)
      have y0 : wq.cell? ⟨wo.heap.size, 0, none⟩ = some (.int .i64 o) := HB.out.cell' rfl
      have y1 : wq.cell? ⟨wo.heap.size, 1, none⟩ = some (.int .i64 n) := HB.out.cell' rfl
      have y2 : wq.cell? ⟨wo.heap.size, 2, none⟩ = some (.string b) := HB.out.cell' rfl
      clear he HO
      go_upto_region 4 with fail
      rw [← hwq]
      clear hx0 hx1 hx2 hwq
      by_cases hok : OkE o n b.size
      · have HOk : Hid ((Ent.mk o n b).ok = true) := Lib.hid (decide_eq_true hok)
        go_wp2_with fail
        refine (CheckEntry_ok o n b wq hok).mono ?_
        rintro e w2 ⟨rfl, ho⟩
        have HO2 := Lib.hid (HOq.out.trans ho (fun _ _ h => h))
        clear ho HOq hok y0 y1 y2
        go_wp2
        go_roundw
        case rel =>
          refine ⟨k + 1, by omega, by go_num, HO2, Lib.hid (fun x hx => ?_)⟩
          rw [HTk.out] at hx
          rcases List.mem_append.1 hx with h | h
          · exact HA.out x h
          · rw [List.mem_singleton.1 h]; exact HOk.out
        case measure => simp [intOf]; omega
      · have HR : Hid (sumR L = 0 ∧ sumX L = 92) := Lib.hid (by
          have : L.all Ent.ok = false := by
            rw [List.all_eq_false]
            exact ⟨_, HMem.out, by simp only [Ent.ok]; rw [decide_eq_false hok]; simp⟩
          unfold sumR sumX
          rw [this]; exact ⟨rfl, rfl⟩)
        go_wp2_with fail
        refine (CheckEntry_no o n b wq hbs hok).mono ?_
        rintro e w2 ⟨rfl, ho⟩
        have HO2 := Lib.hid (HOq.out.trans ho (fun _ _ h => h))
        clear ho HOq hok y0 y1 y2
        go_wp2
        go_ret2
        exact ⟨by rw [HR.out.1, HR.out.2]; rfl, HO2.out⟩
    · have hall : ∀ e ∈ L, e.ok = true := by
        have h := HA.out
        rw [List.take_of_length_le (by have := HNa.out; omega)] at h; exact h
      have HR : Hid (sumR L = ((sumE L : Nat) : Int) ∧ sumX L = 0) := Lib.hid (by
        have : L.all Ent.ok = true := List.all_eq_true.2 hall
        unfold sumR sumX
        rw [this]; exact ⟨rfl, rfl⟩)
      have HS := Lib.hid (sum125 L ao na ca wo HNa.out hna2 (HL.out.onl HO.out) hall)
      clear hall
      go_wp2_with fail
      refine HS.out.mono ?_
      rintro e w2 ⟨rfl, ho⟩
      have HO2 := Lib.hid (HO.out.trans ho (fun _ _ h => h))
      clear ho HO HS
      go_wp2
      go_ret2
      exact ⟨by rw [HR.out.1, HR.out.2]; rfl, HO2.out⟩
end Go.Proofs.Ytenngchidlfaeaa
/- The law's plain, walked. -/
namespace Go.Proofs.Ytenngchidlfaeaa
open Go.RowKit
open Rad (Dsk)

/-- two beginnings with one sum are one -/
noncomputable def plainAt (L M : List Ent) (n : Nat) : Bool := !(((sumE (L.take n) : Nat) : Int) == ((sumE (M.take n) : Nat) : Int)) || decide (L.take n = M.take n)
noncomputable def plainB (L M : List Ent) : Bool := (List.range (min L.length M.length + 1)).all (plainAt L M)
theorem plainB_spec {L M : List Ent} (h : plainB L M = true) {n : Nat} (h1 : n ≤ L.length) (h2 : n ≤ M.length) (hs : sumE (L.take n) = sumE (M.take n)) : L.take n = M.take n := by
  unfold plainB at h
  rw [List.all_eq_true] at h
  have := h n (List.mem_range.2 (by omega))
  unfold plainAt at this
  rw [hs] at this
  simpa using this
set_option maxRecDepth 100000 in
set_option maxHeartbeats 1000000 in
theorem plain75 (L M : List Ent) (ao bo : Option Addr) (na ca nb cb : Nat) (w : World) (hna : na = L.length) (hnb : nb = M.length) (hna2 : na ≤ 1000000) (hnb2 : nb ≤ 1000000) (hL : Own w 0 42 3 ao na ca (es L)) (hM : Own w 0 42 3 bo nb cb (es M))
    (hLok : ∀ e ∈ L, e.ok = true) (hMok : ∀ e ∈ M, e.ok = true) (hLf : ∀ e ∈ L, e.fit) (hMf : ∀ e ∈ M, e.fit) :
    Calls Try.prog 75 #[.slice ao na ca, .slice bo nb cb] w fun e w' => e = .returned (.bool (plainB L M)) ∧ Onl non w w' := by
  have HNa := Lib.hid hna
  have HNb := Lib.hid hnb
  have HL : Hid (RdE w ao L) := Lib.hid (hL.rdE hna)
  have HM : Hid (RdE w bo M) := Lib.hid (hM.rdE hnb)
  have haA : ao = none ∧ na = 0 ∧ ca = 0 ∨ ∃ g, ao = some ⟨g, 0, none⟩ ∧ na ≤ ca := by
    rcases hL.addr with h | ⟨g, ex, h1, h2, _⟩
    · exact .inl h
    · exact .inr ⟨g, h1, h2⟩
  have haB : bo = none ∧ nb = 0 ∧ cb = 0 ∨ ∃ g, bo = some ⟨g, 0, none⟩ ∧ nb ≤ cb := by
    rcases hM.addr with h | ⟨g, ex, h1, h2, _⟩
    · exact .inl h
    · exact .inr ⟨g, h1, h2⟩
  have HAA := Lib.hid haA
  have HAB := Lib.hid haB
  have HSumL : Hid (∀ k, k ≤ na → ∀ wx, Onl non w wx → Calls Try.prog 85 #[.slice ao k ca] wx fun e w' => e = .returned (.tuple #[.int .u64 ((sumE (L.take k) : Nat) : Int), .int .i64 0]) ∧ Onl non wx w') := Lib.hid (fun k hk wx hx => by
    have h := Sum85 (L.take k) ao k ca wx (by rw [List.length_take]; omega) (by omega) ((HL.out.take k).onl hx) (fun e he => hLf e (List.mem_of_mem_take he))
    have ha : (L.take k).all Ent.ok = true := List.all_eq_true.2 (fun e he => hLok e (List.mem_of_mem_take he))
    unfold sumR sumX at h
    rw [ha, if_pos rfl, if_pos rfl] at h
    exact h)
  have HSumM : Hid (∀ k, k ≤ nb → ∀ wx, Onl non w wx → Calls Try.prog 85 #[.slice bo k cb] wx fun e w' => e = .returned (.tuple #[.int .u64 ((sumE (M.take k) : Nat) : Int), .int .i64 0]) ∧ Onl non wx w') := Lib.hid (fun k hk wx hx => by
    have h := Sum85 (M.take k) bo k cb wx (by rw [List.length_take]; omega) (by omega) ((HM.out.take k).onl hx) (fun e he => hMf e (List.mem_of_mem_take he))
    have ha : (M.take k).all Ent.ok = true := List.all_eq_true.2 (fun e he => hMok e (List.mem_of_mem_take he))
    unfold sumR sumX at h
    rw [ha, if_pos rfl, if_pos rfl] at h
    exact h)
  have HEnt : Hid (∀ k, k ≤ na → k ≤ nb → ∀ wx, Onl non w wx → Calls Try.prog 42 #[.slice ao k ca, .slice bo k cb] wx fun e w' => e = .returned (.bool (decide (L.take k = M.take k))) ∧ Drw wx w') := Lib.hid (fun k hk hk2 wx hx =>
    entries42 (L.take k) (M.take k) ao bo k ca k cb wx (by rw [List.length_take]; omega) (by rw [List.length_take]; omega) (by omega) (by omega) ((HL.out.take k).onl hx) ((HM.out.take k).onl hx))
  have HO := Lib.hid (Onl.refl non w)
  clear hna hnb hL hM hLok hMok hLf hMf haA haB
  obtain ⟨mn, hmn⟩ : ∃ mn, mn = min na nb := ⟨_, rfl⟩
  have HMn := Lib.hid hmn
  clear hmn
  go_enter Try.func75, Try.ntmps75
  go_wp2
  go_loopw [5] (fun x wr => ∃ k : Nat, k ≤ mn + 1 ∧ x = .int .i64 k ∧ Hid (Onl non w wr) ∧ Hid (∀ i, i < k → plainAt L M i = true)) (fun x _ => mn + 1 - (intOf x).toNat)
  case atStart => exact ⟨0, by omega, rfl, HO, Lib.hid (fun i hi => absurd hi (Nat.not_lt_zero _))⟩
  case round =>
    clear HO
    obtain ⟨wo, rfl⟩ : ∃ wo : World, wo = wr := ⟨_, rfl⟩
    obtain ⟨k, hk, rfl, HO, HA⟩ := hrel
    have hmn2 : mn ≤ 1000000 := by have := HMn.out; omega
    obtain ⟨bq, hbq⟩ : ∃ bq, bq = decide (k ≤ mn) := ⟨_, rfl⟩
    have HBq := Lib.hid hbq
    clear hbq
    go_upto_region 2 with fail
    go_cut [19] (fun t wx => t = .bool bq ∧ wx = wo)
    case first =>
      by_cases h1 : (k : Int) ≤ (na : Int)
      · have hb : bq = decide (k ≤ nb) := by rw [HBq.out]; exact decide_eq_decide.2 (by have := HMn.out; omega)
        go_wp2
        go_meet
        exact ⟨by rw [hb], rfl⟩
      · have hb : bq = false := by rw [HBq.out]; exact decide_eq_false (by have := HMn.out; omega)
        go_wp2
        go_meet
        exact ⟨by rw [hb], rfl⟩
    case rest =>
      obtain ⟨rfl, rfl⟩ := hcut
      cases bq with
      | true =>
        have hkm : k ≤ mn := of_decide_eq_true HBq.out.symm
        have hka : k ≤ na := by have := HMn.out; omega
        have hkb : k ≤ nb := by have := HMn.out; omega
        have hsl := fun wx => run_slice46_to wx ao na ca k HAA.out hka
        have hsl2 := fun wx => run_slice46_to wx bo nb cb k HAB.out hkb
        obtain ⟨s1, hs1⟩ : ∃ s1 : Int, s1 = ((sumE (L.take k) : Nat) : Int) := ⟨_, rfl⟩
        obtain ⟨s2, hs2⟩ : ∃ s2 : Int, s2 = ((sumE (M.take k) : Nat) : Int) := ⟨_, rfl⟩
        have HC1 := Lib.hid (HSumL.out k hka)
        have HC2 := Lib.hid (HSumM.out k hkb)
        have HC3 := Lib.hid (HEnt.out k hka hkb)
        rw [← hs1] at HC1
        rw [← hs2] at HC2
        obtain ⟨ee, hee⟩ : ∃ ee, ee = decide (L.take k = M.take k) := ⟨_, rfl⟩
        rw [← hee] at HC3
        have HP : Hid (plainAt L M k = (!(s1 == s2) || ee)) := Lib.hid (by unfold plainAt; rw [hs1, hs2, hee])
        clear hs1 hs2 hee
        go_wp2_with fail
        refine (HC1.out _ HO.out).mono ?_
        rintro e w1 ⟨rfl, ho⟩
        have HO1 := Lib.hid (HO.out.trans ho (fun _ _ h => h))
        clear ho
        go_wp2_with fail
        refine (HC2.out _ HO1.out).mono ?_
        rintro e w2 ⟨rfl, ho⟩
        have HO2 := Lib.hid (HO1.out.trans ho (fun _ _ h => h))
        clear ho HO1
        obtain ⟨bad, hbad⟩ : ∃ bad, bad = !plainAt L M k := ⟨_, rfl⟩
        have HBad := Lib.hid hbad
        clear hbad
        go_upto_region 6 with fail
        go_cut [56] (fun t wx => t = .bool bad ∧ Hid (Drw w2 wx))
        case first =>
          by_cases hss : s1 = s2
          · have d1 : (s1 == s2) = true := by rw [hss]; exact beq_self_eq_true _
            have hb : bad = !ee := by rw [HBad.out, HP.out, d1]; simp
            go_quiet ((go_at_call 42; exact qdrw (HC3.out _ (HO2.out.drewN _))))
            go_wp2_with fail
            go_meet
            exact ⟨by rw [hb], Lib.hid ⟨_, rfl⟩⟩
          · have d1 : (s1 == s2) = false := beq_eq_false_iff_ne.2 hss
            have hb : bad = false := by rw [HBad.out, HP.out, d1]; simp
            go_quiet (fail)
            go_wp2_with fail
            go_meet
            exact ⟨by rw [hb], Lib.hid ⟨_, rfl⟩⟩
        case rest =>
          obtain ⟨rfl, HD⟩ := hcut
          have HO3 := Lib.hid (HO2.out.of_drw HD.out)
          cases bad with
          | true =>
            have HR : Hid (plainB L M = false) := Lib.hid (by
              unfold plainB
              rw [List.all_eq_false]
              refine ⟨k, List.mem_range.2 (by have := HMn.out; have := HNa.out; have := HNb.out; omega), ?_⟩
              have h := HBad.out
              cases hp : plainAt L M k with
              | true => rw [hp] at h; cases h
              | false => simp)
            go_wp2
            go_ret
            exact ⟨by rw [HR.out]; rfl, HO3.out⟩
          | false =>
            have HPk : Hid (plainAt L M k = true) := Lib.hid (by
              have h := HBad.out
              cases hp : plainAt L M k with
              | true => rfl
              | false => rw [hp] at h; cases h)
            clear HO2 HD
            go_wp2
            go_roundw
            case rel =>
              refine ⟨k + 1, by omega, by go_num, HO3, Lib.hid (fun i hi => ?_)⟩
              by_cases e : i = k
              · subst e; exact HPk.out
              · exact HA.out i (by omega)
            case measure => simp [intOf]; omega
      | false =>
        have hkm : ¬ k ≤ mn := of_decide_eq_false HBq.out.symm
        have HR : Hid (plainB L M = true) := Lib.hid (by
          unfold plainB
          rw [List.all_eq_true]
          exact fun i hi => HA.out i (by have := List.mem_range.1 hi; have := HMn.out; have := HNa.out; have := HNb.out; omega))
        go_wp2
        go_ret
        exact ⟨by rw [HR.out]; rfl, HO.out⟩
end Go.Proofs.Ytenngchidlfaeaa
/- Plain: books that exchange what is wanted contain the same. -/
namespace Go.Proofs.Ytenngchidlfaeaa
open Go.RowKit
open Rad (Dsk)

/-- how many messages a book has -/
def tot (B : Bk) (m : Nat) : Nat := ((List.range m).map fun p => (B.log p).length).sum
theorem tot_succ (B : Bk) (m : Nat) : tot B (m + 1) = tot B m + (B.log m).length := by unfold tot; rw [List.range_succ, List.map_append, List.sum_append]; simp
theorem want_tot (B : Bk) (H S : List Int) : ∀ m, (wantN B H S m).length ≤ tot B m
  | 0 => Nat.le_refl _
  | m + 1 => by
    have ih := want_tot B H S m
    rw [wantN_succ, tot_succ, List.length_append, List.length_drop, ents_length]; omega
theorem rowStep_length (f : Nat → Option ByteArray) (r : List ByteArray) (n : Nat) : (rowStep f r n).length ≤ r.length + (if (f n).isSome then 1 else 0) := by
  unfold rowStep
  cases f n with
  | none => simp
  | some b =>
    simp only [Option.isSome_some, if_true]
    split
    · rw [List.length_append]; simp
    · split
      · rw [List.length_set]; omega
      · omega
theorem rowTake_length (f : Nat → Option ByteArray) (r : List ByteArray) : ∀ k, (rowTake f r k).length ≤ r.length + (List.range k).countP (fun n => (f n).isSome)
  | 0 => Nat.le_refl _
  | k + 1 => by
    have ih := rowTake_length f r k
    have h1 := rowStep_length f (rowTake f r k) k
    rw [rowTake_succ, List.range_succ, List.countP_append]
    simp only [List.countP_singleton]
    omega
theorem log_after {l : List Ent} {B B' : Bk} (h : ∀ q, B'.logs[q]? = (B.logs[q]?).map (fun r => rowTake (bestOf l q) r 65)) {p : Nat} (hp : p < B.logs.length) : B'.log p = rowTake (bestOf l p) (B.log p) 65 := by
  have h1 := h p
  rw [List.getElem?_eq_getElem hp] at h1
  have e : B.log p = B.logs[p] := by unfold Bk.log; rw [List.getD_eq_getElem?_getD, List.getElem?_eq_getElem hp]; rfl
  rw [e]
  unfold Bk.log
  rw [List.getD_eq_getElem?_getD, h1]; rfl
theorem logs_len_after {l : List Ent} {B B' : Bk} (h : ∀ q, B'.logs[q]? = (B.logs[q]?).map (fun r => rowTake (bestOf l q) r 65)) : B'.logs.length = B.logs.length := by
  rcases Nat.lt_trichotomy B'.logs.length B.logs.length with hl | hl | hl
  · have := h B'.logs.length
    rw [List.getElem?_eq_none (Nat.le_refl _), List.getElem?_eq_getElem hl] at this; cases this
  · exact hl
  · have := h B.logs.length
    rw [List.getElem?_eq_none (Nat.le_refl _), List.getElem?_eq_getElem hl] at this; cases this
theorem places_succ (m : Nat) : places (m + 1) = places m ++ (List.range 65).map fun n => (m, n) := by unfold places; rw [List.range_succ (n := m), List.flatMap_append]; simp
theorem take_tot {l : List Ent} {B B' : Bk} (h : ∀ q, B'.logs[q]? = (B.logs[q]?).map (fun r => rowTake (bestOf l q) r 65)) : ∀ m, m ≤ B.logs.length → tot B' m ≤ tot B m + (places m).countP (hasBest l)
  | 0, _ => Nat.zero_le _
  | m + 1, hm => by
    have ih := take_tot h m (by omega)
    have h1 := log_after h (p := m) (by omega)
    have h2 := rowTake_length (bestOf l m) (B.log m) 65
    rw [tot_succ, tot_succ, places_succ, List.countP_append, List.countP_map, h1]
    have e : (List.range 65).countP (hasBest l ∘ fun n => (m, n)) = (List.range 65).countP (fun n => (bestOf l m n).isSome) := rfl
    rw [e]
    omega
/-- what a list taken leaves, on a disk that stays calm -/
structure Good (D : Dsk) (B : Bk) (a j : Nat) : Prop where
  calm : Calm D
  len : D.safe.length = 4096
  falls : B.falls = D.falls
  pos : B.pos ≤ 1 + 17 * j
  tot : tot B a ≤ j
  offs : B.logs.length = a
theorem good_made {a : Nat} : Good (mD 4096 a) (mB 4096 a) a 0 := by
  have h := mD_calm (n := 4096) (a := a) (by omega)
  refine ⟨h.2.1, h.2.2.2, by rw [h.2.2.1]; rfl, Nat.le_refl _, ?_, by rw [mB_eq]; exact List.length_replicate⟩
  have : ∀ m, Go.Proofs.Ytenngchidlfaeaa.tot (mB 4096 a) m = 0 := by
    intro m
    induction m with
    | zero => rfl
    | succ m ih =>
      rw [tot_succ, ih]
      have : (mB 4096 a).log m = [] := by
        rw [mB_eq]; unfold Bk.log
        rw [List.getD_eq_getElem?_getD, List.getElem?_replicate]
        split <;> rfl
      rw [this]; rfl
  rw [this]; exact Nat.le_refl _
theorem Good.take {D : Dsk} {B : Bk} {a j : Nat} (h : Good D B a j) (l : List Ent) (hs : 17 * (j + l.length) ≤ 4000) :
    ∃ D' B' n', takeOf l D B = ⟨D', B', n', 0⟩ ∧ Good D' B' a (j + l.length) ∧ ∀ q, B'.logs[q]? = (B.logs[q]?).map (fun r => rowTake (bestOf l q) r 65) := by
  have hp := h.pos
  obtain ⟨D', B', n', h1, h2, h3, h4, h5, h6⟩ := take_calm (l := l) h.calm h.falls (by rw [h.len]; omega)
  refine ⟨D', B', n', h1, ⟨h2, by rw [h3, h.len], h4, by omega, ?_, by rw [logs_len_after h5, h.offs]⟩, h5⟩
  have t1 := take_tot h5 a (by rw [h.offs]; exact Nat.le_refl _)
  have t2 := best_count a l
  have t3 := h.tot
  omega
theorem lesser_comm (x y : Option ByteArray) : lesser x y = lesser y x := by
  cases x with
  | none => cases y <;> rfl
  | some a =>
    cases y with
    | none => rfl
    | some b =>
      simp only [lesser]
      cases h1 : blt b a with
      | true => rw [blt_asymm h1]; simp
      | false =>
        cases h2 : blt a b with
        | true => simp
        | false => rw [blt_total h1 h2]
theorem lesser_none {x y : Option ByteArray} (h : lesser x y = none) : x = none ∧ y = none := by
  cases x with
  | none => exact ⟨rfl, h⟩
  | some a =>
    cases y with
    | none => cases h
    | some b => simp only [lesser] at h; split at h <;> cases h
/-- a row behind the messages that it lacked of another row -/
theorem merge_row {f : Nat → Option ByteArray} {r s : List ByteArray} {from_ : Nat} (hf : ∀ n, f n = if from_ ≤ n then s[n]? else none) (hfr : from_ = 0 ∨ (from_ = r.length ∧ s.take from_ = r)) (hr : r.length ≤ 64) (hs : s.length ≤ 64) (n : Nat) :
    (rowTake f r 65)[n]? = lesser r[n]? s[n]? := by
  have hH : ∀ k, lesser r[k]? (f k) = lesser r[k]? s[k]? := by
    intro k
    rw [hf k]
    rcases hfr with h0 | ⟨h0, h1⟩
    · subst h0; rw [if_pos (Nat.zero_le _)]
    · by_cases hk : from_ ≤ k
      · rw [if_pos hk]
      · rw [if_neg hk]
        have hrk : r[k]? = s[k]? := by
          rw [← h1, List.getElem?_take, if_pos (by omega)]
        have hk2 : k < r.length := by omega
        rw [← hrk, List.getElem?_eq_getElem hk2]
        simp [lesser, blt_irrefl]
  rw [rowTake_get]
  by_cases hn : n < 65
  · rw [if_pos hn]
    by_cases hsol : Solid (fun m => lesser r[m]? (f m)) n
    · rw [if_pos hsol, hH n]
    · rw [if_neg hsol]
      -- a gap at or before n: nothing at n
      have : ∃ m, m ≤ n ∧ lesser r[m]? (f m) = none := by
        apply Classical.byContradiction
        intro hc
        exact hsol (fun m hm he => hc ⟨m, hm, he⟩)
      obtain ⟨m, hm, he⟩ := this
      rw [hH m] at he
      obtain ⟨e1, e2⟩ := lesser_none he
      have l1 := List.getElem?_eq_none_iff.1 e1
      have l2 := List.getElem?_eq_none_iff.1 e2
      rw [List.getElem?_eq_none (by omega), List.getElem?_eq_none (by omega)]; rfl
  · rw [if_neg hn, List.getElem?_eq_none (by omega), List.getElem?_eq_none (by omega)]; rfl
theorem ents_get? (p : Nat) (l : List ByteArray) (j : Nat) : (ents p 0 l)[j]? = (l[j]?).map (fun b => (⟨(p : Int), (j : Int), b⟩ : Ent)) := by
  cases h : l[j]? with
  | none => rw [List.getElem?_eq_none (by rw [ents_length]; exact List.getElem?_eq_none_iff.1 h)]; rfl
  | some b => rw [ents_get p (i := 0) h, Nat.zero_add]; rfl
theorem mem_wantN {B : Bk} {H S : List Int} {e : Ent} : ∀ {m : Nat}, e ∈ wantN B H S m ↔ ∃ p j : Nat, p < m ∧ fromN (ents p 0 (B.log p)) (H.getD p 0) (S.getD p 0) ≤ j ∧ (B.log p)[j]? = some e.b ∧ e.o = (p : Int) ∧ e.n = (j : Int)
  | 0 => ⟨fun h => (by cases h), fun ⟨p, j, h, _⟩ => absurd h (Nat.not_lt_zero _)⟩
  | m + 1 => by
    rw [wantN_succ, List.mem_append, mem_wantN (m := m)]
    constructor
    · rintro (⟨p, j, h1, h2⟩ | h)
      · exact ⟨p, j, by omega, h2⟩
      · obtain ⟨i, hi⟩ := List.getElem?_of_mem h
        rw [List.getElem?_drop, ents_get?] at hi
        obtain ⟨b, hb, he⟩ := Option.map_eq_some_iff.1 hi
        subst he
        exact ⟨m, _, by omega, Nat.le_add_right _ _, hb, rfl, rfl⟩
    · rintro ⟨p, j, h1, h2, h3, h4, h5⟩
      by_cases hp : p = m
      · subst hp
        refine .inr ?_
        have : ((ents p 0 (B.log p)).drop (fromN (ents p 0 (B.log p)) (H.getD p 0) (S.getD p 0)))[j - fromN (ents p 0 (B.log p)) (H.getD p 0) (S.getD p 0)]? = some e := by
          rw [List.getElem?_drop, show fromN (ents p 0 (B.log p)) (H.getD p 0) (S.getD p 0) + (j - fromN (ents p 0 (B.log p)) (H.getD p 0) (S.getD p 0)) = j from by omega, ents_get?, h3, ← h4, ← h5]; rfl
        exact List.mem_of_getElem? this
      · exact .inl ⟨p, j, by omega, h2, h3, h4, h5⟩
/-- the least of what is wanted -/
theorem best_want {B : Bk} {H S : List Int} {m p n : Nat} (hm : m ≤ 8) (hp : p < m) (h64 : (B.log p).length ≤ 64) (hb : ∀ b ∈ B.log p, b.size ≤ 1024) :
    bestOf (wantN B H S m) p n = if fromN (ents p 0 (B.log p)) (H.getD p 0) (S.getD p 0) ≤ n then (B.log p)[n]? else none := by
  refine (bestOf_least (wantN B H S m) p n).unique (l := wantN B H S m) (m := wantN B H S m) ?_ (fun _ => Iff.rfl)
  have hat : ∀ e ∈ wantN B H S m, e.at p n = true → fromN (ents p 0 (B.log p)) (H.getD p 0) (S.getD p 0) ≤ n ∧ (B.log p)[n]? = some e.b := by
    intro e he ha
    obtain ⟨p', j, h1, h2, h3, h4, h5⟩ := mem_wantN.1 he
    unfold Ent.at at ha
    simp only [Bool.and_eq_true, decide_eq_true_eq] at ha
    obtain rfl : p' = p := by omega
    obtain rfl : j = n := by omega
    exact ⟨h2, h3⟩
  constructor
  · intro hn e he
    cases ha : e.at p n with
    | false => rfl
    | true =>
      obtain ⟨h1, h2⟩ := hat e he ha
      rw [if_pos h1, h2] at hn; cases hn
  · intro b hbn
    split at hbn
    · rename_i hfn
      refine ⟨⟨⟨(p : Int), (n : Int), b⟩, mem_wantN.2 ⟨p, n, hp, hfn, hbn, rfl, rfl⟩, ?_, rfl⟩, fun e he ha => ?_⟩
      · have hn64 : n < (B.log p).length := (List.getElem?_eq_some_iff.1 hbn).1
        have hbs := hb b (List.mem_of_getElem? hbn)
        unfold Ent.at Ent.ok
        simp only [Bool.and_eq_true, decide_eq_true_eq]
        refine ⟨⟨?_, trivial⟩, trivial⟩
        unfold OkE; omega
      · have := (hat e he ha).2
        rw [hbn] at this
        rw [← Option.some.inj this]; exact blt_irrefl b
    · cases hbn
theorem ents_take (p : Nat) : ∀ (l : List ByteArray) (i k : Nat), (ents p i l).take k = ents p i (l.take k)
  | _, _, 0 => by simp [ents]
  | [], i, k + 1 => by simp [ents]
  | b :: r, i, k + 1 => by
    show (_ :: ents p (i + 1) r).take (k + 1) = _
    rw [List.take_succ_cons, ents_take p r (i + 1) k]; rfl
theorem getD_have (B : Bk) {m p : Nat} (hp : p < m) : (haveN B m).getD p 0 = (((B.log p).length : Nat) : Int) := by
  unfold haveN; rw [List.getD_eq_getElem?_getD, List.getElem?_map, List.getElem?_range hp]; rfl
theorem getD_sums (B : Bk) {m p : Nat} (hp : p < m) : (sumsN B m).getD p 0 = ((sumE (ents p 0 (B.log p)) : Nat) : Int) := by
  unfold sumsN; rw [List.getD_eq_getElem?_getD, List.getElem?_map, List.getElem?_range hp]; rfl
/-- from where on: from the beginning, or behind what both have -/
theorem from_case {p : Nat} {r s : List ByteArray} (h : ∀ n, n ≤ r.length → n ≤ s.length → sumE ((ents p 0 r).take n) = sumE ((ents p 0 s).take n) → (ents p 0 r).take n = (ents p 0 s).take n) :
    fromN (ents p 0 s) ((r.length : Nat) : Int) ((sumE (ents p 0 r) : Nat) : Int) = 0 ∨ (fromN (ents p 0 s) ((r.length : Nat) : Int) ((sumE (ents p 0 r) : Nat) : Int) = r.length ∧ s.take (fromN (ents p 0 s) ((r.length : Nat) : Int) ((sumE (ents p 0 r) : Nat) : Int)) = r) := by
  unfold fromN
  split
  · exact .inl rfl
  · rename_i hc
    rw [ents_length, Int.toNat_natCast] at hc
    rw [Int.toNat_natCast]
    refine .inr ⟨rfl, ?_⟩
    have h1 : r.length ≤ s.length := by
      apply Classical.byContradiction; intro hx; exact hc (.inl (by omega))
    have h2 : sumE ((ents p 0 s).take r.length) = sumE (ents p 0 r) := by
      apply Classical.byContradiction; intro hx; exact hc (.inr (by omega))
    have h3 := h r.length (Nat.le_refl _) h1 (by rw [h2, ents_take, List.take_length])
    rw [ents_take, ents_take, List.take_length] at h3
    exact (ents_inj h3).symm
/-- books that have exchanged what is wanted contain the same -/
theorem exchange {A B A' B' : Bk} {m : Nat} (hA : A.logs.length = m) (hB : B.logs.length = m) (hm : m ≤ 8)
    (hA64 : ∀ l ∈ A.logs, l.length ≤ 64) (hB64 : ∀ l ∈ B.logs, l.length ≤ 64) (hAb : ∀ l ∈ A.logs, ∀ b ∈ l, b.size ≤ 1024) (hBb : ∀ l ∈ B.logs, ∀ b ∈ l, b.size ≤ 1024)
    (hp : ∀ p, p < m → plainB (ents p 0 (A.log p)) (ents p 0 (B.log p)) = true)
    (hA' : ∀ q, A'.logs[q]? = (A.logs[q]?).map (fun r => rowTake (bestOf (wantN B (haveN A m) (sumsN A m) m) q) r 65))
    (hB' : ∀ q, B'.logs[q]? = (B.logs[q]?).map (fun r => rowTake (bestOf (wantN A (haveN B m) (sumsN B m) m) q) r 65)) : A'.logs = B'.logs := by
  have hmem : ∀ (C : Bk) p, C.logs.length = m → p < m → C.log p ∈ C.logs := fun C p h1 h2 => Rad.getD_mem (by omega)
  have lA := logs_len_after hA'
  have lB := logs_len_after hB'
  apply List.ext_getElem?
  intro q
  by_cases hq : q < m
  · have eA : A'.logs[q]? = some (A'.log q) := by unfold Bk.log; rw [List.getD_eq_getElem?_getD, List.getElem?_eq_getElem (by omega)]; rfl
    have eB : B'.logs[q]? = some (B'.log q) := by unfold Bk.log; rw [List.getD_eq_getElem?_getD, List.getElem?_eq_getElem (by omega)]; rfl
    rw [eA, eB, log_after hA' (by omega), log_after hB' (by omega)]
    congr 1
    have hr64 := hA64 _ (hmem A q hA hq)
    have hs64 := hB64 _ (hmem B q hB hq)
    have hpl := hp q hq
    apply List.ext_getElem?
    intro n
    have f1 : ∀ n, bestOf (wantN B (haveN A m) (sumsN A m) m) q n = if fromN (ents q 0 (B.log q)) (((A.log q).length : Nat) : Int) ((sumE (ents q 0 (A.log q)) : Nat) : Int) ≤ n then (B.log q)[n]? else none := fun n => by
      rw [best_want hm hq hs64 (hBb _ (hmem B q hB hq)), getD_have A hq, getD_sums A hq]
    have f2 : ∀ n, bestOf (wantN A (haveN B m) (sumsN B m) m) q n = if fromN (ents q 0 (A.log q)) (((B.log q).length : Nat) : Int) ((sumE (ents q 0 (B.log q)) : Nat) : Int) ≤ n then (A.log q)[n]? else none := fun n => by
      rw [best_want hm hq hr64 (hAb _ (hmem A q hA hq)), getD_have B hq, getD_sums B hq]
    have c1 := from_case (p := q) (r := A.log q) (s := B.log q) (fun n h1 h2 h3 => plainB_spec hpl (by rw [ents_length]; exact h1) (by rw [ents_length]; exact h2) h3)
    have c2 := from_case (p := q) (r := B.log q) (s := A.log q) (fun n h1 h2 h3 => (plainB_spec hpl (by rw [ents_length]; exact h2) (by rw [ents_length]; exact h1) h3.symm).symm)
    rw [merge_row f1 c1 hr64 hs64, merge_row f2 c2 hs64 hr64]
    exact lesser_comm _ _
  · rw [List.getElem?_eq_none (by omega), List.getElem?_eq_none (by omega)]
end Go.Proofs.Ytenngchidlfaeaa
/- Slices of numbers, cut. -/
namespace Go.Proofs.Ytenngchidlfaeaa
open Go.ChangeShapes Go.WideShapes Go.ChangeAt Go.RowKit Go.Deep
section
variable {H : Type} {enc : TypeId × Value → H}
set_option maxRecDepth 100000 in
theorem open_numsC {W : World} {base : Nat} {v : Value} {d : DataW H} {p : List MemPlace} (hval : Value.okWide Try.prog W .any base 49 v) (h : DataW.Trod enc Try.prog W 0 (fun _ => true) true 49 v d p) :
    ∃ (ao : Option Addr) (A : List Int) (len cap : Nat), v = .slice ao len cap ∧ len = A.length ∧ len ≤ 9223372036854775807 ∧ RdK W .i64 ao A ∧ len ≤ cap ∧ ∀ x ∈ A, -9223372036854775808 ≤ x ∧ x ≤ 9223372036854775807 := by
  have h0 := h
  obtain ⟨ao, A, len, cap, rfl, h1, h2, h3, h4⟩ := open_nums hval h
  refine ⟨ao, A, len, cap, rfl, h1, h2, h3, ?_, h4⟩
  obtain ⟨fuel, hf⟩ := h0
  rcases open_ints Try.underlying49 Try.underlying3 (by kernel_rfl) hf with ⟨hcs, hx⟩ | ⟨a, len', cap', zs, hcs, _, hl, hm, hz, hx, hcell, hwz⟩
  · simp [Value.cells] at hcs
    omega
  · simp [Value.cells] at hcs
    omega
end
theorem size3' (w : World) : (sizeOf 3).run Try.prog w = .ok 1 w := by kernel_rfl
/-- 'l[i:i+1:i+1]' -/
theorem run_slice49_one (w : World) (g o n c i : Nat) (h1 : i < n) (h2 : n ≤ c) :
    (Instr.slice 49 (.slice (some ⟨g, o, none⟩) n c) (some (.int .i64 (i : Int))) (some (.int .i64 ((i : Int) + 1))) (some (.int .i64 ((i : Int) + 1)))).run Try.prog w = .ok (.slice (some ⟨g, o + i, none⟩) 1 1) w := by
  have s3 := size3' w
  have e1 : ((i : Int) + 1) = ((i + 1 : Nat) : Int) := by omega
  have e2 : i + 1 ≤ c := by omega
  have e3 : i ≤ i + 1 := by omega
  have e4 : i + 1 - i = 1 := by omega
  have e5 : (⟨g, o, none⟩ : Addr).add i = ⟨g, o + i, none⟩ := addo g o i
  rw [e1]
  simp only [Instr.slice, Instr.sliceBounds, Instr.sliceBound, asIntOf]
  simp [e3, e4, e5]
  rw [if_pos (by omega), if_pos (by omega)]
theorem RdK.one {w : World} {κ : IntKind} {g o : Nat} {A : List Int} (h : RdK w κ (some ⟨g, o, none⟩) A) {i : Nat} {x : Int} (hx : A[i]? = some x) : RdK w κ (some ⟨g, o + i, none⟩) [x] := fun k y hy => by
  obtain ⟨rfl⟩ : k = 0 := by have := (List.getElem?_eq_some_iff.1 hy).1; simpa using this
  obtain ⟨g', o', e, hc⟩ := h i x hx
  simp only [Option.some.injEq, Addr.mk.injEq, and_true] at e
  obtain ⟨rfl, rfl⟩ := e
  simp at hy
  subst hy
  exact ⟨g, o + i, rfl, by rw [Nat.add_zero]; exact hc⟩
end Go.Proofs.Ytenngchidlfaeaa
