/- B3: texts T43 T44 T45 T46 T47 T48 T49 T50 T51 T52 P7 C21, joined. -/
import Derived.Test.YtenngchidlfaeaaB2
import Derived.Test.YtenngchidlfaeaaA7
import Derived.Test.YtenngchidlfaeaaA6
import Derived.Test.YtenngchidlfaeaaA3
import Derived.Test.YtenngchidlfaeaaA8
import Derived.Deep.DeepCutAuto
import Derived.Deep.RegionHeld3
import Derived.Deep.AppendLies
import Derived.ChangeSlices
/- The laws' small worlds: few, pick, walked. -/
namespace Go.Proofs.Ytenngchidlfaeaa
open Go.RowKit
open Rad (Dsk)

/-- the cells of a list of numbers lie behind an address -/
def RdK (w : World) (κ : IntKind) (ao : Option Addr) (A : List Int) : Prop := ∀ k x, A[k]? = some x → ∃ g off, ao = some ⟨g, off, none⟩ ∧ w.cell? ⟨g, off + k, none⟩ = some (.int κ x)
theorem RdK.onl {w w' : World} {κ : IntKind} {ao : Option Addr} {A : List Int} (h : RdK w κ ao A) (ho : Onl non w w') : RdK w' κ ao A := fun k x hx => by
  obtain ⟨g, off, h1, h2⟩ := h k x hx
  exact ⟨g, off, h1, ho.cell h2 (fun h => h)⟩
theorem Own.rdK {w : World} {B : Nat} {e : TypeId} {κ : IntKind} {o : Option Addr} {n c : Nat} {A : List Int} (h : Own w B e 1 o n c (A.map (Value.int κ))) (hn : n = A.length) : RdK w κ o A := fun k x hx => by
  have hk : k < A.length := (List.getElem?_eq_some_iff.1 hx).1
  obtain ⟨g, ex, rfl, _, hb, _⟩ := h.shape (by omega)
  exact ⟨g, 0, rfl, by rw [Nat.zero_add]; exact hb.cell_pre (by rw [List.getElem?_map, hx]; rfl)⟩
theorem Own.rdE {w : World} {B : Nat} {e : TypeId} {o : Option Addr} {n c : Nat} {L : List Ent} (h : Own w B e 3 o n c (es L)) (hn : n = L.length) : RdE w o L := fun k x hx => by
  have hk : k < L.length := (List.getElem?_eq_some_iff.1 hx).1
  obtain ⟨g, ex, rfl, _, hb, _⟩ := h.shape (by omega)
  obtain ⟨h0, h1, h2⟩ := es_get hx
  exact ⟨g, 0, rfl, by rw [Nat.zero_add]; exact hb.cell_pre h0, by rw [Nat.zero_add]; exact hb.cell_pre h1, by rw [Nat.zero_add]; exact hb.cell_pre h2⟩
/-- is a world small -/
def fewB (a b : Int) (I : List Ent) : Bool := decide (1 ≤ a ∧ a ≤ 8 ∧ 1 ≤ b ∧ b ≤ 100 ∧ I.length ≤ 24) && I.all (fun e => decide (e.b.size ≤ 1100))
set_option maxRecDepth 100000 in
theorem few65 (a b : Int) (I : List Ent) (io : Option Addr) (ni ci : Nat) (w : World) (hni : ni = I.length) (hni2 : ni ≤ 9223372036854775807) (hI : RdE w io I) (hfit : ∀ e ∈ I, e.fit) :
    Calls Try.prog 65 #[.agg #[.int .i64 a, .int .i64 b, .slice io ni ci]] w fun e w' => e = .returned (.bool (fewB a b I)) ∧ Onl non w w' := by
  have HNi := Lib.hid hni
  have HI := Lib.hid hI
  have HFit := Lib.hid hfit
  clear hni hI hfit
  obtain ⟨w1, hw1⟩ : ∃ w1, w1 = w.alloc (.cells #[.int .i64 a, .int .i64 b, .slice io ni ci] 85) := ⟨_, rfl⟩
  obtain ⟨bx, hbx⟩ : ∃ bx, bx = w.heap.size := ⟨_, rfl⟩
  have HB : Hid (Blk w1 bx 85 [.int .i64 a, .int .i64 b, .slice io ni ci]) := Lib.hid (by rw [hw1, hbx]; exact Blk.new w 85 _)
  have HO : Hid (Onl non w w1) := Lib.hid (by rw [hw1]; exact (Onl.refl _ _).alloc _)
  have x0 : w1.cell? ⟨bx, 0, none⟩ = some (.int .i64 a) := HB.out.cell' rfl
  have x1 : w1.cell? ⟨bx, 1, none⟩ = some (.int .i64 b) := HB.out.cell' rfl
  have x2 : w1.cell? ⟨bx, 2, none⟩ = some (.slice io ni ci) := HB.out.cell' rfl
  obtain ⟨bq, hbq⟩ : ∃ bq, bq = decide (a < 1 ∨ 8 < a ∨ b < 1 ∨ 100 < b ∨ 24 < ni) := ⟨_, rfl⟩
  have HBq := Lib.hid hbq
  clear hbq
  go_enter Try.func65, Try.ntmps65
  go_upto_region 1 with fail
  rw [← hw1, ← hbx]
  clear hw1 hbx
  go_cut [27] (fun t wx => t = .bool bq ∧ wx = w1)
  case first =>
    by_cases h1 : a < 1
    · have hb : bq = true := by rw [HBq.out]; exact decide_eq_true (by omega)
      go_wp2
      go_meet
      exact ⟨by rw [hb], rfl⟩
    by_cases h2 : 8 < a
    · have hb : bq = true := by rw [HBq.out]; exact decide_eq_true (by omega)
      go_wp2
      go_meet
      exact ⟨by rw [hb], rfl⟩
    by_cases h3 : b < 1
    · have hb : bq = true := by rw [HBq.out]; exact decide_eq_true (by omega)
      go_wp2
      go_meet
      exact ⟨by rw [hb], rfl⟩
    by_cases h4 : 100 < b
    · have hb : bq = true := by rw [HBq.out]; exact decide_eq_true (by omega)
      go_wp2
      go_meet
      exact ⟨by rw [hb], rfl⟩
    have hb : bq = decide ((24 : Int) < (ni : Int)) := by rw [HBq.out]; exact decide_eq_decide.2 (by omega)
    go_wp2
    go_meet
    exact ⟨by rw [hb], rfl⟩
  case rest =>
    obtain ⟨rfl, rfl⟩ := hcut
    clear x0 x1 x2
    cases bq with
    | true =>
      have hr : fewB a b I = false := by
        have h := of_decide_eq_true HBq.out.symm
        have hn := HNi.out
        unfold fewB
        rw [decide_eq_false (by omega)]; rfl
      have HR := Lib.hid hr
      clear hr
      go_wp2
      go_ret
      exact ⟨by rw [HR.out]; rfl, HO.out⟩
    | false =>
      have hr : fewB a b I = I.all (fun e => decide (e.b.size ≤ 1100)) := by
        have h := of_decide_eq_false HBq.out.symm
        have hn := HNi.out
        unfold fewB
        rw [decide_eq_true (by omega)]; rfl
      have HR := Lib.hid hr
      clear hr
      go_wp2
      go_loopw [3] (fun x wr => ∃ k : Nat, k ≤ ni ∧ x = .int .i64 k ∧ wr = wc ∧ Hid (∀ e ∈ I.take k, e.b.size ≤ 1100)) (fun x _ => ni - (intOf x).toNat)
      case atStart => exact ⟨0, by omega, rfl, rfl, Lib.hid (fun e he => by cases he)⟩
      case round =>
        obtain ⟨k, hk, rfl, rfl, HA⟩ := hrel
        have x2 : wr.cell? ⟨bx, 2, none⟩ = some (.slice io ni ci) := HB.out.cell' rfl
        by_cases hlt : k < ni
        · obtain ⟨e, he⟩ : ∃ e, I[k]? = some e := ⟨_, List.getElem?_eq_getElem (by have := HNi.out; omega)⟩
          obtain ⟨gx, off, hao, hx0, hx1, hx2⟩ := (HI.out.onl HO.out) k e he
          subst hao
          have hs : e.b.size ≤ 9223372036854775807 := (HFit.out e (List.mem_of_getElem? he)).2.2
          have i0 : (0 : Int) ≤ (k : Int) := by omega
          have i1 : (k : Int) < (ni : Int) := by omega
          have HTk : Hid (I.take (k + 1) = I.take k ++ [e]) := Lib.hid (by
            have hkl : k < I.length := (List.getElem?_eq_some_iff.1 he).1
            rw [List.take_succ_eq_append_getElem hkl]
            rw [List.getElem?_eq_getElem hkl] at he
            rw [Option.some.inj he])
          have HMem : Hid (e ∈ I) := Lib.hid (List.mem_of_getElem? he)
          clear he
          by_cases hbig : 1100 < e.b.size
          · have hf : I.all (fun e => decide (e.b.size ≤ 1100)) = false := by
              rw [List.all_eq_false]
              exact ⟨e, HMem.out, by rw [decide_eq_false (by omega)]; simp⟩
            have HF := Lib.hid hf
            clear hf
            go_wp2
            go_ret
            exact ⟨by rw [HR.out, HF.out]; rfl, HO.out⟩
          · go_wp2
            go_roundw
            case rel =>
              refine ⟨k + 1, by omega, by go_num, by trivial, Lib.hid (fun x hx => ?_)⟩
              rw [HTk.out] at hx
              rcases List.mem_append.1 hx with h | h
              · exact HA.out x h
              · rw [List.mem_singleton.1 h]; omega
            case measure => simp [intOf]; omega
        · have hf : I.all (fun e => decide (e.b.size ≤ 1100)) = true := by
            have h := HA.out
            rw [List.take_of_length_le (by have := HNi.out; omega)] at h
            rw [List.all_eq_true]
            exact fun x hx => decide_eq_true (h x hx)
          have HF := Lib.hid hf
          clear hf
          go_wp2
          go_ret
          exact ⟨by rw [HR.out, HF.out]; rfl, HO.out⟩
end Go.Proofs.Ytenngchidlfaeaa
/- The laws' pick, walked. -/
namespace Go.Proofs.Ytenngchidlfaeaa
open Go.RowKit
open Rad (Dsk)

/-- the messages of a world at indices -/
def pickL (I : List Ent) (A : List Int) : List Ent := A.filterMap fun x => if 0 ≤ x then I[x.toNat]? else none
theorem pickL_snoc (I : List Ent) (A : List Int) (x : Int) : pickL I (A ++ [x]) = pickL I A ++ (if 0 ≤ x then I[x.toNat]? else none).toList := by
  unfold pickL; rw [List.filterMap_append]; congr 1
theorem pickL_mem {I : List Ent} {A : List Int} {e : Ent} (h : e ∈ pickL I A) : e ∈ I := by
  obtain ⟨x, _, hx⟩ := List.mem_filterMap.1 h
  split at hx
  · exact List.mem_of_getElem? hx
  · cases hx
theorem pickL_length (I : List Ent) (A : List Int) : (pickL I A).length ≤ A.length := List.length_filterMap_le _ _
set_option maxRecDepth 100000 in
theorem pick66 (a b : Int) (I : List Ent) (io : Option Addr) (ni ci : Nat) (A : List Int) (ao : Option Addr) (na ca : Nat) (w : World) (hni : ni = I.length) (hni2 : ni ≤ 9223372036854775807) (hI : RdE w io I)
    (hna : na = A.length) (hna2 : na ≤ 1000000) (hA : RdK w .i64 ao A) :
    Calls Try.prog 66 #[.agg #[.int .i64 a, .int .i64 b, .slice io ni ci], .slice ao na ca] w fun e w' => ∃ o n c, e = .returned (.slice o n c) ∧ n = (pickL I A).length ∧ Own w' w.heap.size 42 3 o n c (es (pickL I A)) ∧ Onl non w w' := by
  have HNi := Lib.hid hni
  have HNa := Lib.hid hna
  have HI := Lib.hid hI
  have HA := Lib.hid hA
  clear hni hI hna hA
  obtain ⟨w1, hw1⟩ : ∃ w1, w1 = w.alloc (.cells #[.int .i64 a, .int .i64 b, .slice io ni ci] 85) := ⟨_, rfl⟩
  obtain ⟨bx, hbx⟩ : ∃ bx, bx = w.heap.size := ⟨_, rfl⟩
  have HB : Hid (Blk w1 bx 85 [.int .i64 a, .int .i64 b, .slice io ni ci]) := Lib.hid (by rw [hw1, hbx]; exact Blk.new w 85 _)
  have HO : Hid (Onl non w w1) := Lib.hid (by rw [hw1]; exact (Onl.refl _ _).alloc _)
  have HBx : Hid (bx = w.heap.size) := Lib.hid hbx
  have HW0 : Hid (Own w1 (bx + 1) 42 3 none 0 0 (es (pickL I (A.take 0)))) := Lib.hid (Own.nil _ _ _ _)
  go_enter Try.func66, Try.ntmps66
  go_upto_region 3 with fail
  rw [← hw1, ← hbx]
  clear hw1 hbx
  go_loopw [5, 6] (fun x y wr => ∃ (k : Nat) (so : Option Addr) (n c : Nat), k ≤ na ∧ y = .int .i64 k ∧ x = .slice so n c ∧ Hid (n = (pickL I (A.take k)).length ∧ n ≤ k) ∧ Hid (Own wr (bx + 1) 42 3 so n c (es (pickL I (A.take k)))) ∧ Hid (Onl non w wr) ∧ Hid (Blk wr bx 85 [.int .i64 a, .int .i64 b, .slice io ni ci])) (fun _ y _ => na - (intOf y).toNat)
  case atStart => exact ⟨0, none, 0, 0, by omega, rfl, rfl, Lib.hid ⟨rfl, by omega⟩, HW0, HO, HB⟩
  case round =>
    clear HO HB HW0
    obtain ⟨wo, rfl⟩ : ∃ wo : World, wo = wr := ⟨_, rfl⟩
    obtain ⟨k, so, n, c, hk, rfl, rfl, HN, HW, HO, HB⟩ := hrel
    by_cases hlt : k < na
    · obtain ⟨x, hx⟩ : ∃ x, A[k]? = some x := ⟨_, List.getElem?_eq_getElem (by have := HNa.out; omega)⟩
      obtain ⟨ga, oa, hao, hxa⟩ := HA.out k x hx
      subst hao
      have hx0 : wo.cell? ⟨ga, oa + k, none⟩ = some (.int .i64 x) := HO.out.cell hxa (fun h => h)
      have HXa := Lib.hid hxa
      clear hxa
      have i0 : (0 : Int) ≤ (k : Int) := by omega
      have i1 : (k : Int) < (na : Int) := by omega
      have x2 : wo.cell? ⟨bx, 2, none⟩ = some (.slice io ni ci) := HB.out.cell' rfl
      have HTk : Hid (A.take (k + 1) = A.take k ++ [x]) := Lib.hid (by
        have hkl : k < A.length := (List.getElem?_eq_some_iff.1 hx).1
        rw [List.take_succ_eq_append_getElem hkl]
        rw [List.getElem?_eq_getElem hkl] at hx
        rw [Option.some.inj hx])
      clear hx
      go_upto_region 5 with fail
      by_cases hx1 : 0 ≤ x
      · by_cases hx2' : x < (ni : Int)
        · have d1 : decide ((0 : Int) ≤ x) = true := decide_eq_true hx1
          have d2 : decide (x < (ni : Int)) = true := decide_eq_true hx2'
          obtain ⟨j, rfl⟩ : ∃ j : Nat, x = (j : Int) := ⟨x.toNat, by omega⟩
          obtain ⟨⟨p, q, b0⟩, he⟩ : ∃ e, I[j]? = some e := ⟨_, List.getElem?_eq_getElem (by have := HNi.out; omega)⟩
          obtain ⟨gi, oi, hio, he0, he1, he2⟩ := HI.out j _ he
          subst hio
          have HT2 : Hid (pickL I (A.take (k + 1)) = pickL I (A.take k) ++ [⟨p, q, b0⟩]) := Lib.hid (by
            rw [HTk.out, pickL_snoc, if_pos hx1, Int.toNat_natCast, he]; rfl)
          go_quiet (fail)
          obtain ⟨wq, hwq⟩ : ∃ wq, wq = wo.drewN nq := ⟨_, rfl⟩
          have HWq : Hid (Own wq (bx + 1) 42 3 so n c (es (pickL I (A.take k)))) := Lib.hid (by rw [hwq]; exact HW.out.drewN _)
          have HOq : Hid (Onl non w wq) := Lib.hid (by rw [hwq]; exact HO.out.drewN _)
          have HBq : Hid (Blk wq bx 85 [.int .i64 a, .int .i64 b, .slice (some ⟨gi, oi, none⟩) ni ci]) := Lib.hid (by rw [hwq]; exact HB.out.drewN _)
          have HBl : Hid (bx < wq.heap.size) := Lib.hid HBq.out.lt
          have HS : Hid (∀ wx, Onl (ownOf so) wq wx → wx.cell? ⟨bx, 2, none⟩ = some (.slice (some ⟨gi, oi, none⟩) ni ci) ∧ wx.cell? ⟨ga, oa + k, none⟩ = some (.int .i64 (j : Int)) ∧ wx.cell? ⟨gi, oi + j * 3, none⟩ = some (.int .i64 p) ∧ wx.cell? ⟨gi, oi + j * 3 + 1, none⟩ = some (.int .i64 q) ∧
              wx.cell? ⟨gi, oi + j * 3 + 2, none⟩ = some (.string b0)) := Lib.hid (by
            intro wx hx
            have hn : ∀ (pp : Addr) (v : Value), w.cell? pp = some v → wx.cell? pp = some v := fun pp v hc => hx.cell (HOq.out.cell hc (fun h => h)) (fun ho => by
              have h1 := (HWq.out.lt _ ho).1
              have h2 := World.block_lt_of_cell? w _ hc
              have h3 := HBx.out
              omega)
            exact ⟨(HBq.out.onl hx (fun ho => by have := (HWq.out.lt _ ho).1; omega)).cell' rfl, hn _ _ HXa.out, hn _ _ he0, hn _ _ he1, hn _ _ he2⟩)
          have hnk : n ≤ k := HN.out.2
          have i4 : (0 : Int) ≤ (j : Int) := hx1
          clear d1 d2 hx0 x2 he0 he1 he2 he HW HO HB
          go_upto_region 6 with fail
          rw [← hwq]
          clear hwq
          go_region_held3 (fun w' => w'.cell? ⟨bx, 2, none⟩ = some (.slice (some ⟨gi, oi, none⟩) ni ci) ∧ w'.cell? ⟨ga, oa + k, none⟩ = some (.int .i64 (j : Int)) ∧ w'.cell? ⟨gi, oi + j * 3, none⟩ = some (.int .i64 p) ∧ w'.cell? ⟨gi, oi + j * 3 + 1, none⟩ = some (.int .i64 q) ∧
              w'.cell? ⟨gi, oi + j * 3 + 2, none⟩ = some (.string b0))
            (first | exact HS.out _ ((Onl.refl _ _).drewN 1) | exact HS.out _ (((Onl.refl _ _).drewN 1).alloc _) | exact HS.out _ ((((Onl.refl (ownOf so) _).drewN 1).alloc _).trans hA2 (fun _ _ h => h)))
            ((refine step_app (by rfl) (.tmp 28) (.tmp 37) 46 (by rfl) (bx + 1) 42 (.agg #[.int .i64 0, .int .i64 0, .string ⟨#[]⟩]) 3 32 Try.underlying46 info42 rfl (by decide) so n c (es (pickL I (A.take k))) (by rfl) ((HWq.out.drewN 1).alloc _) ⟨wq.heap.size, 0, none⟩ 1 1 (es [⟨p, q, b0⟩]) (by rfl) (by rfl) ((Blk.new _ 42 (es [⟨p, q, b0⟩])).cells) (es_one _) (by omega) (by omega) (by have := HBl.out; simp; omega) ?_; intro o1 c1 wA hA1 hA2 hA3))
          have hA4 : Own wA (bx + 1) 42 3 o1 (n + 1) c1 (es (pickL I (A.take (k + 1)))) := by rw [HT2.out, es_append]; exact hA1
          have HA4 := Lib.hid hA4
          have hA5 : Onl (ownOf so) wq wA := (((Onl.refl (ownOf so) _).drewN 1).alloc _).trans hA2 (fun _ _ h => h)
          have HO4 : Hid (Onl non w wA) := Lib.hid (HOq.out.trans hA5 (fun k hk ho => by have := (HWq.out.lt _ ho).1; have := HBx.out; omega))
          have HB4 : Hid (Blk wA bx 85 [.int .i64 a, .int .i64 b, .slice (some ⟨gi, oi, none⟩) ni ci]) := Lib.hid (HBq.out.onl hA5 (fun ho => by have := (HWq.out.lt _ ho).1; omega))
          clear hA1 hA2 hA3 hA4 hA5
          go_wp2
          go_roundw
          case rel => exact ⟨k + 1, o1, n + 1, c1, by omega, by go_num, rfl, Lib.hid ⟨by rw [HT2.out, List.length_append, ← HN.out.1]; rfl, by omega⟩, HA4, HO4, HB4⟩
          case measure => simp [intOf]; omega
        · have d1 : decide ((0 : Int) ≤ x) = true := decide_eq_true hx1
          have d2 : decide (x < (ni : Int)) = false := decide_eq_false hx2'
          have HT2 : Hid (pickL I (A.take (k + 1)) = pickL I (A.take k)) := Lib.hid (by
            rw [HTk.out, pickL_snoc, if_pos hx1, List.getElem?_eq_none (by have := HNi.out; omega)]; simp)
          go_quiet (fail)
          go_wp2
          go_roundw
          case rel => exact ⟨k + 1, so, n, c, by omega, by go_num, rfl, Lib.hid ⟨by rw [HT2.out]; exact HN.out.1, by have := HN.out.2; omega⟩, Lib.hid (by rw [HT2.out]; exact HW.out.drewN _), Lib.hid (HO.out.drewN _), Lib.hid (HB.out.drewN _)⟩
          case measure => simp [intOf]; omega
      · have d1 : decide ((0 : Int) ≤ x) = false := decide_eq_false hx1
        have HT2 : Hid (pickL I (A.take (k + 1)) = pickL I (A.take k)) := Lib.hid (by
          rw [HTk.out, pickL_snoc, if_neg hx1]; simp)
        go_quiet (fail)
        go_wp2
        go_roundw
        case rel => exact ⟨k + 1, so, n, c, by omega, by go_num, rfl, Lib.hid ⟨by rw [HT2.out]; exact HN.out.1, by have := HN.out.2; omega⟩, Lib.hid (by rw [HT2.out]; exact HW.out.drewN _), Lib.hid (HO.out.drewN _), Lib.hid (HB.out.drewN _)⟩
        case measure => simp [intOf]; omega
    · go_wp2
      go_ret
      have hta : A.take k = A := List.take_of_length_le (by have := HNa.out; omega)
      have h1 := HN.out.1
      have h2 := HW.out
      rw [hta] at h1 h2
      exact ⟨so, n, c, rfl, h1, h2.mono (fun j hj => by have := (h2.lt j hj).1; have := HBx.out; omega), HO.out⟩
end Go.Proofs.Ytenngchidlfaeaa
/- The laws' entries, ints, tallies, walked. -/
namespace Go.Proofs.Ytenngchidlfaeaa
open Go.RowKit
open Rad (Dsk)

instance : DecidableEq Ent := fun a b => decidable_of_iff (a.o = b.o ∧ a.n = b.n ∧ a.b = b.b) ⟨fun ⟨h1, h2, h3⟩ => by cases a; cases b; simp_all, fun h => by rw [h]; exact ⟨rfl, rfl, rfl⟩⟩
theorem list_eq_of_take {α : Type} {L M : List α} (h : L.length = M.length) (ht : L.take L.length = M.take L.length) : L = M := by
  rw [List.take_length] at ht
  rw [ht, h, List.take_length]
theorem take_succ_eq {α : Type} {L M : List α} {k : Nat} {x : α} (h : L.take k = M.take k) (h1 : L[k]? = some x) (h2 : M[k]? = some x) : L.take (k + 1) = M.take (k + 1) := by
  have a1 := (List.getElem?_eq_some_iff.1 h1)
  have a2 := (List.getElem?_eq_some_iff.1 h2)
  obtain ⟨a1, e1⟩ := a1
  obtain ⟨a2, e2⟩ := a2
  rw [List.take_succ_eq_append_getElem a1, List.take_succ_eq_append_getElem a2, h, e1, e2]
set_option maxRecDepth 100000 in
theorem entries42 (L M : List Ent) (ao bo : Option Addr) (na ca nb cb : Nat) (w : World) (hna : na = L.length) (hnb : nb = M.length) (hna2 : na ≤ 9223372036854775807) (hnb2 : nb ≤ 9223372036854775807) (hL : RdE w ao L) (hM : RdE w bo M) :
    Calls Try.prog 42 #[.slice ao na ca, .slice bo nb cb] w fun e w' => e = .returned (.bool (decide (L = M))) ∧ Drw w w' := by
  have HL := Lib.hid hL
  have HM := Lib.hid hM
  have HNa := Lib.hid hna
  have HNb := Lib.hid hnb
  clear hL hM hna hnb
  by_cases hne : na = nb
  rotate_left
  · have hb : ((na : Int) != (nb : Int)) = true := ne_bne hne
    have hr : decide (L = M) = false := decide_eq_false (fun e => hne (by rw [HNa.out, HNb.out, e]))
    have HR := Lib.hid hr
    clear hr hne
    go_enter Try.func42, Try.ntmps42
    go_wp2
    go_ret
    exact ⟨by rw [HR.out]; rfl, Drw.refl _⟩
  subst hne
  go_enter Try.func42, Try.ntmps42
  go_wp2
  go_loopw [5] (fun x wr => ∃ k : Nat, k ≤ na ∧ x = .int .i64 k ∧ Hid (Drw w wr) ∧ Hid (L.take k = M.take k)) (fun x _ => na - (intOf x).toNat)
  case atStart => exact ⟨0, by omega, rfl, Lib.hid (Drw.refl _), Lib.hid rfl⟩
  case round =>
    obtain ⟨wo, rfl⟩ : ∃ wo : World, wo = wr := ⟨_, rfl⟩
    obtain ⟨k, hk, rfl, HD, HT⟩ := hrel
    by_cases hlt : k < na
    · obtain ⟨e1, he1⟩ : ∃ e, L[k]? = some e := ⟨_, List.getElem?_eq_getElem (by have := HNa.out; omega)⟩
      obtain ⟨e2, he2⟩ : ∃ e, M[k]? = some e := ⟨_, List.getElem?_eq_getElem (by have := HNb.out; omega)⟩
      have HO : Onl non w wo := (Onl.refl _ _).of_drw HD.out
      obtain ⟨g1, o1, h1, x0, x1, x2⟩ := (HL.out.onl HO) k _ he1
      obtain ⟨g2, o2, h2, y0, y1, y2⟩ := (HM.out.onl HO) k _ he2
      subst h1
      subst h2
      have i0 : (0 : Int) ≤ (k : Int) := by omega
      have i1 : (k : Int) < (na : Int) := by omega
      have hneq := fun wx => neq42 wx e1.o e1.n e2.o e2.n e1.b e2.b
      have HE : Hid (eqE e1.o e1.n e1.b e2.o e2.n e2.b = decide (e1 = e2)) := Lib.hid (by
        rw [eqE_iff]
        exact decide_eq_decide.2 ⟨fun ⟨h1, h2, h3⟩ => by cases e1; cases e2; simp_all, fun h => by rw [h]; exact ⟨rfl, rfl, rfl⟩⟩)
      by_cases he : e1 = e2
      · have hq : eqE e1.o e1.n e1.b e2.o e2.n e2.b = true := by rw [HE.out]; exact decide_eq_true he
        simp only [hq] at hneq
        have HT2 := Lib.hid (take_succ_eq HT.out he1 (by rw [he]; exact he2))
        clear he1 he2 HO hq he
        go_upto_region 6 with fail
        go_quiet (fail)
        go_wp2
        go_roundw
        case rel => exact ⟨k + 1, by omega, by go_num, Lib.hid (HD.out.drewN _), HT2⟩
        case measure => simp [intOf]; omega
      · have hq : eqE e1.o e1.n e1.b e2.o e2.n e2.b = false := by rw [HE.out]; exact decide_eq_false he
        simp only [hq] at hneq
        have hr : decide (L = M) = false := decide_eq_false (fun e => he (by rw [e, he2] at he1; exact (Option.some.inj he1).symm))
        have HR := Lib.hid hr
        clear he1 he2 HO hq he hr
        go_upto_region 6 with fail
        go_quiet (fail)
        go_wp2
        go_ret
        exact ⟨by rw [HR.out]; rfl, HD.out.drewN _⟩
    · obtain rfl : k = na := by omega
      have hr : decide (L = M) = true := decide_eq_true (by
        have h := HT.out
        have h1 := HNa.out
        have h2 := HNb.out
        rw [h1] at h
        exact list_eq_of_take (by omega) h)
      have HR := Lib.hid hr
      clear hr
      go_wp2
      go_ret
      exact ⟨by rw [HR.out]; rfl, HD.out⟩
end Go.Proofs.Ytenngchidlfaeaa
/- The laws' ints, tallies, walked. -/
namespace Go.Proofs.Ytenngchidlfaeaa
open Go.RowKit
open Rad (Dsk)

theorem int_ne {a b : Int} (h : a ≠ b) : (a != b) = true := bne_iff_ne.2 h
theorem int_eq {a b : Int} (h : a = b) : (a != b) = false := by rw [h]; simp
set_option maxRecDepth 100000 in
theorem ints43 (L M : List Int) (ao bo : Option Addr) (na ca nb cb : Nat) (w : World) (hna : na = L.length) (hnb : nb = M.length) (hna2 : na ≤ 9223372036854775807) (hnb2 : nb ≤ 9223372036854775807) (hL : RdK w .i64 ao L) (hM : RdK w .i64 bo M) :
    Calls Try.prog 43 #[.slice ao na ca, .slice bo nb cb] w fun e w' => e = .returned (.bool (decide (L = M))) ∧ Drw w w' := by
  have HL := Lib.hid hL
  have HM := Lib.hid hM
  have HNa := Lib.hid hna
  have HNb := Lib.hid hnb
  clear hL hM hna hnb
  by_cases hne : na = nb
  rotate_left
  · have hb : ((na : Int) != (nb : Int)) = true := ne_bne hne
    have hr : decide (L = M) = false := decide_eq_false (fun e => hne (by rw [HNa.out, HNb.out, e]))
    have HR := Lib.hid hr
    clear hr hne
    go_enter Try.func43, Try.ntmps43
    go_wp2
    go_ret
    exact ⟨by rw [HR.out]; rfl, Drw.refl _⟩
  subst hne
  go_enter Try.func43, Try.ntmps43
  go_wp2
  go_loopw [5] (fun x wr => ∃ k : Nat, k ≤ na ∧ x = .int .i64 k ∧ Hid (Drw w wr) ∧ Hid (L.take k = M.take k)) (fun x _ => na - (intOf x).toNat)
  case atStart => exact ⟨0, by omega, rfl, Lib.hid (Drw.refl _), Lib.hid rfl⟩
  case round =>
    obtain ⟨wo, rfl⟩ : ∃ wo : World, wo = wr := ⟨_, rfl⟩
    obtain ⟨k, hk, rfl, HD, HT⟩ := hrel
    by_cases hlt : k < na
    · obtain ⟨e1, he1⟩ : ∃ e, L[k]? = some e := ⟨_, List.getElem?_eq_getElem (by have := HNa.out; omega)⟩
      obtain ⟨e2, he2⟩ : ∃ e, M[k]? = some e := ⟨_, List.getElem?_eq_getElem (by have := HNb.out; omega)⟩
      have HO : Onl non w wo := (Onl.refl _ _).of_drw HD.out
      obtain ⟨g1, o1, h1, x0⟩ := (HL.out.onl HO) k _ he1
      obtain ⟨g2, o2, h2, y0⟩ := (HM.out.onl HO) k _ he2
      subst h1
      subst h2
      have i0 : (0 : Int) ≤ (k : Int) := by omega
      have i1 : (k : Int) < (na : Int) := by omega
      by_cases he : e1 = e2
      · have hq : (e1 != e2) = false := int_eq he
        have HT2 := Lib.hid (take_succ_eq HT.out he1 (by rw [he]; exact he2))
        clear he1 he2 HO he
        go_upto_region 6 with fail
        go_quiet (fail)
        go_wp2
        go_roundw
        case rel => exact ⟨k + 1, by omega, by go_num, Lib.hid (HD.out.drewN _), HT2⟩
        case measure => simp [intOf]; omega
      · have hq : (e1 != e2) = true := int_ne he
        have hr : decide (L = M) = false := decide_eq_false (fun e => he (by rw [e, he2] at he1; exact (Option.some.inj he1).symm))
        have HR := Lib.hid hr
        clear he1 he2 HO he hr
        go_upto_region 6 with fail
        go_quiet (fail)
        go_wp2
        go_ret
        exact ⟨by rw [HR.out]; rfl, HD.out.drewN _⟩
    · obtain rfl : k = na := by omega
      have hr : decide (L = M) = true := decide_eq_true (by
        have h := HT.out
        have h1 := HNa.out
        have h2 := HNb.out
        rw [h1] at h
        exact list_eq_of_take (by omega) h)
      have HR := Lib.hid hr
      clear hr
      go_wp2
      go_ret
      exact ⟨by rw [HR.out]; rfl, HD.out⟩
set_option maxRecDepth 100000 in
theorem tallies120 (H G S T : List Int) (hao gao sao tao : Option Addr) (nh ch ng cg ns cs nt ct : Nat) (w : World) (hnh : nh = H.length) (hng : ng = G.length) (hns : ns = S.length) (hnt : nt = T.length)
    (hh2 : nh ≤ 9223372036854775807) (hg2 : ng ≤ 9223372036854775807) (hs2 : ns ≤ 9223372036854775807) (ht2 : nt ≤ 9223372036854775807) (hH : RdK w .i64 hao H) (hG : RdK w .i64 gao G) (hS : RdK w .u64 sao S) (hT : RdK w .u64 tao T) :
    Calls Try.prog 120 #[.agg #[.slice hao nh ch, .slice sao ns cs], .agg #[.slice gao ng cg, .slice tao nt ct]] w fun e w' => e = .returned (.bool (decide (H = G ∧ S = T))) ∧ Onl non w w' := by
  have HH := Lib.hid hH
  have HG := Lib.hid hG
  have HS := Lib.hid hS
  have HT := Lib.hid hT
  have HNs := Lib.hid hns
  have HNt := Lib.hid hnt
  have HI := fun wx (hx : Onl non w wx) => ints43 H G hao gao nh ch ng cg wx hnh hng hh2 hg2 (hH.onl hx) (hG.onl hx)
  have HIn := Lib.hid HI
  clear hH hG hS hT hns hnt hnh hng HI
  obtain ⟨w1, hw1⟩ : ∃ w1, w1 = (w.alloc (.cells #[.slice hao nh ch, .slice sao ns cs] 97)).alloc (.cells #[.slice gao ng cg, .slice tao nt ct] 97) := ⟨_, rfl⟩
  obtain ⟨bx, hbx⟩ : ∃ bx, bx = w.heap.size := ⟨_, rfl⟩
  have HB : Hid (Blk w1 bx 97 [.slice hao nh ch, .slice sao ns cs]) := Lib.hid (by rw [hw1, hbx]; exact (Blk.new w 97 _).alloc _)
  have HC : Hid (Blk w1 (bx + 1) 97 [.slice gao ng cg, .slice tao nt ct]) := Lib.hid (by rw [hw1, hbx]; exact Blk.newB w _ 97 _)
  have HO : Hid (Onl non w w1) := Lib.hid (by rw [hw1]; exact ((Onl.refl _ _).alloc _).alloc _)
  have x0 : w1.cell? ⟨bx, 0, none⟩ = some (.slice hao nh ch) := HB.out.cell' rfl
  have x1 : w1.cell? ⟨bx, 1, none⟩ = some (.slice sao ns cs) := HB.out.cell' rfl
  have y0 : w1.cell? ⟨bx + 1, 0, none⟩ = some (.slice gao ng cg) := HC.out.cell' rfl
  have y1 : w1.cell? ⟨bx + 1, 1, none⟩ = some (.slice tao nt ct) := HC.out.cell' rfl
  go_enter Try.func120, Try.ntmps120
  go_upto_region 1 with fail
  rw [← hw1, ← hbx]
  clear hw1 hbx
  go_wp2_with fail
  refine (HIn.out w1 HO.out).mono ?_
  rintro e w2 ⟨rfl, hd⟩
  have HO2 : Hid (Onl non w w2) := Lib.hid (HO.out.of_drw hd)
  have HB2 : Hid (Blk w2 bx 97 [.slice hao nh ch, .slice sao ns cs]) := Lib.hid (HB.out.drw hd)
  have HC2 : Hid (Blk w2 (bx + 1) 97 [.slice gao ng cg, .slice tao nt ct]) := Lib.hid (HC.out.drw hd)
  clear hd x0 x1 y0 y1 HB HC HO
  by_cases hhg : H = G
  rotate_left
  · have hr : decide (H = G ∧ S = T) = false := decide_eq_false (fun h => hhg h.1)
    have hq : decide (H = G) = false := decide_eq_false hhg
    have HR := Lib.hid hr
    clear hr hhg
    go_wp2
    go_ret
    exact ⟨by rw [HR.out]; rfl, HO2.out⟩
  have hr : decide (H = G ∧ S = T) = decide (S = T) := decide_eq_decide.2 ⟨fun h => h.2, fun h => ⟨hhg, h⟩⟩
  have hq : decide (H = G) = true := decide_eq_true hhg
  have HR := Lib.hid hr
  have x1 : w2.cell? ⟨bx, 1, none⟩ = some (.slice sao ns cs) := HB2.out.cell' rfl
  have y1 : w2.cell? ⟨bx + 1, 1, none⟩ = some (.slice tao nt ct) := HC2.out.cell' rfl
  clear hr hhg
  by_cases hne : ns = nt
  rotate_left
  · have hb : ((ns : Int) != (nt : Int)) = true := ne_bne hne
    have hr : decide (S = T) = false := decide_eq_false (fun e => hne (by rw [HNs.out, HNt.out, e]))
    have HR2 := Lib.hid hr
    clear hr hne
    go_wp2
    go_ret
    exact ⟨by rw [HR.out, HR2.out]; rfl, HO2.out⟩
  subst hne
  go_wp2
  clear hq x1 y1
  go_loopw [5] (fun x wr => ∃ k : Nat, k ≤ ns ∧ x = .int .i64 k ∧ Hid (Drw w2 wr) ∧ Hid (S.take k = T.take k)) (fun x _ => ns - (intOf x).toNat)
  case atStart => exact ⟨0, by omega, rfl, Lib.hid (Drw.refl _), Lib.hid rfl⟩
  case round =>
    obtain ⟨wo, rfl⟩ : ∃ wo : World, wo = wr := ⟨_, rfl⟩
    obtain ⟨k, hk, rfl, HD, HT2⟩ := hrel
    have x1 : wo.cell? ⟨bx, 1, none⟩ = some (.slice sao ns cs) := (HB2.out.drw HD.out).cell' rfl
    have y1 : wo.cell? ⟨bx + 1, 1, none⟩ = some (.slice tao ns ct) := (HC2.out.drw HD.out).cell' rfl
    by_cases hlt : k < ns
    · obtain ⟨e1, he1⟩ : ∃ e, S[k]? = some e := ⟨_, List.getElem?_eq_getElem (by have := HNs.out; omega)⟩
      obtain ⟨e2, he2⟩ : ∃ e, T[k]? = some e := ⟨_, List.getElem?_eq_getElem (by have := HNt.out; omega)⟩
      have HO3 : Onl non w wo := HO2.out.of_drw HD.out
      obtain ⟨g1, o1, h1, z0⟩ := (HS.out.onl HO3) k _ he1
      obtain ⟨g2, o2, h2, z1⟩ := (HT.out.onl HO3) k _ he2
      subst h1
      subst h2
      have i0 : (0 : Int) ≤ (k : Int) := by omega
      have i1 : (k : Int) < (ns : Int) := by omega
      by_cases he : e1 = e2
      · have hq : (e1 != e2) = false := int_eq he
        have HT3 := Lib.hid (take_succ_eq HT2.out he1 (by rw [he]; exact he2))
        clear he1 he2 HO3 he
        go_upto_region 6 with fail
        go_quiet (fail)
        go_wp2
        go_roundw
        case rel => exact ⟨k + 1, by omega, by go_num, Lib.hid (HD.out.drewN _), HT3⟩
        case measure => simp [intOf]; omega
      · have hq : (e1 != e2) = true := int_ne he
        have hr : decide (S = T) = false := decide_eq_false (fun e => he (by rw [e, he2] at he1; exact (Option.some.inj he1).symm))
        have HR2 := Lib.hid hr
        clear he1 he2 HO3 he hr
        go_upto_region 6 with fail
        go_quiet (fail)
        go_wp2
        go_ret
        exact ⟨by rw [HR.out, HR2.out]; rfl, HO2.out.of_drw (HD.out.drewN _)⟩
    · obtain rfl : k = ns := by omega
      have hr : decide (S = T) = true := decide_eq_true (by
        have h := HT2.out
        have h1 := HNs.out
        have h2 := HNt.out
        rw [h1] at h
        exact list_eq_of_take (by omega) h)
      have HR2 := Lib.hid hr
      clear hr
      go_wp2
      go_ret
      exact ⟨by rw [HR.out, HR2.out]; rfl, HO2.out.of_drw HD.out⟩
end Go.Proofs.Ytenngchidlfaeaa
/- The sum of messages, walked. -/
namespace Go.Proofs.Ytenngchidlfaeaa
open Go.RowKit
open Rad (Dsk)

/-- a byte taken into a sum (chosen, so that nothing computes it) -/
theorem fnvX : ∃ f : Nat → Nat → Nat, ∀ h b, f h b = (h ^^^ b) * 1099511628211 % 18446744073709551616 := ⟨fun h b => (h ^^^ b) * 1099511628211 % 18446744073709551616, fun _ _ => rfl⟩
noncomputable def fnv : Nat → Nat → Nat := Classical.choose fnvX
theorem fnv_eq (h b : Nat) : fnv h b = (h ^^^ b) * 1099511628211 % 18446744073709551616 := Classical.choose_spec fnvX h b
noncomputable def fnvs (h : Nat) (l : List Nat) : Nat := l.foldl fnv h
theorem fnv_lt (h b : Nat) : fnv h b < 18446744073709551616 := by rw [fnv_eq]; exact Nat.mod_lt _ (by decide)
theorem fnvs_lt : ∀ (l : List Nat) {h : Nat}, h < 18446744073709551616 → fnvs h l < 18446744073709551616
  | [], _, hh => hh
  | b :: l, _, _ => fnvs_lt l (fnv_lt _ b)
theorem fnvs_append (h : Nat) (l m : List Nat) : fnvs h (l ++ m) = fnvs (fnvs h l) m := by unfold fnvs; rw [List.foldl_append]
theorem fnvs_snoc (h : Nat) (l : List Nat) (b : Nat) : fnvs h (l ++ [b]) = fnv (fnvs h l) b := by unfold fnvs; rw [List.foldl_append, List.foldl_cons, List.foldl_nil]
/-- the bytes that a message is summed by -/
def sumB (e : Ent) : List Nat := [e.o.toNat, e.n.toNat, e.b.size % 256, e.b.size / 256] ++ bl e.b
def sum0 : Nat := 14695981039346656037
noncomputable def sumE (L : List Ent) : Nat := L.foldl (fun h e => fnvs h (sumB e)) sum0
theorem sumE_snoc (L : List Ent) (e : Ent) : sumE (L ++ [e]) = fnvs (sumE L) (sumB e) := by unfold sumE; rw [List.foldl_append, List.foldl_cons, List.foldl_nil]
theorem sumE_lt (L : List Ent) : sumE L < 18446744073709551616 := by
  unfold sumE
  suffices H : ∀ (L : List Ent) (h : Nat), h < 18446744073709551616 → L.foldl (fun h e => fnvs h (sumB e)) h < 18446744073709551616 from H L sum0 (by unfold sum0; decide)
  intro L
  induction L with
  | nil => exact fun h hh => hh
  | cons e L ih => exact fun h hh => ih _ (fnvs_lt _ hh)
theorem bxor64 (a b : Nat) (ha : a < 18446744073709551616) (hb : b < 18446744073709551616) : bits .xor .u64 (a : Int) (b : Int) = ((a ^^^ b : Nat) : Int) := by
  have hx : a ^^^ b < 2 ^ 64 := Nat.xor_lt_two_pow (by omega) (by omega)
  have h1 : (BitVec.ofInt 64 (a : Int)).toNat = a := by
    rw [BitVec.ofInt_natCast, BitVec.toNat_ofNat]; exact Nat.mod_eq_of_lt (by omega)
  have h2 : (BitVec.ofInt 64 (b : Int)).toNat = b := by
    rw [BitVec.ofInt_natCast, BitVec.toNat_ofNat]; exact Nat.mod_eq_of_lt (by omega)
  show IntKind.u64.wrap ((BitVec.ofInt 64 (a : Int) ^^^ BitVec.ofInt 64 (b : Int)).toNat : Int) = _
  rw [BitVec.toNat_xor, h1, h2]
  exact IntWalk.u64_in _ (by omega)
set_option maxRecDepth 100000 in
theorem sum165 (g h b : Nat) (w : World) (hb : b < 256) (hh : h < 18446744073709551616) (hB : Blk w g 119 [.int .u64 (h : Int)]) :
    Calls Try.prog 165 #[.int .u8 (b : Int), .pointer (some ⟨g, 0, none⟩)] w fun e w' => e = .returned (.tuple #[]) ∧ Blk w' g 119 [.int .u64 ((fnv h b : Nat) : Int)] ∧ Onl (one g) w w' := by
  have hc := hB.cell' (i := 0) rfl
  have hf := hB.free 0
  have h1 := bxor64 h b hh (by omega)
  obtain ⟨x, hx⟩ : ∃ x, x = h ^^^ b := ⟨_, rfl⟩
  rw [← hx] at h1
  obtain ⟨f, hf'⟩ : ∃ f, f = fnv h b := ⟨_, rfl⟩
  have h2 : IntKind.u64.wrap ((x : Int) * 1099511628211) = (f : Int) := by rw [hf', hx, IntKind.wrap_u64, fnv_eq]; omega
  have HF := Lib.hid hf'
  have HB := Lib.hid hB
  clear hB hf' hx
  go_enter Try.func165, Try.ntmps165
  go_wp2
  refine bodyPost_end (v := .tuple #[]) (by simp [results, Try.results165, go_sem]) rfl ⟨rfl, ?_, (Onl.refl _ _).set _ _ (fun _ => rfl)⟩
  rw [← HF.out]
  exact HB.out.set 0 _
theorem St.sum165 {W w : World} {l1 l2 : List Rs} {g h : Nat} (hs : St W w (l1 ++ blkR g 119 [.int .u64 (h : Int)] :: l2)) (b : Nat) (hb : b < 256) (hh : h < 18446744073709551616) :
    Calls Try.prog 165 #[.int .u8 (b : Int), .pointer (some ⟨g, 0, none⟩)] w fun e w' => e = .returned (.tuple #[]) ∧ St W w' (l1 ++ blkR g 119 [.int .u64 ((fnv h b : Nat) : Int)] :: l2) := by
  refine hs.call l1 (r' := blkR g 119 [.int .u64 ((fnv h b : Nat) : Int)]) (fun A ⟨hB, hA⟩ => ?_)
  refine (Go.Proofs.Ytenngchidlfaeaa.sum165 g h b w hb hh hB).mono fun e w' ⟨he, hB', ho⟩ => ⟨he, A, ⟨hB', hA⟩, fun _ h => .inl h, ho.mono (fun k hk => (hA k).2 hk)⟩
set_option maxRecDepth 100000 in
set_option maxHeartbeats 1000000 in
theorem sum125 (L : List Ent) (ao : Option Addr) (na ca : Nat) (w : World) (hna : na = L.length) (hna2 : na ≤ 9223372036854775807) (hL : RdE w ao L) (hok : ∀ e ∈ L, e.ok = true) :
    Calls Try.prog 125 #[.slice ao na ca] w fun e w' => e = .returned (.int .u64 ((sumE L : Nat) : Int)) ∧ Onl non w w' := by
  have HL := Lib.hid hL
  have HNa := Lib.hid hna
  have HOk := Lib.hid hok
  clear hL hna hok
  obtain ⟨w1, hw1⟩ : ∃ w1, w1 = w.alloc (.cells #[.int .u64 14695981039346656037] 119) := ⟨_, rfl⟩
  obtain ⟨bz, hbz⟩ : ∃ bz, bz = w.heap.size := ⟨_, rfl⟩
  obtain ⟨s0, hs0⟩ : ∃ s0, s0 = sumE (L.take 0) := ⟨_, rfl⟩
  have HS : Hid (St w w1 [blkR bz 119 [.int .u64 (s0 : Int)]]) := Lib.hid (by
    have e : (s0 : Int) = 14695981039346656037 := by rw [hs0]; rfl
    rw [hw1, hbz, e]; exact (St.start w).newBlk 119 [.int .u64 14695981039346656037])
  go_enter Try.func125, Try.ntmps125
  go_upto_region 2 with fail
  rw [← hw1, ← hbz]
  clear hw1 hbz
  go_wp2
  go_loopw [11] (fun x wr => ∃ (k s : Nat), k ≤ na ∧ x = .int .i64 k ∧ Hid (s = sumE (L.take k)) ∧ Hid (St w wr [blkR bz 119 [.int .u64 (s : Int)]])) (fun x _ => na - (intOf x).toNat)
  case atStart => exact ⟨0, s0, by omega, rfl, Lib.hid hs0, HS⟩
  case round =>
    clear HS hs0
    obtain ⟨wo, rfl⟩ : ∃ wo : World, wo = wr := ⟨_, rfl⟩
    obtain ⟨k, s, hk, rfl, HSm, HS⟩ := hrel
    by_cases hlt : k < na
    · obtain ⟨⟨o, n, b⟩, he⟩ : ∃ e, L[k]? = some e := ⟨_, List.getElem?_eq_getElem (by have := HNa.out; omega)⟩
      obtain ⟨gx, off, hao, hx0, hx1, hx2⟩ := (HL.out.onl HS.out.base) k _ he
      subst hao
      have hoe : OkE o n b.size := of_decide_eq_true (HOk.out _ (List.mem_of_getElem? he))
      obtain ⟨o, rfl⟩ : ∃ o' : Nat, o = (o' : Int) := ⟨o.toNat, by have := hoe.1; omega⟩
      obtain ⟨n, rfl⟩ : ∃ n' : Nat, n = (n' : Int) := ⟨n.toNat, by have := hoe.2.1; omega⟩
      have ho8 : o < 256 := by have := hoe.1; omega
      have hn8 : n < 256 := by have := hoe.2.1; omega
      have hbs : b.size ≤ 1024 := hoe.2.2
      have i0 : (0 : Int) ≤ (k : Int) := by omega
      have i1 : (k : Int) < (na : Int) := by omega
      have e0 : IntKind.u8.wrap (o : Int) = (o : Int) := u8w ho8
      have e1 : IntKind.u8.wrap (n : Int) = (n : Int) := u8w hn8
      have e2 : IntKind.u8.wrap (b.size : Int) = ((b.size % 256 : Nat) : Int) := by rw [IntKind.wrap_u8]; omega
      have HTk : Hid (sumE (L.take (k + 1)) = fnvs (fnv (fnv (fnv (fnv s o) n) (b.size % 256)) (b.size / 256)) (bl b)) := Lib.hid (by
        have hkl : k < L.length := (List.getElem?_eq_some_iff.1 he).1
        rw [List.take_succ_eq_append_getElem hkl]
        rw [List.getElem?_eq_getElem hkl] at he
        rw [Option.some.inj he, sumE_snoc, ← HSm.out]
        unfold sumB
        rw [fnvs_append]
        unfold fnvs
        simp only [List.foldl_cons, List.foldl_nil, Int.toNat_natCast])
      have hs64 : s < 18446744073709551616 := by rw [HSm.out]; exact sumE_lt _
      obtain ⟨be, hbe⟩ : ∃ be, be = wo.heap.size := ⟨_, rfl⟩
      obtain ⟨wq, hwq⟩ : ∃ wq, wq = wo.alloc (.cells #[.int .i64 (o : Int), .int .i64 (n : Int), .string b] 42) := ⟨_, rfl⟩
      have HSq : Hid (St w wq [blkR be 42 [.int .i64 (o : Int), .int .i64 (n : Int), .string b], blkR bz 119 [.int .u64 (s : Int)]]) := Lib.hid (by rw [hwq, hbe]; exact HS.out.newBlk 42 _)
      have y0 : wq.cell? ⟨be, 0, none⟩ = some (.int .i64 (o : Int)) := (HSq.out.blk (l1 := [])).cell' rfl
      clear he hoe HS
      go_upto_region 6 with fail
      rw [← hwq, ← hbe]
      clear hx0 hx1 hx2 hwq hbe
      obtain ⟨h1, hh1⟩ : ∃ h1, h1 = fnv s o := ⟨_, rfl⟩
      obtain ⟨h2, hh2⟩ : ∃ h2, h2 = fnv h1 n := ⟨_, rfl⟩
      obtain ⟨h3, hh3⟩ : ∃ h3, h3 = fnv h2 (b.size % 256) := ⟨_, rfl⟩
      obtain ⟨h4, hh4⟩ : ∃ h4, h4 = fnv h3 (b.size / 256) := ⟨_, rfl⟩
      rw [← hh1, ← hh2, ← hh3, ← hh4] at HTk
      have l1 : h1 < 18446744073709551616 := by rw [hh1]; exact fnv_lt _ _
      have l2 : h2 < 18446744073709551616 := by rw [hh2]; exact fnv_lt _ _
      have l3 : h3 < 18446744073709551616 := by rw [hh3]; exact fnv_lt _ _
      have l4 : h4 < 18446744073709551616 := by rw [hh4]; exact fnv_lt _ _
      have HH1 := Lib.hid hh1
      have HH2 := Lib.hid hh2
      have HH3 := Lib.hid hh3
      have HH4 := Lib.hid hh4
      clear hh1 hh2 hh3 hh4
      go_wp2_with fail
      refine (St.sum165 (l1 := [_]) HSq.out (o) ho8 hs64).mono ?_
      rintro e w' ⟨rfl, hs'⟩
      rw [← HH1.out] at hs'
      clear HSq y0
      have HSq : Hid (St w w' [blkR be 42 [.int .i64 (o : Int), .int .i64 (n : Int), .string b], blkR bz 119 [.int .u64 (h1 : Int)]]) := Lib.hid hs'
      have y1 : w'.cell? ⟨be, 1, none⟩ = some (.int .i64 (n : Int)) := (HSq.out.blk (l1 := [])).cell' rfl
      clear hs'
      go_wp2_with fail
      refine (St.sum165 (l1 := [_]) HSq.out (n) hn8 l1).mono ?_
      rintro e w' ⟨rfl, hs'⟩
      rw [← HH2.out] at hs'
      clear HSq y1
      have HSq : Hid (St w w' [blkR be 42 [.int .i64 (o : Int), .int .i64 (n : Int), .string b], blkR bz 119 [.int .u64 (h2 : Int)]]) := Lib.hid hs'
      have y2 : w'.cell? ⟨be, 2, none⟩ = some (.string b) := (HSq.out.blk (l1 := [])).cell' rfl
      clear hs'
      go_wp2_with fail
      refine (St.sum165 (l1 := [_]) HSq.out (b.size % 256) (by omega) l2).mono ?_
      rintro e w' ⟨rfl, hs'⟩
      rw [← HH3.out] at hs'
      clear HSq y2
      have HSq : Hid (St w w' [blkR be 42 [.int .i64 (o : Int), .int .i64 (n : Int), .string b], blkR bz 119 [.int .u64 (h3 : Int)]]) := Lib.hid hs'
      have y2 : w'.cell? ⟨be, 2, none⟩ = some (.string b) := (HSq.out.blk (l1 := [])).cell' rfl
      clear hs'
      go_wp2_with fail
      refine (St.sum165 (l1 := [_]) HSq.out (b.size / 256) (by omega) l3).mono ?_
      rintro e w' ⟨rfl, hs'⟩
      rw [← HH4.out] at hs'
      clear HSq y2
      have HSq : Hid (St w w' [blkR be 42 [.int .i64 (o : Int), .int .i64 (n : Int), .string b], blkR bz 119 [.int .u64 (h4 : Int)]]) := Lib.hid hs'
      have y2 : w'.cell? ⟨be, 2, none⟩ = some (.string b) := (HSq.out.blk (l1 := [])).cell' rfl
      clear hs'
      go_wp2
      clear y2 e0 e1 e2
      go_loopw [41] (fun x wr => ∃ (j s : Nat), j ≤ b.size ∧ x = .int .i64 j ∧ Hid (s = fnvs h4 ((bl b).take j)) ∧ Hid (St w wr [blkR be 42 [.int .i64 (o : Int), .int .i64 (n : Int), .string b], blkR bz 119 [.int .u64 (s : Int)]])) (fun x _ => b.size - (intOf x).toNat)
      case atStart => exact ⟨0, h4, by omega, rfl, Lib.hid rfl, HSq⟩
      case round =>
        clear HSq
        obtain ⟨wy, rfl⟩ : ∃ wy : World, wy = wr := ⟨_, rfl⟩
        obtain ⟨j, t, hj, rfl, HT, HSq⟩ := hrel
        have y2 : wy.cell? ⟨be, 2, none⟩ = some (.string b) := (HSq.out.blk (l1 := [])).cell' rfl
        by_cases hjl : j < b.size
        · have j0 : (0 : Int) ≤ (j : Int) := by omega
          have j1 : (j : Int) < (b.size : Int) := by omega
          have hv := b[j].toNat_lt
          have ht : t < 18446744073709551616 := by rw [HT.out]; exact fnvs_lt _ l4
          have HT2 : Hid (fnvs h4 ((bl b).take (j + 1)) = fnv t b[j].toNat) := Lib.hid (by rw [bl_take b j hjl, fnvs_snoc, ← HT.out])
          go_wp2_with fail
          refine (St.sum165 (l1 := [_]) HSq.out b[j].toNat (by omega) ht).mono ?_
          rintro e w' ⟨rfl, hs'⟩
          rw [← HT2.out] at hs'
          have HSr := Lib.hid hs'
          clear hs' y2
          go_wp2
          go_roundw
          case rel => exact ⟨j + 1, _, by omega, by go_num, Lib.hid rfl, HSr⟩
          case measure => simp [intOf]; omega
        · obtain rfl : j = b.size := by omega
          have HT3 : Hid (sumE (L.take (k + 1)) = t) := Lib.hid (by
            rw [HTk.out, HT.out, List.take_of_length_le (by rw [bl_length]; omega)])
          have HSr : Hid (St w wy [blkR bz 119 [.int .u64 (t : Int)]]) := Lib.hid (HSq.out.drop [])
          clear HSq
          go_wp2
          go_roundw
          case rel => exact ⟨k + 1, t, by omega, by go_num, Lib.hid HT3.out.symm, HSr⟩
          case measure => simp [intOf]; omega
    · obtain rfl : k = na := by omega
      have HT3 : Hid (sumE L = s) := Lib.hid (by
        have h := HSm.out
        rw [List.take_of_length_le (by have := HNa.out; omega)] at h; exact h.symm)
      have z0 : wo.cell? ⟨bz, 0, none⟩ = some (.int .u64 (s : Int)) := (HS.out.blk (l1 := [])).cell' rfl
      go_wp2
      go_ret
      exact ⟨by rw [HT3.out]; rfl, HS.out.base⟩
end Go.Proofs.Ytenngchidlfaeaa
/- The program's book: Offices, Tally, walked. -/
namespace Go.Proofs.Ytenngchidlfaeaa
open Go.RowKit
open Rad (Dsk)

theorem info119 : (Try.prog.info? 119).map (fun i => (i.zero, i.size, i.bytes)) = some (some (.int .u64 0), 1, 8) := by kernel_rfl
/-- how many messages the first k offices have, and their sums -/
def haveN (B : Bk) (k : Nat) : List Int := (List.range k).map fun p => (((B.log p).length : Nat) : Int)
noncomputable def sumsN (B : Bk) (k : Nat) : List Int := (List.range k).map fun p => ((sumE (ents p 0 (B.log p)) : Nat) : Int)
theorem haveN_succ (B : Bk) (k : Nat) : haveN B (k + 1) = haveN B k ++ [(((B.log k).length : Nat) : Int)] := by unfold haveN; rw [List.range_succ, List.map_append]; rfl
theorem sumsN_succ (B : Bk) (k : Nat) : sumsN B (k + 1) = sumsN B k ++ [((sumE (ents k 0 (B.log k)) : Nat) : Int)] := by unfold sumsN; rw [List.range_succ, List.map_append]; rfl
theorem haveN_length (B : Bk) (k : Nat) : (haveN B k).length = k := by simp [haveN]
theorem sumsN_length (B : Bk) (k : Nat) : (sumsN B k).length = k := by simp [sumsN]
def kcs (κ : IntKind) (A : List Int) : List Value := A.map (Value.int κ)
theorem kcs_one (κ : IntKind) (A : List Int) : ∀ u ∈ kcs κ A, u.oneCell' = true := by
  intro u hu; obtain ⟨x, _, rfl⟩ := List.mem_map.1 hu; rfl
theorem kcs_append (κ : IntKind) (A C : List Int) : kcs κ (A ++ C) = kcs κ A ++ kcs κ C := by simp [kcs]
set_option maxRecDepth 100000 in
theorem Offices121 (F : Nat → Prop) (g gd : Nat) (D : Dsk) (B : Bk) (w : World) (h : Mach w F g gd D B) : Calls Try.prog 121 #[.pointer (some ⟨g, 0, none⟩)] w fun e w' => e = .returned (.int .i64 (B.logs.length : Int)) ∧ w = w' := by
  obtain ⟨gl, c, rows, gs, cs, o, cw, _, hb, _⟩ := h
  have hc0 := hb.c0
  clear hb
  go_enter Try.func121, Try.ntmps121
  go_wp2
  go_ret
  exact ⟨rfl, rfl⟩
/-- the messages of a row are valid -/
theorem ents_ok {p : Nat} (hp : p < 8) : ∀ (l : List ByteArray) (i : Nat), i + l.length ≤ 64 → (∀ b ∈ l, b.size ≤ 1024) → ∀ e ∈ ents p i l, e.ok = true
  | [], _, _, _, e, he => by cases he
  | b :: r, i, hi, hb, e, he => by
    simp only [List.length_cons] at hi
    rcases List.mem_cons.1 he with rfl | h
    · refine decide_eq_true ?_
      have := hb b (by simp)
      unfold OkE
      simp only
      omega
    · exact ents_ok hp r (i + 1) (by omega) (fun x hx => hb x (by simp [hx])) e h
def TallyPost (B : Bk) (w : World) (e : Ending) (w' : World) : Prop := ∃ ha ch sa cs, e = .returned (.agg #[.slice ha B.logs.length ch, .slice sa B.logs.length cs]) ∧ Own w' w.heap.size 3 1 ha B.logs.length ch (kcs .i64 (haveN B B.logs.length)) ∧
  Own w' w.heap.size 119 1 sa B.logs.length cs (kcs .u64 (sumsN B B.logs.length)) ∧ Onl non w w'
set_option maxRecDepth 100000 in
set_option maxHeartbeats 1000000 in
theorem Tally72 (F : Nat → Prop) (g gd : Nat) (D : Dsk) (B : Bk) (w : World) (h : Mach w F g gd D B) : Calls Try.prog 72 #[.pointer (some ⟨g, 0, none⟩)] w fun e w' => TallyPost B w e w' := by
  obtain ⟨gl, c, rows, gs, cs0, od, cw, _, hb, _⟩ := h
  have HBk := Lib.hid hb
  have hc0 := hb.c0
  have hm8 := hb.in1
  obtain ⟨m, hm⟩ : ∃ m, m = B.logs.length := ⟨_, rfl⟩
  rw [← hm] at hc0 hm8
  have HMm := Lib.hid hm
  clear hb
  obtain ⟨w1, hw1⟩ : ∃ w1, w1 = w.alloc (.cells #[.slice none 0 0, .slice none 0 0] 97) := ⟨_, rfl⟩
  obtain ⟨bt, hbt⟩ : ∃ bt, bt = w.heap.size := ⟨_, rfl⟩
  have HB : Hid (Blk w1 bt 97 [.slice none 0 0, .slice none 0 0]) := Lib.hid (by rw [hw1, hbt]; exact Blk.new w 97 _)
  have HO : Hid (Onl non w w1) := Lib.hid (by rw [hw1]; exact (Onl.refl _ _).alloc _)
  have HBt : Hid (bt = w.heap.size) := Lib.hid hbt
  have hc1 : w1.cell? ⟨g, 0, none⟩ = some (.slice (some ⟨gl, 0, none⟩) m c) := HO.out.cell hc0 (fun h => h)
  clear hc0 hm
  go_enter Try.func72, Try.ntmps72
  go_upto_region 1 with fail
  rw [← hw1, ← hbt]
  clear hw1 hbt
  go_wp2
  clear hc1
  go_loopw [10] (fun x wr => ∃ (k : Nat) (ha sa : Option Addr) (ch cs : Nat), k ≤ m ∧ x = .int .i64 k ∧ Hid (Blk wr bt 97 [.slice ha k ch, .slice sa k cs]) ∧ Hid (Own wr bt 3 1 ha k ch (kcs .i64 (haveN B k))) ∧ Hid (Own wr bt 119 1 sa k cs (kcs .u64 (sumsN B k))) ∧ Hid (Onl non w wr)) (fun x _ => m - (intOf x).toNat)
  case atStart => exact ⟨0, none, none, 0, 0, by omega, rfl, HB, Lib.hid (Own.nil _ _ _ _), Lib.hid (Own.nil _ _ _ _), HO⟩
  case round =>
    clear HB HO
    obtain ⟨wo, rfl⟩ : ∃ wo : World, wo = wr := ⟨_, rfl⟩
    obtain ⟨k, ha, sa, ch, cs, hk, rfl, HB, HH, HS, HO⟩ := hrel
    by_cases hlt : k < m
    · have hbk : BkAt wo g gl c gd rows B := HBk.out.onl HO.out (fun _ _ h => h)
      obtain ⟨l, hl⟩ : ∃ l, B.logs[k]? = some l := ⟨_, List.getElem?_eq_getElem (by have := HMm.out; omega)⟩
      obtain ⟨⟨ro, rc⟩, hr⟩ : ∃ r, rows[k]? = some r := ⟨_, List.getElem?_eq_getElem (by rw [hbk.len]; have := HMm.out; omega)⟩
      have hcr := hbk.cr hl hr
      dsimp only at hcr
      obtain ⟨nl, hnl⟩ : ∃ nl, nl = l.length := ⟨_, rfl⟩
      have hnl64 : nl ≤ 64 := by rw [hnl]; exact hbk.in2 l (List.mem_of_getElem? hl)
      have hlog : B.log k = l := log_of hl
      have HSum : Hid (∀ wx, Onl non w wx → Calls Try.prog 125 #[.slice ro nl rc] wx fun e w' => e = .returned (.int .u64 ((sumE (ents k 0 l) : Nat) : Int)) ∧ Onl non wx w') := Lib.hid (fun wx hx => by
        have hrow := (HBk.out.row k l _ hl hr).onl hx (fun _ _ h => h)
        refine sum125 (ents k 0 l) ro nl rc wx (by rw [ents_length, hnl]) (by omega) ?_ (ents_ok (by have := hbk.in1; have := HMm.out; omega) l 0 (by omega) (fun b hb => hbk.in3 l (List.mem_of_getElem? hl) b hb))
        rw [← hnl] at hrow
        exact hrow.rdE (by rw [ents_length, hnl]))
      rw [← hnl] at hcr
      have HHn : Hid (haveN B (k + 1) = haveN B k ++ [(nl : Int)]) := Lib.hid (by rw [haveN_succ, hlog, hnl])
      have HSn : Hid (sumsN B (k + 1) = sumsN B k ++ [((sumE (ents k 0 l) : Nat) : Int)]) := Lib.hid (by rw [sumsN_succ, hlog])
      obtain ⟨sv, hsv⟩ : ∃ sv : Int, sv = ((sumE (ents k 0 l) : Nat) : Int) := ⟨_, rfl⟩
      rw [← hsv] at HSum HSn
      have y0 : wo.cell? ⟨bt, 0, none⟩ = some (.slice ha k ch) := HB.out.cell' rfl
      have hbw : bt ≤ wo.heap.size := by have := HB.out.lt; omega
      have HOx : Hid (Own (wo.alloc (.cells #[.int .i64 (nl : Int)] 3)) bt 3 1 ha k ch (kcs .i64 (haveN B k))) := Lib.hid (HH.out.alloc _)
      have HNB : Hid (∀ j u, (kcs .i64 [(nl : Int)])[j]? = some u → (wo.alloc (.cells #[.int .i64 (nl : Int)] 3)).cell? ((⟨wo.heap.size, 0, none⟩ : Addr).add j) = some u) := Lib.hid ((Blk.new wo 3 [.int .i64 (nl : Int)]).cells)
      have HnB : Hid (¬ ownOf ha bt) := Lib.hid (HH.out.ne_blk HB.out (by decide))
      have HB2 : Hid (Blk (wo.alloc (.cells #[.int .i64 (nl : Int)] 3)) bt 97 [.slice ha k ch, .slice sa k cs]) := Lib.hid (HB.out.alloc _)
      clear hl hr hnl hlog hsv hbk
      go_wp2_with (first | (at_builtin; refine wpList_app rfl (.tmp 15) (.tmp 18) 49 rfl bt 3 (.int .i64 0) 1 8 Try.underlying49 info3 rfl (by decide) _ _ _ _ rfl HOx.out ⟨wo.heap.size, 0, none⟩ 1 1 (kcs .i64 [(nl : Int)]) rfl rfl HNB.out (kcs_one _ _) (by omega) (by omega) (by simp; omega) ?_; intro o1 c1 wA hA1 hA2 hA3; have HA1 := Lib.hid hA1; have HA2 := Lib.hid hA2; have hbA := HB2.out.onl hA2 HnB.out; have hcA := hbA.cell' (i := 0) rfl; have hfA := hbA.free 0; clear hA1 hA2 hA3 hbA))
      obtain ⟨w5, hw5⟩ : ∃ w5, w5 = wA.setCell ⟨bt, 0, none⟩ (.slice o1 (k + 1) c1) := ⟨_, rfl⟩
      rw [← hw5]
      have hO4 : Onl (ownOf ha) wo wA := ((Onl.refl _ _).alloc _).trans HA2.out (fun _ _ h => h)
      have HB5 : Hid (Blk w5 bt 97 [.slice o1 (k + 1) c1, .slice sa k cs]) := Lib.hid (by rw [hw5]; exact (HB.out.onl hO4 HnB.out).set 0 _)
      have HH5 : Hid (Own w5 bt 3 1 o1 (k + 1) c1 (kcs .i64 (haveN B (k + 1)))) := Lib.hid (by
        have h := HA1.out
        rw [← kcs_append, ← HHn.out] at h
        rw [hw5]
        have hn : ¬ ownOf o1 bt := h.ne_blk (HB.out.onl hO4 HnB.out) (by decide)
        exact h.onl ((Onl.refl (one bt) _).set _ _ (fun _ => rfl)) (fun j hj e => hn (by rw [← show j = bt from e]; exact hj)))
      have HS5 : Hid (Own w5 bt 119 1 sa k cs (kcs .u64 (sumsN B k))) := Lib.hid (by
        rw [hw5]
        have hn : ¬ ownOf sa bt := HS.out.ne_blk HB.out (by decide)
        have h := HS.out.onl hO4 (fun j hj => HS.out.ne_own HH.out (by decide) hj)
        exact h.onl ((Onl.refl (one bt) _).set _ _ (fun _ => rfl)) (fun j hj e => hn (by rw [← show j = bt from e]; exact hj)))
      have HO5 : Hid (Onl non w w5) := Lib.hid (by
        rw [hw5]
        have h := HO.out.trans hO4 (fun j hj hj2 => by have := (HH.out.lt j hj2).1; have := HBt.out; omega)
        exact h.set _ _ (fun hlt => absurd hlt (by have := HBt.out; show ¬ bt < _; omega)))
      have HnS : Hid (¬ ownOf sa bt) := Lib.hid (HS5.out.ne_blk HB5.out (by decide))
      have hb5 : bt < w5.heap.size := HB5.out.lt
      have z1 : w5.drew.cell? ⟨bt, 1, none⟩ = some (.slice sa k cs) := HB5.out.cell' rfl
      clear hcA hfA hw5 hO4 HA1 HA2 HB HH HS HO y0 hcr HOx HNB HnB HB2 hbw
      go_region_law (first
        | (go_simp; go_at_call 125; refine (HSum.out _ (HO5.out.drewN 1)).mono ?_; rintro e wc ⟨rfl, ho⟩; have HOc := Lib.hid ho; have hbc := (HB5.out.drewN 1).onl ho (fun h => h); have z2 := hbc.cell' (i := 1) rfl; have z3 := (hbc.alloc (.cells #[.int .u64 sv] 119)).cell' (i := 1) rfl; clear ho hbc)
        | (refine step_app (by rfl) (.tmp 22) (.tmp 25) 95 (by rfl) bt 119 (.int .u64 0) 1 8 Try.underlying95 info119 rfl (by decide) sa k cs (kcs .u64 (sumsN B k)) (by rfl) (((HS5.out.drewN 1).onl HOc.out (fun _ _ h => h)).alloc _) ⟨wc.heap.size, 0, none⟩ 1 1 (kcs .u64 [sv]) (by rfl) (by rfl) ((Blk.new _ 119 (kcs .u64 [sv])).cells) (kcs_one _ _) (by omega) (by omega) (by have := HOc.out.size; simp at this ⊢; omega) ?_; intro o2 c2 wB hB1 hB2 hB3; have HB1 := Lib.hid hB1; have HB2 := Lib.hid hB2; have hbB := ((((HB5.out.drewN 1).onl HOc.out (fun h => h)).alloc (.cells #[.int .u64 sv] 119))).onl hB2 HnS.out; have hcB := hbB.cell' (i := 1) rfl; have hfB := hbB.free 1; clear hB1 hB2 hB3 hbB))
      all_goals
        have hB0 : Onl (ownOf sa) w5 wB := ((((Onl.refl (ownOf sa) w5).drewN 1).trans HOc.out (fun _ _ h => h.elim)).alloc (.cells #[.int .u64 sv] 119)).trans HB2.out (fun _ _ h => h)
        have HB6 : Hid (Blk (wB.setCell ⟨bt, 1, none⟩ (.slice o2 (k + 1) c2)) bt 97 [.slice o1 (k + 1) c1, .slice o2 (k + 1) c2]) := Lib.hid ((HB5.out.onl hB0 HnS.out).set 1 _)
        have HH6 : Hid (Own (wB.setCell ⟨bt, 1, none⟩ (.slice o2 (k + 1) c2)) bt 3 1 o1 (k + 1) c1 (kcs .i64 (haveN B (k + 1)))) := Lib.hid (by
          have hn : ¬ ownOf o1 bt := HH5.out.ne_blk HB5.out (by decide)
          have h := HH5.out.onl hB0 (fun j hj => HH5.out.ne_own HS5.out (by decide) hj)
          exact h.onl ((Onl.refl (one bt) _).set _ _ (fun _ => rfl)) (fun j hj e => hn (by rw [← show j = bt from e]; exact hj)))
        have HS6 : Hid (Own (wB.setCell ⟨bt, 1, none⟩ (.slice o2 (k + 1) c2)) bt 119 1 o2 (k + 1) c2 (kcs .u64 (sumsN B (k + 1)))) := Lib.hid (by
          have h := HB1.out
          rw [← kcs_append, ← HSn.out] at h
          have hn : ¬ ownOf o2 bt := h.ne_blk (HB5.out.onl hB0 HnS.out) (by decide)
          exact h.onl ((Onl.refl (one bt) _).set _ _ (fun _ => rfl)) (fun j hj e => hn (by rw [← show j = bt from e]; exact hj)))
        have HO6 : Hid (Onl non w (wB.setCell ⟨bt, 1, none⟩ (.slice o2 (k + 1) c2))) := Lib.hid (by
          have h := HO5.out.trans hB0 (fun j hj hj2 => by have := (HS5.out.lt j hj2).1; have := HBt.out; omega)
          exact h.set _ _ (fun hlt => absurd hlt (by have := HBt.out; show ¬ bt < _; omega)))
        clear hB0 HB5 HH5 HS5 HO5 HB1 HB2
        go_wp2_with fail
        go_roundw
        case rel => exact ⟨k + 1, o1, o2, c1, c2, by omega, by go_num, HB6, HH6, HS6, HO6⟩
        case measure => simp [intOf]; omega
    · obtain rfl : k = m := by omega
      have y0 : wo.cell? ⟨bt, 0, none⟩ = some (.slice ha k ch) := HB.out.cell' rfl
      have y1 : wo.cell? ⟨bt, 1, none⟩ = some (.slice sa k cs) := HB.out.cell' rfl
      have f0 := HB.out.free 0
      have f1 := HB.out.free 1
      have hbE : Blk ((wo.setCell ⟨bt, 0, none⟩ (.slice ha k ch)).setCell ⟨bt, 1, none⟩ (.slice sa k cs)) bt 97 [.slice ha k ch, .slice sa k cs] := (HB.out.set 0 _).set 1 _
      have HBE := Lib.hid hbE
      clear hbE
      go_wp2
      refine bodyPost_ret (results_cell_row rfl _ _ bt 97 #[.slice ha k ch, .slice sa k cs] (0, 0) _ rfl HBE.out Try.underlying97 rfl (by kernel_rfl)) rfl ?_
      have hmm := HMm.out
      have hH : Own ((wo.setCell ⟨bt, 0, none⟩ (.slice ha k ch)).setCell ⟨bt, 1, none⟩ (.slice sa k cs)) bt 3 1 ha k ch (kcs .i64 (haveN B k)) := by
        have hn : ¬ ownOf ha bt := HH.out.ne_blk HB.out (by decide)
        exact HH.out.onl (((Onl.refl (one bt) _).set ⟨bt, 0, none⟩ _ (fun _ => rfl)).set ⟨bt, 1, none⟩ _ (fun _ => rfl)) (fun j hj e => hn (by rw [← show j = bt from e]; exact hj))
      have hS : Own ((wo.setCell ⟨bt, 0, none⟩ (.slice ha k ch)).setCell ⟨bt, 1, none⟩ (.slice sa k cs)) bt 119 1 sa k cs (kcs .u64 (sumsN B k)) := by
        have hn : ¬ ownOf sa bt := HS.out.ne_blk HB.out (by decide)
        exact HS.out.onl (((Onl.refl (one bt) _).set ⟨bt, 0, none⟩ _ (fun _ => rfl)).set ⟨bt, 1, none⟩ _ (fun _ => rfl)) (fun j hj e => hn (by rw [← show j = bt from e]; exact hj))
      have hlt : ¬ bt < w.heap.size := by have := HBt.out; omega
      rw [HBt.out] at hH hS
      refine ⟨ha, ch, sa, cs, by rw [← hmm], ?_, ?_, ?_⟩
      · rw [HBt.out, ← hmm]; exact hH
      · rw [HBt.out, ← hmm]; exact hS
      · exact (HO.out.set ⟨bt, 0, none⟩ _ (fun h => absurd h hlt)).set ⟨bt, 1, none⟩ _ (fun h => absurd h hlt)
end Go.Proofs.Ytenngchidlfaeaa
/- What is done with books, told of things apart; the laws' made and equal, walked. -/
namespace Go.Proofs.Ytenngchidlfaeaa
open Go.RowKit
open Rad (Dsk)

section
variable {W w : World} {l1 l2 : List Rs} {g gd : Nat} {D : Dsk} {B : Bk}
theorem Went.moved {F : Nat → Prop} {w' : World} {D' : Dsk} {B' : Bk} (h : Went w F g gd w' D' B') : Moved w F (machR g gd D' B') w' := h
theorem St.take {N : Nat} (h : St W w (l1 ++ machR g gd D B :: l2)) (hf : Fits D N) (hN : N ≤ 30000000) (L : List Ent) (ao : Option Addr) (nl cl : Nat) (hnl : nl = L.length) (hnl2 : nl ≤ 1000000) (hL : RdE w ao L) (hfit : ∀ e ∈ L, e.fit) :
    Calls Try.prog 68 #[.pointer (some ⟨g, 0, none⟩), .slice ao nl cl] w fun e w' => e = .returned (.tuple #[.int .i64 (takeOf L D B).n, .int .i64 (takeOf L D B).e]) ∧ St W w' (l1 ++ machR g gd (takeOf L D B).D (takeOf L D B).B :: l2) :=
  h.call l1 (r' := machR g gd (takeOf L D B).D (takeOf L D B).B) (fun A hA => (Take68 A g gd D B L ao nl cl N w hA hf hN hnl hnl2 hL hfit).mono fun _ _ h => h)
theorem St.badd {N : Nat} (h : St W w (l1 ++ machR g gd D B :: l2)) (hf : Fits D N) (hN : N ≤ 40000000) (o n : Int) (s : ByteArray) (hs : s.size ≤ 9223372036854775807) :
    Calls Try.prog 73 #[.pointer (some ⟨g, 0, none⟩), .agg #[.int .i64 o, .int .i64 n, .string s]] w fun e w' => e = .returned (.int .i64 (addE D B ⟨o, n, s⟩)) ∧ St W w' (l1 ++ machR g gd (addD D B ⟨o, n, s⟩) (addB D B ⟨o, n, s⟩) :: l2) :=
  h.call l1 (r' := machR g gd (addD D B ⟨o, n, s⟩) (addB D B ⟨o, n, s⟩)) (fun A hA => (Add73 A g gd D B o n s N w hA hf hN hs).mono fun _ _ h => h)
theorem St.ball (h : St W w (l1 ++ machR g gd D B :: l2)) : Calls Try.prog 70 #[.pointer (some ⟨g, 0, none⟩)] w fun e w' => ConcatPost B.logs w e w' := by
  obtain ⟨A, hA, _⟩ := h.get
  exact All70 A g gd D B w hA
theorem St.tally (h : St W w (l1 ++ machR g gd D B :: l2)) : Calls Try.prog 72 #[.pointer (some ⟨g, 0, none⟩)] w fun e w' => TallyPost B w e w' := by
  obtain ⟨A, hA, _⟩ := h.get
  exact Tally72 A g gd D B w hA
theorem St.offices (h : St W w (l1 ++ machR g gd D B :: l2)) : Calls Try.prog 121 #[.pointer (some ⟨g, 0, none⟩)] w fun e w' => e = .returned (.int .i64 (B.logs.length : Int)) ∧ w = w' := by
  obtain ⟨A, hA, _⟩ := h.get
  exact Offices121 A g gd D B w hA
theorem St.bounds (h : St W w (l1 ++ machR g gd D B :: l2)) : B.logs.length ≤ 8 ∧ (∀ l ∈ B.logs, l.length ≤ 64) ∧ (∀ l ∈ B.logs, ∀ b ∈ l, b.size ≤ 1024) ∧ B.pos ≤ 4096 := by
  obtain ⟨A, ⟨gl, c, rows, gs, cs, o, cw, _, hb, _⟩, _⟩ := h.get
  exact ⟨hb.in1, hb.in2, hb.in3, hb.in4⟩
theorem ents_inj {p : Nat} : ∀ {l m : List ByteArray} {i : Nat}, ents p i l = ents p i m → l = m
  | [], [], _, _ => rfl
  | [], _ :: _, _, h => by cases h
  | _ :: _, [], _, h => by cases h
  | b :: l, c :: m, i, h => by
    have h' : (⟨(p : Int), (i : Int), b⟩ : Ent) :: ents p (i + 1) l = ⟨(p : Int), (i : Int), c⟩ :: ents p (i + 1) m := h
    injection h' with h1 h2
    injection h1 with _ _ h3
    rw [h3, ents_inj h2]
theorem allOf_inj : ∀ {L M : List (List ByteArray)} {p : Nat}, L.map List.length = M.map List.length → allOf p L = allOf p M → L = M
  | [], [], _, _, _ => rfl
  | [], _ :: _, _, h, _ => by cases h
  | _ :: _, [], _, h, _ => by cases h
  | l :: L, m :: M, p, h, h2 => by
    simp only [List.map_cons, List.cons.injEq] at h
    have h2' : ents p 0 l ++ allOf (p + 1) L = ents p 0 m ++ allOf (p + 1) M := h2
    obtain ⟨h3, h4⟩ := List.append_inj h2' (by rw [ents_length, ents_length, h.1])
    rw [ents_inj h3, allOf_inj h.2 h4]
theorem have_lengths {B B' : Bk} {m n : Nat} (hm : m = B.logs.length) (hn : n = B'.logs.length) (h : haveN B m = haveN B' n) : B.logs.map List.length = B'.logs.map List.length := by
  have hl : m = n := by rw [← haveN_length B m, h, haveN_length]
  subst hl
  apply List.ext_getElem?
  intro i
  by_cases hi : i < m
  · have h1 : (haveN B m)[i]? = (haveN B' m)[i]? := by rw [h]
    unfold haveN at h1
    rw [List.getElem?_map, List.getElem?_map, List.getElem?_range hi] at h1
    simp only [Option.map_some, Option.some.injEq] at h1
    have e1 : B.logs[i]? = some (B.log i) := by unfold Bk.log; rw [List.getD_eq_getElem?_getD, List.getElem?_eq_getElem (by omega)]; rfl
    have e2 : B'.logs[i]? = some (B'.log i) := by unfold Bk.log; rw [List.getD_eq_getElem?_getD, List.getElem?_eq_getElem (by omega)]; rfl
    rw [List.getElem?_map, List.getElem?_map, e1, e2]
    simp only [Option.map_some, Option.some.injEq]
    omega
  · rw [List.getElem?_eq_none (by rw [List.length_map]; omega), List.getElem?_eq_none (by rw [List.length_map]; omega)]
theorem logs_eq {B B' : Bk} (ha : allOf 0 B.logs = allOf 0 B'.logs) (hh : haveN B B.logs.length = haveN B' B'.logs.length) : B.logs = B'.logs := allOf_inj (have_lengths rfl rfl hh) ha
theorem haveN_logs {B B' : Bk} (h : B.logs = B'.logs) (k : Nat) : haveN B k = haveN B' k ∧ sumsN B k = sumsN B' k := by
  unfold haveN sumsN Bk.log; rw [h]; exact ⟨rfl, rfl⟩
set_option maxRecDepth 100000 in
set_option maxHeartbeats 1000000 in
/-- the law's equal, of two books -/
theorem equal69 {m1 m2 : List Rs} {g' gd' : Nat} {D' : Dsk} {B' : Bk} (h : St W w (l1 ++ machR g gd D B :: l2)) (h2 : St W w (m1 ++ machR g' gd' D' B' :: m2)) :
    Calls Try.prog 69 #[.pointer (some ⟨g, 0, none⟩), .pointer (some ⟨g', 0, none⟩)] w fun e w' => e = .returned (.bool (decide (B.logs = B'.logs))) ∧ Onl non w w' := by
  have hb := h.bounds
  have hb' := h2.bounds
  have hal := allOf_length_le B.logs 0 hb.2.1
  have hal' := allOf_length_le B'.logs 0 hb'.2.1
  have H1 := Lib.hid h
  have H2 := Lib.hid h2
  have HA := Lib.hid (fun wx (ho : Onl non w wx) => (h.onl ho).ball)
  have HA' := Lib.hid (fun wx (ho : Onl non w wx) => (h2.onl ho).ball)
  have HT := Lib.hid (fun wx (ho : Onl non w wx) => (h.onl ho).tally)
  have HT' := Lib.hid (fun wx (ho : Onl non w wx) => (h2.onl ho).tally)
  have HO := Lib.hid (fun wx (ho : Onl non w wx) => (h.onl ho).offices)
  have HO' := Lib.hid (fun wx (ho : Onl non w wx) => (h2.onl ho).offices)
  obtain ⟨m, hm⟩ : ∃ m, m = B.logs.length := ⟨_, rfl⟩
  obtain ⟨n, hn⟩ : ∃ n, n = B'.logs.length := ⟨_, rfl⟩
  rw [← hm] at HO
  rw [← hn] at HO'
  have hm8 : m ≤ 8 := by rw [hm]; exact hb.1
  have hn8 : n ≤ 8 := by rw [hn]; exact hb'.1
  have HMm := Lib.hid hm
  have HNn := Lib.hid hn
  obtain ⟨L, hL⟩ : ∃ L, L = allOf 0 B.logs := ⟨_, rfl⟩
  obtain ⟨L', hL'⟩ : ∃ L', L' = allOf 0 B'.logs := ⟨_, rfl⟩
  have HLl : Hid (L.length ≤ 512) := Lib.hid (by rw [hL]; omega)
  have HLl' : Hid (L'.length ≤ 512) := Lib.hid (by rw [hL']; omega)
  have HL := Lib.hid hL
  have HL' := Lib.hid hL'
  clear h h2 hb hb' hal hal' hm hn hL hL'
  go_enter Try.func69, Try.ntmps69
  go_wp2_with fail
  refine (HA.out w (Onl.refl _ _)).mono ?_
  rintro e w1 ⟨o1, c1, rfl, ow1, ho1⟩
  rw [← HL.out] at ow1 ⊢
  obtain ⟨n1, hn1⟩ : ∃ n1, n1 = L.length := ⟨_, rfl⟩
  rw [← hn1] at ow1 ⊢
  have HN1 := Lib.hid hn1
  have HR1 : Hid (RdE w1 o1 L) := Lib.hid (ow1.rdE hn1)
  have HO1 := Lib.hid ho1
  clear ow1 ho1 hn1
  go_wp2_with fail
  refine (HA'.out w1 HO1.out).mono ?_
  rintro e w2 ⟨o2, c2, rfl, ow2, ho2⟩
  rw [← HL'.out] at ow2 ⊢
  obtain ⟨n2, hn2⟩ : ∃ n2, n2 = L'.length := ⟨_, rfl⟩
  rw [← hn2] at ow2 ⊢
  have HN2 := Lib.hid hn2
  have HR2 : Hid (RdE w2 o2 L') := Lib.hid (ow2.rdE hn2)
  have HR1' : Hid (RdE w2 o1 L) := Lib.hid (HR1.out.onl ho2)
  have HO2 := Lib.hid (HO1.out.trans ho2 (fun _ _ h => h))
  clear ow2 ho2 hn2 HR1 HO1
  go_wp2_with fail
  refine (entries42 L L' o1 o2 n1 c1 n2 c2 w2 HN1.out HN2.out (by have := HN1.out; have := HLl.out; omega) (by have := HN2.out; have := HLl'.out; omega) HR1'.out HR2.out).mono ?_
  rintro e w3 ⟨rfl, hd3⟩
  have HO3 := Lib.hid (HO2.out.of_drw hd3)
  clear hd3 HO2 HR1' HR2
  by_cases hll : L = L'
  rotate_left
  · have hr : decide (B.logs = B'.logs) = false := decide_eq_false (fun e => hll (by rw [HL.out, HL'.out, e]))
    have hq : decide (L = L') = false := decide_eq_false hll
    have HR := Lib.hid hr
    clear hr hll
    go_wp2
    go_ret
    exact ⟨by rw [HR.out]; rfl, HO3.out⟩
  have hq : decide (L = L') = true := decide_eq_true hll
  have HLL := Lib.hid hll
  clear hll
  go_wp2_with fail
  refine (HT.out w3 HO3.out).mono ?_
  rintro e w4 ⟨ha, ch, sa, cs, rfl, owh, ows, ho4⟩
  rw [← HMm.out] at owh ows ⊢
  have HH4 : Hid (RdK w4 .i64 ha (haveN B m)) := Lib.hid (owh.rdK (haveN_length B m).symm)
  have HS4 : Hid (RdK w4 .u64 sa (sumsN B m)) := Lib.hid (ows.rdK (sumsN_length B m).symm)
  have HO4 := Lib.hid (HO3.out.trans ho4 (fun _ _ h => h))
  clear owh ows ho4 HO3
  go_wp2_with fail
  refine (HT'.out w4 HO4.out).mono ?_
  rintro e w5 ⟨ha', ch', sa', cs', rfl, owh, ows, ho5⟩
  rw [← HNn.out] at owh ows ⊢
  have HH5 : Hid (RdK w5 .i64 ha' (haveN B' n)) := Lib.hid (owh.rdK (haveN_length B' n).symm)
  have HS5 : Hid (RdK w5 .u64 sa' (sumsN B' n)) := Lib.hid (ows.rdK (sumsN_length B' n).symm)
  have HH4' := Lib.hid (HH4.out.onl ho5)
  have HS4' := Lib.hid (HS4.out.onl ho5)
  have HO5 := Lib.hid (HO4.out.trans ho5 (fun _ _ h => h))
  clear owh ows ho5 HO4 HH4 HS4
  go_wp2_with fail
  refine (tallies120 (haveN B m) (haveN B' n) (sumsN B m) (sumsN B' n) ha ha' sa sa' m ch n ch' m cs n cs' w5 (haveN_length B m).symm (haveN_length B' n).symm (sumsN_length B m).symm (sumsN_length B' n).symm (by omega) (by omega) (by omega) (by omega) HH4'.out HH5.out HS4'.out HS5.out).mono ?_
  rintro e w6 ⟨rfl, ho6⟩
  have HO6 := Lib.hid (HO5.out.trans ho6 (fun _ _ h => h))
  clear ho6 HO5 HH4' HH5 HS4' HS5
  by_cases hh : haveN B m = haveN B' n ∧ sumsN B m = sumsN B' n
  rotate_left
  · have hr : decide (B.logs = B'.logs) = false := decide_eq_false (fun e => hh (by
      have h1 := HMm.out
      have h2 := HNn.out
      have e2 : m = n := by rw [h1, h2, e]
      rw [e2]; exact haveN_logs e n))
    have hq2 : decide (haveN B m = haveN B' n ∧ sumsN B m = sumsN B' n) = false := decide_eq_false hh
    have HR := Lib.hid hr
    rw [hq2]
    clear hr hh hq2
    go_wp2
    go_ret
    exact ⟨by rw [HR.out]; rfl, HO6.out⟩
  have hq2 : decide (haveN B m = haveN B' n ∧ sumsN B m = sumsN B' n) = true := decide_eq_true hh
  have hlg : B.logs = B'.logs := by
    have h1 := HMm.out
    have h2 := HNn.out
    refine logs_eq (by rw [← HL.out, ← HL'.out]; exact HLL.out) ?_
    rw [← h1, ← h2]; exact hh.1
  have hr : decide (B.logs = B'.logs) = true := decide_eq_true hlg
  have hmn : m = n := by rw [HMm.out, HNn.out, hlg]
  subst hmn
  have HR := Lib.hid hr
  rw [hq2]
  clear hr hh hq2 hlg
  go_wp2_with fail
  refine (HO.out w6 HO6.out).mono ?_
  rintro e w' ⟨rfl, rfl⟩
  go_wp2_with fail
  refine (HO'.out w6 HO6.out).mono ?_
  rintro e w' ⟨rfl, rfl⟩
  go_wp2
  go_ret
  exact ⟨by rw [HR.out]; rfl, HO6.out⟩
end
end Go.Proofs.Ytenngchidlfaeaa
/- The laws' made; whether a number of a list is less than zero, walked. -/
namespace Go.Proofs.Ytenngchidlfaeaa
open Go.RowKit
open Rad (Dsk)

def mD (n a : Nat) : Dsk := makeD (newD n) a
def mB (n a : Nat) : Bk := makeB (newD n) a
theorem mD_calm {n a : Nat} (hn : 1 ≤ n) : makeE (newD n) a = 0 ∧ Calm (mD n a) ∧ (mD n a).falls = 0 ∧ (mD n a).safe.length = n := by
  have h := make_calm (D := newD n) ⟨rfl, rfl⟩ (m := a) (by rw [newD_len]; exact hn)
  exact ⟨h.1, h.2.1, h.2.2.1, by show (makeD (newD n) a).safe.length = n; rw [h.2.2.2, newD_len]⟩
theorem mB_eq (n a : Nat) : mB n a = ⟨List.replicate a [], 1, 0⟩ := rfl
theorem mD_fits (n a : Nat) : Fits (mD n a) 5 := (newD_fits n).make a
set_option maxRecDepth 100000 in
theorem made67 {W w : World} {l : List Rs} (h : St W w l) (a n : Nat) (b : Int) (io : Option Addr) (ni ci : Nat) (ha1 : 1 ≤ a) (ha8 : a ≤ 8) (hn1 : 1 ≤ n) (hn2 : n ≤ 4096) :
    Calls Try.prog 67 #[.agg #[.int .i64 (a : Int), .int .i64 b, .slice io ni ci], .int .i64 (n : Int)] w fun e w' => ∃ gd g, e = .returned (.tuple #[.pointer (some ⟨gd, 0, none⟩), .pointer (some ⟨g, 0, none⟩)]) ∧ St W w' (machR g gd (mD n a) (mB n a) :: l) := by
  obtain ⟨w1, hw1⟩ : ∃ w1, w1 = w.alloc (.cells #[.int .i64 (a : Int), .int .i64 b, .slice io ni ci] 85) := ⟨_, rfl⟩
  obtain ⟨bx, hbx⟩ : ∃ bx, bx = w.heap.size := ⟨_, rfl⟩
  have HS1 : Hid (St W w1 (blkR bx 85 [.int .i64 (a : Int), .int .i64 b, .slice io ni ci] :: l)) := Lib.hid (by rw [hw1, hbx]; exact h.newBlk 85 _)
  clear h
  go_enter Try.func67, Try.ntmps67
  go_upto_region 1 with fail
  rw [← hw1, ← hbx]
  clear hw1 hbx
  go_wp2_with fail
  refine (HS1.out.newDisk n hn1 hn2).mono ?_
  rintro e w2 ⟨gd, rfl, hs2⟩
  have HS2 := Lib.hid hs2
  have x0 : w2.cell? ⟨bx, 0, none⟩ = some (.int .i64 (a : Int)) := (hs2.blk (l1 := [_])).cell' rfl
  clear hs2 HS1
  have HMk : Hid (Calls Try.prog 81 #[.pointer (some ⟨gd, 0, none⟩), .int .i64 (a : Int)] w2 fun e w' => ∃ g, e = .returned (.tuple #[.pointer (some ⟨g, 0, none⟩), .int .i64 0]) ∧ St W w' (machR g gd (mD n a) (mB n a) :: l)) := Lib.hid (by
    obtain ⟨h1, F, h2, h3⟩ := HS2.out.drop [_]
    obtain ⟨A, t1, t2, t3⟩ := Sep.take (l1 := []) h2
    refine (Make81_run A gd (newD n) a 0 w2 t1 (newD_fits n) (by omega) ha1 ha8).mono fun e w' hp => ?_
    rcases hp with ⟨hp, _⟩ | ⟨_, g, he, hg, F', m1, m2, m3⟩
    · exact absurd (mD_calm hn1).1 hp
    · refine ⟨g, he, ?_⟩
      obtain ⟨F2, s1, s2, s3⟩ := t3 (r' := machR g gd (mD n a) (mB n a)) ⟨F', m1, m2, m3⟩
      refine ⟨h1.trans s3 (fun k hk hf => absurd hk (Nat.not_lt.2 (h3 k hf))), F2, s1, fun k hk => ?_⟩
      rcases s2 k hk with h | h
      · exact h3 k h
      · exact Nat.le_trans h1.size h)
  clear HS2
  go_wp2_with fail
  refine HMk.out.mono ?_
  rintro e w3 ⟨g, rfl, hs3⟩
  have HS3 := Lib.hid hs3
  clear hs3 x0 HMk
  go_wp2
  go_ret2
  exact ⟨gd, g, rfl, HS3.out⟩
set_option maxRecDepth 100000 in
theorem wantedNeg124 (x : Int) (w : World) : Calls Try.prog 124 #[.int .i64 x] w fun e w' => e = .returned (.bool (decide (x < 0))) ∧ w = w' := by
  go_enter Try.func124, Try.ntmps124
  go_wp2
  go_ret
  exact ⟨rfl, rfl⟩
set_option maxRecDepth 100000 in
theorem index164 (H : List Int) (ao : Option Addr) (n c : Nat) (w : World) (hn : n = H.length) (hn2 : n ≤ 9223372036854775807) (hH : RdK w .i64 ao H) :
    Calls Try.prog 164 #[.slice ao n c, .func (.func 124) #[] #[]] w fun e w' => ∃ i : Int, e = .returned (.int .i64 i) ∧ decide (0 ≤ i) = H.any (fun x => decide (x < 0)) ∧ w = w' := by
  have HH := Lib.hid hH
  have HN := Lib.hid hn
  clear hH hn
  go_enter Try.func164, Try.ntmps164
  go_wp2
  go_loopw [8] (fun x wr => ∃ k : Nat, k ≤ n ∧ x = .int .i64 k ∧ wr = w ∧ Hid (∀ x ∈ H.take k, 0 ≤ x)) (fun x _ => n - (intOf x).toNat)
  case atStart => exact ⟨0, by omega, rfl, rfl, Lib.hid (fun x hx => by cases hx)⟩
  case round =>
    obtain ⟨k, hk, rfl, rfl, HA⟩ := hrel
    by_cases hlt : k < n
    · obtain ⟨x, hx⟩ : ∃ x, H[k]? = some x := ⟨_, List.getElem?_eq_getElem (by have := HN.out; omega)⟩
      obtain ⟨g, off, hao, hc⟩ := HH.out k x hx
      subst hao
      have i0 : (0 : Int) ≤ (k : Int) := by omega
      have i1 : (k : Int) < (n : Int) := by omega
      have HTk : Hid (H.take (k + 1) = H.take k ++ [x]) := Lib.hid (by
        have hkl : k < H.length := (List.getElem?_eq_some_iff.1 hx).1
        rw [List.take_succ_eq_append_getElem hkl]
        rw [List.getElem?_eq_getElem hkl] at hx
        rw [Option.some.inj hx])
      have HMem : Hid (x ∈ H) := Lib.hid (List.mem_of_getElem? hx)
      clear hx
      go_wp2_with fail
      refine (wantedNeg124 x wr).mono ?_
      rintro e w' ⟨rfl, rfl⟩
      by_cases hneg : x < 0
      · have d : decide (x < 0) = true := decide_eq_true hneg
        have HR : Hid (H.any (fun x => decide (x < 0)) = true) := Lib.hid (by rw [List.any_eq_true]; exact ⟨x, HMem.out, d⟩)
        go_wp2
        go_ret
        exact ⟨(k : Int), rfl, by rw [HR.out]; exact decide_eq_true i0, by trivial⟩
      · have d : decide (x < 0) = false := decide_eq_false hneg
        go_wp2
        go_roundw
        case rel =>
          refine ⟨k + 1, by omega, by go_num, by trivial, Lib.hid (fun y hy => ?_)⟩
          rw [HTk.out] at hy
          rcases List.mem_append.1 hy with h | h
          · exact HA.out y h
          · rw [List.mem_singleton.1 h]; omega
        case measure => simp [intOf]; omega
    · have HR : Hid (H.any (fun x => decide (x < 0)) = false) := Lib.hid (by
        have h := HA.out
        rw [List.take_of_length_le (by have := HN.out; omega)] at h
        rw [List.any_eq_false]
        exact fun x hx => by simp; exact h x hx)
      go_wp2
      go_ret
      exact ⟨-1, rfl, by rw [HR.out]; rfl, by trivial⟩
set_option maxRecDepth 100000 in
theorem contains123 (H : List Int) (ao : Option Addr) (n c : Nat) (w : World) (hn : n = H.length) (hn2 : n ≤ 9223372036854775807) (hH : RdK w .i64 ao H) :
    Calls Try.prog 123 #[.slice ao n c, .func (.func 124) #[] #[]] w fun e w' => e = .returned (.bool (H.any (fun x => decide (x < 0)))) ∧ w = w' := by
  have HI := Lib.hid (index164 H ao n c w hn hn2 hH)
  clear hH hn
  go_enter Try.func123, Try.ntmps123
  go_wp2_with fail
  refine HI.out.mono ?_
  rintro e w' ⟨i, rfl, hi, rfl⟩
  go_wp2
  go_ret
  exact ⟨by rw [← hi]; rfl, rfl⟩
end Go.Proofs.Ytenngchidlfaeaa
/- The program's book: Wanted, walked. -/
namespace Go.Proofs.Ytenngchidlfaeaa
open Go.RowKit
open Rad (Dsk)

/-- append of cells that lie somewhere, or of nothing -/
theorem wpList_appAny {P : Program} {w : World} {ops : Array Oper} {rest : List Oper} {o : Oper} {a : Act} {Q : Exit → Act → World → Prop} (hgd : o.guard = none) (s x : Operand) (t : TypeId) (ho : o.op = .call { callee := .builtin .append, args := #[s, x], argTypes := #[t, t] })
    (base : Nat) (e : TypeId) (z : Value) (size bytes : Nat) (ht : P.underlying t = some (.slice e)) (hinfo : (P.info? e).map (fun i => (i.zero, i.size, i.bytes)) = some (some z, size, bytes)) (hzs : z.cells.size = size) (hsz : 0 < size)
    (so : Option Addr) (n sc : Nat) (xs : List Value) (hs : a.eval s = .slice so n sc) (hown : Own w base e size so n sc xs)
    (xo : Option Addr) (m c : Nat) (news : List Value) (hx : a.eval x = .slice xo m c) (hl : news.length = m * size) (hnews : (xo = none ∧ m = 0) ∨ ∃ ad, xo = some ad ∧ ∀ j u, news[j]? = some u → w.cell? (ad.add j) = some u) (h1 : ∀ u ∈ news, u.oneCell' = true)
    (hbound : n + m ≤ 100000000) (hb2 : bytes ≤ 1000) (hbase : base ≤ w.heap.size)
    (h : ∀ o' c' w', Own w' base e size o' (n + m) c' (xs ++ news) → Onl (ownOf so) w w' → (∀ k, ownOf o' k → ownOf so k ∨ w.heap.size ≤ k) → wpList P ops Q rest (a.put o.dst (.slice o' (n + m) c')) w') : wpList P ops Q (o :: rest) a w := by
  have hr : ∃ o' c' w', (Builtin.append_ #[t, t] o.type #[.slice so n sc, .slice xo m c]).run P w = .ok (.slice o' (n + m) c') w' ∧ Own w' base e size o' (n + m) c' (xs ++ news) ∧ Onl (ownOf so) w w' ∧ (∀ k, ownOf o' k → ownOf so k ∨ w.heap.size ≤ k) := by
    rcases hnews with ⟨rfl, rfl⟩ | ⟨ad, rfl, hc⟩
    · have hn : news = [] := List.eq_nil_of_length_eq_zero (by rw [hl]; simp)
      subst hn
      refine ⟨so, sc, w, run_app_nil w base t o.type e z size bytes ht hinfo so n sc xs hown c, ?_, Onl.refl _ _, fun _ h => .inl h⟩
      rw [List.append_nil]; exact hown
    · exact run_app (P := P) w t o.type base e z size bytes ht hinfo hzs hsz so n sc xs hown ad m c news hl hc h1 hbound hb2 hbase
  obtain ⟨o', c', w', hr, h2, h3, h4⟩ := hr
  refine wpList_plain hgd fun K hK => ?_
  unfold Oper.wp execOp
  simp only [ho, resolve, invoke, builtin, Sem.run_bind, Sem.run_pure, Result.andThen_ok, List.map_toArray, List.map_cons, List.map_nil, hs, hx, hr]
  exact hK _ _ (h o' c' w' h2 h3 h4)
/-- the shape of an owned row's address -/
theorem Own.addr {w : World} {B : Nat} {e : TypeId} {size : Nat} {o : Option Addr} {n c : Nat} {xs : List Value} (h : Own w B e size o n c xs) : (o = none ∧ n = 0 ∧ c = 0) ∨ ∃ g ex, o = some ⟨g, 0, none⟩ ∧ n ≤ c ∧ Blk w g e (xs ++ ex) := by
  rcases h.2 with ⟨hv, hn⟩ | ⟨g, cap, cur, hv, hb, hg, h1, h2, h3, h4⟩
  · simp only [Value.slice.injEq] at hv
    obtain ⟨rfl, _, rfl⟩ := hv
    exact .inl ⟨rfl, hn, rfl⟩
  · simp only [Value.slice.injEq] at hv
    obtain ⟨rfl, _, rfl⟩ := hv
    refine .inr ⟨g, cur.toList.drop (n * size), rfl, h1, ?_⟩
    unfold Blk
    rw [← h4, List.take_append_drop]
    simpa using hg
theorem size46e (w : World) : (sizeOf 42).run Try.prog w = .ok 3 w := by kernel_rfl
/-- the first of a row of messages -/
theorem run_slice46_to (w : World) (o : Option Addr) (n c hi : Nat) (ho : o = none ∧ n = 0 ∧ c = 0 ∨ ∃ g, o = some ⟨g, 0, none⟩ ∧ n ≤ c) (h1 : hi ≤ n) :
    (Instr.slice 46 (.slice o n c) none (some (.int .i64 (hi : Int))) none).run Try.prog w = .ok (.slice o hi c) w := by
  rcases ho with ⟨rfl, rfl, rfl⟩ | ⟨g, rfl, h2⟩
  · obtain rfl : hi = 0 := by omega
    simp [Instr.slice, run_underlying Try.underlying46, Instr.sliceBounds, Instr.sliceBound, asIntOf]
  · have e5 : hi ≤ c := by omega
    have e4 : (⟨g, 0, none⟩ : Addr).add 0 = ⟨g, 0, none⟩ := by unfold Addr.add; split <;> simp_all
    have s42 := size46e w
    by_cases hc : c = 0
    · subst hc
      obtain rfl : hi = 0 := by omega
      simp [Instr.slice, run_underlying Try.underlying46, Instr.sliceBounds, Instr.sliceBound, asIntOf, s42]
    · simp [Instr.slice, run_underlying Try.underlying46, Instr.sliceBounds, Instr.sliceBound, asIntOf, e4, e5, hc, s42]
/-- the last of a row of messages -/
theorem run_slice46_from (_w : World) (o : Option Addr) (n c lo : Nat) (ho : o = none ∧ n = 0 ∧ c = 0 ∨ ∃ g, o = some ⟨g, 0, none⟩ ∧ n ≤ c) (h1 : lo ≤ n) :
    ∃ o' c', (∀ wx, (Instr.slice 46 (.slice o n c) (some (.int .i64 (lo : Int))) none none).run Try.prog wx = .ok (.slice o' (n - lo) c') wx) ∧ ((o' = none ∧ n - lo = 0) ∨ ∃ g, o = some ⟨g, 0, none⟩ ∧ o' = some ⟨g, if c = lo then 0 else lo * 3, none⟩) := by
  rcases ho with ⟨rfl, rfl, rfl⟩ | ⟨g, rfl, h2⟩
  · obtain rfl : lo = 0 := by omega
    refine ⟨none, 0, fun wx => ?_, .inl ⟨rfl, by omega⟩⟩
    simp [Instr.slice, run_underlying Try.underlying46, Instr.sliceBounds, Instr.sliceBound, asIntOf]
  · have e5 : lo ≤ c := by omega
    have e4 : (⟨g, 0, none⟩ : Addr).add (lo * 3) = ⟨g, lo * 3, none⟩ := by unfold Addr.add; split <;> simp_all
    refine ⟨_, c - lo, fun wx => ?_, .inr ⟨g, rfl, rfl⟩⟩
    have s42 := size46e wx
    by_cases hc : c = lo
    · simp [Instr.slice, run_underlying Try.underlying46, Instr.sliceBounds, Instr.sliceBound, asIntOf, hc, s42, h1]
    · simp [Instr.slice, run_underlying Try.underlying46, Instr.sliceBounds, Instr.sliceBound, asIntOf, e4, hc, s42, h1]
/-- from where on the messages of a row are wanted -/
noncomputable def fromN (l : List Ent) (h s : Int) : Nat := if (l.length : Int) < h ∨ ((sumE (l.take h.toNat) : Nat) : Int) ≠ s then 0 else h.toNat
noncomputable def wantN (B : Bk) (H S : List Int) (k : Nat) : List Ent := (List.range k).flatMap fun p => (ents p 0 (B.log p)).drop (fromN (ents p 0 (B.log p)) (H.getD p 0) (S.getD p 0))
theorem wantN_succ (B : Bk) (H S : List Int) (k : Nat) : wantN B H S (k + 1) = wantN B H S k ++ (ents k 0 (B.log k)).drop (fromN (ents k 0 (B.log k)) (H.getD k 0) (S.getD k 0)) := by
  unfold wantN; rw [List.range_succ, List.flatMap_append]; simp
theorem wantN_length (B : Bk) (H S : List Int) (hb : ∀ l ∈ B.logs, l.length ≤ 64) : ∀ k, (wantN B H S k).length ≤ 64 * k
  | 0 => Nat.le_refl _
  | k + 1 => by
    have ih := wantN_length B H S hb k
    rw [wantN_succ, List.length_append, List.length_drop, ents_length]
    have : (B.log k).length ≤ 64 := by
      unfold Bk.log
      rw [List.getD_eq_getElem?_getD]
      cases h : B.logs[k]? with
      | none => simp
      | some l => exact hb l (List.mem_of_getElem? h)
    omega
theorem es_drop : ∀ (l : List Ent) (k : Nat), (es l).drop (k * 3) = es (l.drop k)
  | l, 0 => by simp
  | [], k + 1 => by simp [es]
  | e :: l, k + 1 => by
    rw [es_cons, show (k + 1) * 3 = k * 3 + 1 + 1 + 1 from by omega]
    simp only [List.drop_succ_cons]
    exact es_drop l k
theorem es_take : ∀ (l : List Ent) (k : Nat), (es l).take (k * 3) = es (l.take k)
  | l, 0 => by simp [es]
  | [], k + 1 => by simp [es]
  | e :: l, k + 1 => by
    rw [es_cons, show (k + 1) * 3 = k * 3 + 1 + 1 + 1 from by omega]
    simp only [List.take_succ_cons]
    rw [es_take l k]; rfl
theorem RdE.take {w : World} {ao : Option Addr} {L : List Ent} (h : RdE w ao L) (k : Nat) : RdE w ao (L.take k) := fun i e he => by
  have : L[i]? = some e := by
    rw [List.getElem?_take] at he
    split at he
    · exact he
    · cases he
  exact h i e this
def WantedPost (B : Bk) (H S : List Int) (w : World) (e : Ending) (w' : World) : Prop :=
  ∃ o n c, e = .returned (.tuple #[.slice o n c, .int .i64 0]) ∧ n = (wantN B H S B.logs.length).length ∧ Own w' w.heap.size 42 3 o n c (es (wantN B H S B.logs.length)) ∧ Onl non w w'
end Go.Proofs.Ytenngchidlfaeaa
/- The program's book: Wanted, walked. -/
namespace Go.Proofs.Ytenngchidlfaeaa
open Go.RowKit
open Rad (Dsk)

theorem fromN_le (l : List Ent) (h s : Int) : fromN l h s ≤ l.length := by unfold fromN; split <;> omega
set_option maxRecDepth 100000 in
set_option maxHeartbeats 1000000 in
theorem Wanted71_ok (F : Nat → Prop) (g gd : Nat) (D : Dsk) (B : Bk) (H S : List Int) (ha sa : Option Addr) (m ch cs : Nat) (w : World) (h : Mach w F g gd D B) (hm : m = B.logs.length) (hHl : m = H.length) (hSl : m = S.length)
    (hH : RdK w .i64 ha H) (hS : RdK w .u64 sa S) (hneg : H.any (fun x => decide (x < 0)) = false) (hi : ∀ x ∈ H, x ≤ 9223372036854775807) :
    Calls Try.prog 71 #[.pointer (some ⟨g, 0, none⟩), .agg #[.slice ha m ch, .slice sa m cs]] w fun e w' => WantedPost B H S w e w' := by
  obtain ⟨gl, c, rows, gs, cs0, od, cw, _, hb, _⟩ := h
  have HBk := Lib.hid hb
  have hm8 : m ≤ 8 := by rw [hm]; exact hb.in1
  have HMm := Lib.hid hm
  have HHl := Lib.hid hHl
  have HSl := Lib.hid hSl
  have HH := Lib.hid hH
  have HSS := Lib.hid hS
  have HI := Lib.hid hi
  have HPos : Hid (∀ x ∈ H, 0 ≤ x) := Lib.hid (fun x hx => by
    rw [List.any_eq_false] at hneg
    have := hneg x hx
    simp at this; exact this)
  have HCon : Hid (∀ wx, Onl non w wx → Calls Try.prog 123 #[.slice ha m ch, .func (.func 124) #[] #[]] wx fun e w' => e = .returned (.bool false) ∧ wx = w') := Lib.hid (fun wx hx => by
    have h := contains123 H ha m ch wx hHl (by omega) (hH.onl hx)
    rw [hneg] at h; exact h)
  obtain ⟨w1, hw1⟩ : ∃ w1, w1 = w.alloc (.cells #[.slice ha m ch, .slice sa m cs] 97) := ⟨_, rfl⟩
  obtain ⟨bx, hbx⟩ : ∃ bx, bx = w.heap.size := ⟨_, rfl⟩
  have HX : Hid (Blk w1 bx 97 [.slice ha m ch, .slice sa m cs]) := Lib.hid (by rw [hw1, hbx]; exact Blk.new w 97 _)
  have HO : Hid (Onl non w w1) := Lib.hid (by rw [hw1]; exact (Onl.refl _ _).alloc _)
  have HBx : Hid (bx = w.heap.size) := Lib.hid hbx
  have hc0 : w1.cell? ⟨g, 0, none⟩ = some (.slice (some ⟨gl, 0, none⟩) m c) := by rw [hm]; exact (hb.onl HO.out (fun _ _ h => h)).c0
  have x0 : w1.cell? ⟨bx, 0, none⟩ = some (.slice ha m ch) := HX.out.cell' rfl
  have x1 : w1.cell? ⟨bx, 1, none⟩ = some (.slice sa m cs) := HX.out.cell' rfl
  clear hb hm hHl hSl hH hS hneg hi
  go_enter Try.func71, Try.ntmps71
  go_upto_region 1 with fail
  rw [← hw1, ← hbx]
  clear hw1 hbx
  go_quiet ((go_at_call 123; exact qsame (HCon.out _ (HO.out.drewN _))))
  obtain ⟨w2, hw2⟩ : ∃ w2, w2 = w1.drewN nq := ⟨_, rfl⟩
  have HX2 : Hid (Blk w2 bx 97 [.slice ha m ch, .slice sa m cs]) := Lib.hid (by rw [hw2]; exact HX.out.drewN _)
  have HO2 : Hid (Onl non w w2) := Lib.hid (by rw [hw2]; exact HO.out.drewN _)
  have hc0 : w2.cell? ⟨g, 0, none⟩ = some (.slice (some ⟨gl, 0, none⟩) m c) := by rw [hw2]; exact hc0
  try rw [← hw2]
  clear hw2 x0 x1 HX HO
  go_wp2
  clear hc0
  have HW0 : Hid (Own w2 (bx + 1) 42 3 none 0 0 (es (wantN B H S 0))) := Lib.hid (Own.nil _ _ _ _)
  go_loopw [6, 40] (fun x y wr => ∃ (k : Nat) (so : Option Addr) (n cc : Nat), k ≤ m ∧ y = .int .i64 k ∧ x = .slice so n cc ∧ Hid (n = (wantN B H S k).length) ∧ Hid (Own wr (bx + 1) 42 3 so n cc (es (wantN B H S k))) ∧ Hid (Onl non w wr) ∧ Hid (Blk wr bx 97 [.slice ha m ch, .slice sa m cs])) (fun _ y _ => m - (intOf y).toNat)
  case atStart => exact ⟨0, none, 0, 0, by omega, rfl, rfl, Lib.hid rfl, HW0, HO2, HX2⟩
  case round =>
    clear HW0 HO2 HX2
    obtain ⟨wo, rfl⟩ : ∃ wo : World, wo = wr := ⟨_, rfl⟩
    obtain ⟨k, so, n, cc, hk, rfl, rfl, HN, HW, HO, HX⟩ := hrel
    by_cases hlt : k < m
    · have hbk : BkAt wo g gl c gd rows B := HBk.out.onl HO.out (fun _ _ h => h)
      obtain ⟨l, hl⟩ : ∃ l, B.logs[k]? = some l := ⟨_, List.getElem?_eq_getElem (by have := HMm.out; omega)⟩
      obtain ⟨⟨ro, rc⟩, hr⟩ : ∃ r, rows[k]? = some r := ⟨_, List.getElem?_eq_getElem (by rw [hbk.len]; have := HMm.out; omega)⟩
      have hcr := hbk.cr hl hr
      dsimp only at hcr
      obtain ⟨nl, hnl⟩ : ∃ nl, nl = l.length := ⟨_, rfl⟩
      have hnl64 : nl ≤ 64 := by rw [hnl]; exact hbk.in2 l (List.mem_of_getElem? hl)
      have hlog : B.log k = l := log_of hl
      have hrow := HBk.out.row k l _ hl hr
      dsimp only at hrow
      rw [← hnl] at hcr hrow
      have hokl := ents_ok (p := k) (by omega) l 0 (by omega) (fun b hb => hbk.in3 l (List.mem_of_getElem? hl) b hb)
      have haddr : ro = none ∧ nl = 0 ∧ rc = 0 ∨ ∃ g, ro = some ⟨g, 0, none⟩ ∧ nl ≤ rc := by
        rcases hrow.addr with h | ⟨g, ex, h1, h2, _⟩
        · exact .inl h
        · exact .inr ⟨g, h1, h2⟩
      obtain ⟨x, hx⟩ : ∃ x, H[k]? = some x := ⟨_, List.getElem?_eq_getElem (by have := HHl.out; omega)⟩
      obtain ⟨y, hy⟩ : ∃ y, S[k]? = some y := ⟨_, List.getElem?_eq_getElem (by have := HSl.out; omega)⟩
      have hx0 := HPos.out x (List.mem_of_getElem? hx)
      have hx64 := HI.out x (List.mem_of_getElem? hx)
      obtain ⟨q, rfl⟩ : ∃ q : Nat, x = (q : Int) := ⟨x.toNat, by omega⟩
      obtain ⟨E, hE⟩ : ∃ E, E = ents k 0 l := ⟨_, rfl⟩
      have hEl : E.length = nl := by rw [hE, ents_length, hnl]
      obtain ⟨f, hf⟩ : ∃ f, f = fromN E (q : Int) y := ⟨_, rfl⟩
      have hfl : f ≤ nl := by rw [hf, ← hEl]; exact fromN_le _ _ _
      have HWn : Hid (wantN B H S (k + 1) = wantN B H S k ++ E.drop f) := Lib.hid (by
        rw [wantN_succ, hlog, ← hE, hf, List.getD_eq_getElem?_getD, List.getD_eq_getElem?_getD, hx, hy]; rfl)
      obtain ⟨ga, oa, hao, hxa⟩ := HH.out k _ hx
      obtain ⟨gb, ob, hbo, hya⟩ := HSS.out k _ hy
      subst hao
      subst hbo
      obtain ⟨bad, hbad⟩ : ∃ bad, bad = decide ((nl : Int) < (q : Int) ∨ ((sumE (E.take q) : Nat) : Int) ≠ y) := ⟨_, rfl⟩
      have HF : Hid (f = if bad then 0 else q) := Lib.hid (by
        rw [hf, hbad]; unfold fromN
        rw [hEl, Int.toNat_natCast]
        simp only [decide_eq_true_eq])
      have HBad := Lib.hid hbad
      have HSum : Hid (q ≤ nl → ∀ wx, Onl non w wx → Calls Try.prog 125 #[.slice ro q rc] wx fun e w' => e = .returned (.int .u64 ((sumE (E.take q) : Nat) : Int)) ∧ Onl non wx w') := Lib.hid (fun hq wx hx => by
        refine sum125 (E.take q) ro q rc wx (by rw [List.length_take, hEl]; omega) (by omega) ?_ (fun e he => hokl e (by rw [← hE]; exact List.mem_of_mem_take he))
        have hrd : RdE w ro E := by
          refine Own.rdE (n := nl) (c := rc) (B := 0) (e := 42) ?_ hEl.symm
          rw [hE]; exact hrow
        exact (hrd.take q).onl hx)
      have HRow : Hid (Own w 0 42 3 ro nl rc (es E)) := Lib.hid (by rw [hE]; exact hrow)
      have hya' : wo.cell? ⟨gb, ob + k, none⟩ = some (.int .u64 y) := HO.out.cell hya (fun h => h)
      have HYa := Lib.hid hya'
      have hxa' : wo.cell? ⟨ga, oa + k, none⟩ = some (.int .i64 (q : Int)) := HO.out.cell hxa (fun h => h)
      have x0 : wo.cell? ⟨bx, 0, none⟩ = some (.slice (some ⟨ga, oa, none⟩) m ch) := HX.out.cell' rfl
      have i0 : (0 : Int) ≤ (k : Int) := by omega
      have i1 : (k : Int) < (m : Int) := by omega
      have HEl := Lib.hid hEl
      have HAd := Lib.hid haddr
      clear hl hr hnl hlog hrow hokl hx hy hf hE hxa hya hya' hbad hEl hbk haddr
      go_upto_region 8 with fail
      clear hcr hxa' x0
      go_cut [65] (fun t wx => t = .bool bad ∧ Hid (Onl non wo wx))
      case first =>
        have hx1 : ∀ x : Ext non wo, x.val.cell? ⟨bx, 1, none⟩ = some (.slice (some ⟨gb, ob, none⟩) m cs) := fun x => (HX.out.onl x.property (fun h => h)).cell' rfl
        have hy1 : ∀ x : Ext non wo, x.val.cell? ⟨gb, ob + k, none⟩ = some (.int .u64 y) := fun x => x.property.cell HYa.out (fun h => h)
        have hsl := fun wx => run_slice46_to wx ro nl rc q HAd.out
        by_cases hbig : (nl : Int) < (q : Int)
        · have d1 : decide ((nl : Int) < (q : Int)) = true := decide_eq_true hbig
          have hb1 : bad = true := by rw [HBad.out]; exact decide_eq_true (.inl hbig)
          refine wp_region_quiet_class (fun w' => ∃ x : Ext non wo, w' = x.val) (by kernel_rfl) (by kernel_rfl) ⟨⟨wo.drew, (Onl.refl non wo).drew⟩, rfl⟩ ?_
          repeat (go_big_quiet_step (fail))
          refine wpQuiet_nil ?_
          intro wz hw'
          obtain ⟨x, rfl⟩ := hw'
          go_wp2_with fail
          go_meet
          exact ⟨by rw [hb1], Lib.hid x.property⟩
        · have d1 : decide ((nl : Int) < (q : Int)) = false := decide_eq_false hbig
          obtain ⟨sv, hsv⟩ : ∃ sv : Int, sv = ((sumE (E.take q) : Nat) : Int) := ⟨_, rfl⟩
          have hb1 : bad = (sv != y) := by
            rw [HBad.out, ← hsv]
            by_cases e : sv = y
            · rw [int_eq e]; exact decide_eq_false (by intro h; rcases h with h | h <;> omega)
            · rw [int_ne e]; exact decide_eq_true (.inr e)
          have HS2 := HSum.out (by omega)
          rw [← hsv] at HS2
          have HS3 := Lib.hid HS2
          have hsl := fun wx => hsl wx (by omega)
          clear HS2 hsv
          refine wp_region_quiet_class (fun w' => ∃ x : Ext non wo, w' = x.val) (by kernel_rfl) (by kernel_rfl) ⟨⟨wo.drew, (Onl.refl non wo).drew⟩, rfl⟩ ?_
          repeat (go_big_quiet_step ((go_at_call 125; exact qext (HS3.out _ (HO.out.trans (Subtype.property _) (fun _ _ h => h))))))
          refine wpQuiet_nil ?_
          intro wz hw'
          obtain ⟨x, rfl⟩ := hw'
          go_wp2_with fail
          go_meet
          exact ⟨by rw [hb1], Lib.hid x.property⟩
      case rest =>
        obtain ⟨rfl, HOc⟩ := hcut
        go_upto_if 65 with fail
        go_cut [9] (fun t wx => t = .int .i64 (f : Int) ∧ wx = wc)
        case first =>
          cases bad with
          | true =>
            have hf0 : f = 0 := HF.out
            go_wp2
            go_meet
            exact ⟨by rw [hf0]; rfl, rfl⟩
          | false =>
            have hf0 : f = q := HF.out
            go_wp2
            go_meet
            exact ⟨by rw [hf0], rfl⟩
        case rest =>
          obtain ⟨rfl, rfl⟩ := hcut
          obtain ⟨wz, rfl⟩ : ∃ wz : World, wz = wc := ⟨_, rfl⟩
          obtain ⟨o', c', hsl, hadr⟩ := run_slice46_from wz ro nl rc f HAd.out hfl
          have HW5 : Hid (Own wz (bx + 1) 42 3 so n cc (es (wantN B H S k))) := Lib.hid (HW.out.onl HOc.out (fun _ _ h => h))
          have HO5 : Hid (Onl non w wz) := Lib.hid (HO.out.trans HOc.out (fun _ _ h => h))
          have HX5 : Hid (Blk wz bx 97 [.slice (some ⟨ga, oa, none⟩) m ch, .slice (some ⟨gb, ob, none⟩) m cs]) := Lib.hid (HX.out.onl HOc.out (fun h => h))
          have hdl : (E.drop f).length = nl - f := by rw [List.length_drop, HEl.out]
          have HNw : Hid ((o' = none ∧ nl - f = 0) ∨ ∃ ad, o' = some ad ∧ ∀ j u, (es (E.drop f))[j]? = some u → wz.cell? (ad.add j) = some u) := Lib.hid (by
            rcases hadr with h | ⟨gr, h1, h2⟩
            · exact .inl h
            · refine .inr ⟨_, h2, fun j u hu => ?_⟩
              rcases HRow.out.addr with ⟨e1, _⟩ | ⟨gr2, ex, e1, hle, hbl⟩
              · rw [h1] at e1; cases e1
              · rw [h1] at e1
                obtain rfl : gr = gr2 := by simpa using e1
                by_cases hrc : rc = f
                · have hj := (List.getElem?_eq_some_iff.1 hu).1
                  rw [es_length, hdl] at hj
                  omega
                · rw [if_neg hrc, addo]
                  rw [← es_drop, List.getElem?_drop] at hu
                  exact (hbl.onl HO5.out (fun h => h)).cell_pre hu)
          have hnk : n ≤ 64 * k := by rw [HN.out]; exact wantN_length B H S HBk.out.in2 k
          have hbw : bx < wz.heap.size := HX5.out.lt
          have hel : (es (E.drop f)).length = (nl - f) * 3 := by rw [es_length, hdl]
          have HEl2 := Lib.hid hel
          clear hdl hel hadr HW HO HX HOc HF
          go_wp2_with (first | (at_builtin; refine wpList_appAny rfl (.tmp 66) (.tmp 69) 46 rfl (bx + 1) 42 (.agg #[.int .i64 0, .int .i64 0, .string ⟨#[]⟩]) 3 32 Try.underlying46 info42' rfl (by decide) _ _ _ _ rfl HW5.out _ _ _ (es (E.drop f)) rfl HEl2.out HNw.out (es_one _) (by omega) (by omega) (by omega) ?_; intro o1 c1 wA hA1 hA2 hA3; have HA1 := Lib.hid hA1; have HA2 := Lib.hid hA2; clear hA1 hA2 hA3))
          go_roundw
          case rel =>
            refine ⟨k + 1, o1, n + (nl - f), c1, by omega, by go_num, rfl, Lib.hid ?_, Lib.hid ?_, Lib.hid ?_, Lib.hid ?_⟩
            · rw [HWn.out, List.length_append, ← HN.out, List.length_drop, HEl.out]
            · rw [HWn.out, es_append]; exact HA1.out
            · exact HO5.out.trans HA2.out (fun i hi hk => by have := (HW5.out.lt i hk).1; have := HBx.out; omega)
            · exact HX5.out.onl HA2.out (fun hk => by have := (HW5.out.lt _ hk).1; omega)
          case measure => simp [intOf]; omega
    · obtain rfl : k = m := by omega
      have hmm := HMm.out
      have hn := HN.out
      have hw := HW.out
      rw [hmm] at hn hw
      have HNf := Lib.hid hn
      have HWf := Lib.hid hw
      clear hmm hn hw
      go_wp2
      go_ret2
      exact ⟨so, n, cc, rfl, HNf.out, HWf.out.mono (fun j hj => by have := (HWf.out.lt j hj).1; have := HBx.out; omega), HO.out⟩
end Go.Proofs.Ytenngchidlfaeaa
/- Plain: a list taken again changes nothing; what a book wants for its own tally; its own messages added. -/
namespace Go.Proofs.Ytenngchidlfaeaa
open Go.RowKit
open Rad (Dsk)

theorem Fits.takes {l : List Ent} : ∀ (ps : List (Nat × Nat)) {D : Dsk} {B : Bk} {c : Int} {N : Nat}, Fits D N → Fits (takes l D B c ps).D (N + 21 * ps.length)
  | [], _, _, _, _, h => h
  | q :: r, D, B, c, N, h => by
    rw [List.length_cons]
    rw [Go.Proofs.Ytenngchidlfaeaa.takes]
    cases hb : bestOf l q.1 q.2 with
    | none => exact (Fits.takes r h).mono (by omega)
    | some b =>
      have hp := h.put (B := B) (p := q.1) (n := q.2) (b := b) (bestOf_small hb).1
      simp only
      split
      · split
        · exact (Fits.takes r hp).mono (by omega)
        · exact hp.mono (by omega)
      · exact (Fits.takes r h).mono (by omega)
theorem places_length (m : Nat) : (places m).length = 65 * m := by
  unfold places
  induction m with
  | zero => rfl
  | succ m ih => rw [List.range_succ (n := m), List.flatMap_append, List.length_append, ih]; simp; omega
theorem Fits.takeOf {l : List Ent} {D : Dsk} {B : Bk} {N : Nat} (h : Fits D N) (hm : B.logs.length ≤ 8) : Fits (takeOf l D B).D (N + 10920) := by
  unfold Go.Proofs.Ytenngchidlfaeaa.takeOf
  split
  · exact h.mono (by omega)
  · exact (h.takes _).mono (by rw [places_length]; omega)
theorem takes_still {l : List Ent} {D : Dsk} {B : Bk} {c : Int} : ∀ (ps : List (Nat × Nat)), (∀ q ∈ ps, ∀ b, bestOf l q.1 q.2 = some b → B.fresh q.1 q.2 b = false) → takes l D B c ps = ⟨D, B, c, 0⟩
  | [], _ => rfl
  | (p, n) :: r, h => by
    have ih := takes_still (D := D) (B := B) (c := c) r (fun q hq => h q (List.mem_cons_of_mem _ hq))
    cases hb : bestOf l p n with
    | none => rw [takes_none hb, ih]
    | some b => rw [takes_old hb (h (p, n) (by simp) b hb), ih]
/-- behind a list that was taken no place is fresh for it -/
theorem row_after (f : Nat → Option ByteArray) (r : List ByteArray) {n : Nat} {b : ByteArray} (hn : n < 65) (hf : f n = some b) :
    n ≠ (rowTake f r 65).length ∧ (n < (rowTake f r 65).length → blt b ((rowTake f r 65).getD n ⟨#[]⟩) = false) := by
  have hg := rowTake_get f r 65
  have hH : lesser r[n]? (f n) ≠ none := by
    rw [hf]
    cases r[n]? with
    | none => simp [lesser]
    | some a => simp only [lesser]; split <;> simp
  refine ⟨fun e => ?_, fun hl => ?_⟩
  · have hs : Solid (fun m => lesser r[m]? (f m)) n := by
      intro m hm
      by_cases hmn : m = n
      · subst hmn; exact hH
      · have h1 := hg m
        rw [if_pos (by omega), List.getElem?_eq_getElem (by omega)] at h1
        by_cases hs : Solid (fun m => lesser r[m]? (f m)) m
        · exact hs m (Nat.le_refl _)
        · rw [if_neg hs] at h1; cases h1
    have h1 := hg n
    rw [if_pos hn, if_pos hs, List.getElem?_eq_none (by omega)] at h1
    exact hH h1.symm
  · have h1 := hg n
    rw [if_pos hn, List.getElem?_eq_getElem hl] at h1
    by_cases hs : Solid (fun m => lesser r[m]? (f m)) n
    · rw [if_pos hs, hf] at h1
      rw [List.getD_eq_getElem?_getD, List.getElem?_eq_getElem hl]
      simp only [Option.getD_some]
      cases hr : r[n]? with
      | none => rw [hr] at h1; simp only [lesser, Option.some.injEq] at h1; rw [h1]; exact blt_irrefl b
      | some a =>
        rw [hr] at h1
        simp only [lesser] at h1
        split at h1
        · simp only [Option.some.injEq] at h1; rw [h1]; exact blt_irrefl b
        · rename_i hb
          simp only [Option.some.injEq] at h1; rw [h1]; simpa using hb
    · rw [if_neg hs] at h1; cases h1
theorem take_again {l : List Ent} {D : Dsk} {B : Bk} (h : Calm D) (hf : B.falls = D.falls) (hs : B.pos + 17 * l.length ≤ D.safe.length) :
    takeOf l (takeOf l D B).D (takeOf l D B).B = ⟨(takeOf l D B).D, (takeOf l D B).B, 0, 0⟩ := by
  obtain ⟨D', B', c', h1, h2, h3, h4, h5, h6⟩ := take_calm h hf hs
  rw [h1]
  simp only
  unfold takeOf
  rw [if_neg (by rw [h4]; simp)]
  refine takes_still _ (fun q hq b hb => ?_)
  have hq65 : q.2 < 65 ∧ q.1 < B'.logs.length := by
    unfold places at hq
    obtain ⟨p, hp, hq2⟩ := List.mem_flatMap.1 hq
    obtain ⟨n, hn, rfl⟩ := List.mem_map.1 hq2
    exact ⟨List.mem_range.1 hn, List.mem_range.1 hp⟩
  have hl := h5 q.1
  rw [List.getElem?_eq_getElem hq65.2] at hl
  obtain ⟨r, hr, hr2⟩ := Option.map_eq_some_iff.1 hl.symm
  have hlog : B'.log q.1 = rowTake (bestOf l q.1) r 65 := by
    unfold Bk.log; rw [List.getD_eq_getElem?_getD, List.getElem?_eq_getElem hq65.2, ← hr2]; rfl
  have ha := row_after (bestOf l q.1) r hq65.1 hb
  unfold Bk.fresh
  rw [hlog, decide_eq_false ha.1]
  by_cases hlt : q.2 < (rowTake (bestOf l q.1) r 65).length
  · rw [ha.2 hlt]; simp
  · rw [decide_eq_false hlt]; simp
/-- two lists of the same messages give the same book -/
theorem take_same {l k : List Ent} (hs : ∀ e, e ∈ l ↔ e ∈ k) {D D2 : Dsk} {B B2 : Bk} (hB : B.logs = B2.logs) (h : Calm D) (hf : B.falls = D.falls) (hsz : B.pos + 17 * l.length ≤ D.safe.length) (h2 : Calm D2) (hf2 : B2.falls = D2.falls) (hsz2 : B2.pos + 17 * k.length ≤ D2.safe.length) :
    (takeOf l D B).B.logs = (takeOf k D2 B2).B.logs := by
  obtain ⟨D', B', c', h1, _, _, _, h5, _⟩ := take_calm h hf hsz
  obtain ⟨D3, B3, c3, k1, _, _, _, k5, _⟩ := take_calm h2 hf2 hsz2
  rw [h1, k1]
  show B'.logs = B3.logs
  apply List.ext_getElem?
  intro q
  rw [h5 q, k5 q, hB]
  have e : bestOf l q = bestOf k q := funext (fun n => bestOf_same hs q n)
  rw [e]
/-- a book wants nothing for its own tally -/
theorem want_none (B : Bk) (m k : Nat) (hk : k ≤ m) : wantN B (haveN B m) (sumsN B m) k = [] := by
  induction k with
  | zero => rfl
  | succ k ih =>
    rw [wantN_succ, ih (by omega), List.nil_append]
    have e1 : (haveN B m).getD k 0 = (((B.log k).length : Nat) : Int) := by
      unfold haveN; rw [List.getD_eq_getElem?_getD, List.getElem?_map, List.getElem?_range (by omega)]; rfl
    have e2 : (sumsN B m).getD k 0 = ((sumE (ents k 0 (B.log k)) : Nat) : Int) := by
      unfold sumsN; rw [List.getD_eq_getElem?_getD, List.getElem?_map, List.getElem?_range (by omega)]; rfl
    rw [e1, e2]
    have e3 : (B.log k).length = (ents k 0 (B.log k)).length := (ents_length k _ 0).symm
    unfold fromN
    rw [if_neg]
    · rw [Int.toNat_natCast, e3, List.drop_length]
    · rw [Int.toNat_natCast, e3, List.take_length]
      intro h
      rcases h with h | h
      · omega
      · exact h rfl
theorem haveN_nonneg (B : Bk) (m : Nat) : (haveN B m).any (fun x => decide (x < 0)) = false := by
  rw [List.any_eq_false]
  intro x hx
  unfold haveN at hx
  obtain ⟨p, _, rfl⟩ := List.mem_map.1 hx
  simp
theorem haveN_small (B : Bk) (m : Nat) (hb : ∀ l ∈ B.logs, l.length ≤ 64) : ∀ x ∈ haveN B m, x ≤ 9223372036854775807 := by
  intro x hx
  unfold haveN at hx
  obtain ⟨p, _, rfl⟩ := List.mem_map.1 hx
  have : (B.log p).length ≤ 64 := by
    unfold Bk.log
    rw [List.getD_eq_getElem?_getD]
    cases h : B.logs[p]? with
    | none => simp
    | some l => exact hb l (List.mem_of_getElem? h)
  omega
theorem mem_ents {p : Nat} {e : Ent} : ∀ {l : List ByteArray} {i : Nat}, e ∈ ents p i l → ∃ j : Nat, e.o = (p : Int) ∧ e.n = ((i + j : Nat) : Int) ∧ l[j]? = some e.b
  | [], _, h => by cases h
  | b :: r, i, h => by
    rcases List.mem_cons.1 h with rfl | h
    · exact ⟨0, rfl, rfl, rfl⟩
    · obtain ⟨j, h1, h2, h3⟩ := mem_ents h
      exact ⟨j + 1, h1, by rw [h2]; omega, h3⟩
theorem mem_allOf {e : Ent} : ∀ {L : List (List ByteArray)} {p : Nat}, e ∈ allOf p L → ∃ (q j : Nat) (l : List ByteArray), L[q]? = some l ∧ e.o = ((p + q : Nat) : Int) ∧ e.n = (j : Int) ∧ l[j]? = some e.b
  | [], _, h => by cases h
  | l :: r, p, h => by
    have h' : e ∈ ents p 0 l ++ allOf (p + 1) r := h
    rcases List.mem_append.1 h' with h | h
    · obtain ⟨j, h1, h2, h3⟩ := mem_ents h
      exact ⟨0, j, l, rfl, h1, by rw [h2, Nat.zero_add], h3⟩
    · obtain ⟨q, j, m, h1, h2, h3, h4⟩ := mem_allOf h
      exact ⟨q + 1, j, m, h1, by rw [h2]; omega, h3, h4⟩
/-- a message of a book, added again -/
theorem add_own {D : Dsk} {B : Bk} (hf : B.falls = D.falls) (h8 : B.logs.length ≤ 8) (h64 : ∀ l ∈ B.logs, l.length ≤ 64) (hb : ∀ l ∈ B.logs, ∀ b ∈ l, b.size ≤ 1024) {e : Ent} (he : e ∈ allOf 0 B.logs) :
    addE D B e = 0 ∧ addD D B e = D ∧ addB D B e = B := by
  obtain ⟨q, j, l, h1, h2, h3, h4⟩ := mem_allOf he
  rw [Nat.zero_add] at h2
  have hq : q < B.logs.length := (List.getElem?_eq_some_iff.1 h1).1
  have hj : j < l.length := (List.getElem?_eq_some_iff.1 h4).1
  have hl64 := h64 l (List.mem_of_getElem? h1)
  have hbs := hb l (List.mem_of_getElem? h1) e.b (List.mem_of_getElem? h4)
  have hlog : B.log q = l := log_of h1
  have hw : addW D B e = false := by
    unfold addW
    rw [h2, h3, Int.toNat_natCast, Int.toNat_natCast, hlog, decide_eq_false (show ¬ j = l.length by omega)]; simp
  have hok : e.ok = true := decide_eq_true (by rw [h2, h3]; unfold OkE; omega)
  obtain ⟨a1, a2, a3⟩ := add_off hw
  refine ⟨?_, a2, a3⟩
  rw [a1]
  unfold addX
  rw [if_neg (by simp [hf]), hok, h2, h3, Int.toNat_natCast, Int.toNat_natCast, hlog, h4, decide_eq_true hq]
  simp
end Go.Proofs.Ytenngchidlfaeaa
/- Arguments that are worlds and slices of numbers, opened. -/
namespace Go.Proofs.Ytenngchidlfaeaa
open Go.ChangeShapes Go.WideShapes Go.ChangeAt Go.RowKit Go.Deep
section
variable {H : Type} {enc : TypeId × Value → H}
theorem ftys85 : (Try.prog.fieldsOf 85).map (·.type) = #[3, 3, 46] := by kernel_rfl
theorem fone85 : oneCellFields Try.prog (Try.prog.fieldsOf 85) = true := by kernel_rfl
theorem fcel85 : Try.prog.cellsOf 85 = (Try.prog.fieldsOf 85).size := by kernel_rfl
theorem fund85 : Try.prog.underlying 85 = some (.struct (Try.prog.fieldsOf 85)) := by kernel_rfl
set_option maxRecDepth 100000 in
theorem open_world {W : World} {base : Nat} {v : Value} {d : DataW H} {p : List MemPlace} (hv : Value.okWide Try.prog W .any base 85 v) (h : DataW.Trod enc Try.prog W 0 (fun _ => true) true 85 v d p) :
    ∃ (a b : Int) (io : Option Addr) (I : List Ent) (ni ci : Nat), v = .agg #[.int .i64 a, .int .i64 b, .slice io ni ci] ∧ (Lit.int .i64 a).wf = true ∧ (Lit.int .i64 b).wf = true ∧ ni = I.length ∧ ni ≤ maxLen ∧ RdE W io I ∧ ∀ e ∈ I, e.fit := by
  obtain ⟨cs, rfl, hsz⟩ := okWide_struct fund85 hv
  obtain ⟨l⟩ := cs
  obtain ⟨fuel, hf⟩ := h
  obtain ⟨hl, n, hc⟩ := struct_cells fund85 fone85 fcel85 ftys85 hf
  simp only [Value.cells] at hl hc
  match l, hl, hc with
  | [v0, v1, v2], _, hc =>
    obtain ⟨u0, y0, e0, t0⟩ := hc 0 3 rfl
    obtain ⟨u1, y1, e1, t1⟩ := hc 1 3 rfl
    obtain ⟨u2, y2, e2, t2⟩ := hc 2 46 rfl
    obtain ⟨a, rfl, wa⟩ := cell_int t0
    obtain ⟨b, rfl, wb⟩ := cell_int t1
    obtain ⟨io, I, ni, ci, hcs, h1, h2, h3, h4⟩ := open_ents Try.underlying46 fund42 fone42 fcel42 ftys42 t2
    simp at hcs e0 e1 e2
    subst hcs
    exact ⟨a, b, io, I, ni, ci, by rw [e0, e1, e2], wa, wb, h1, h2, h3, h4⟩
set_option maxRecDepth 100000 in
theorem open_nums {W : World} {base : Nat} {v : Value} {d : DataW H} {p : List MemPlace} (hval : Value.okWide Try.prog W .any base 49 v) (h : DataW.Trod enc Try.prog W 0 (fun _ => true) true 49 v d p) :
    ∃ (ao : Option Addr) (A : List Int) (len cap : Nat), v = .slice ao len cap ∧ len = A.length ∧ len ≤ 9223372036854775807 ∧ RdK W .i64 ao A ∧ ∀ x ∈ A, -9223372036854775808 ≤ x ∧ x ≤ 9223372036854775807 := by
  obtain ⟨a1, len, cap, rfl⟩ := okWide_slice Try.underlying49 hval
  obtain ⟨fuel, hf⟩ := h
  rcases open_ints Try.underlying49 Try.underlying3 (by kernel_rfl) hf with ⟨hcs, hx⟩ | ⟨a, len', cap', zs, hcs, _, hl, hm, hz, hx, hcell, hwz⟩
  · simp [Value.cells] at hcs
    obtain ⟨rfl, rfl, rfl⟩ := hcs
    exact ⟨none, [], 0, 0, rfl, rfl, by omega, (by intro k x hx; cases hx), (by intro x hx; cases hx)⟩
  · simp [Value.cells] at hcs
    obtain ⟨rfl, rfl, rfl⟩ := hcs
    simp only [if_true] at hz
    have hln : (zs.take len).length = len := by simp; omega
    refine ⟨some a, zs.take len, len, cap, rfl, hln.symm, Nat.le_trans hl hm, ?_, fun x hx => wf_range (hwz x (List.mem_of_mem_take hx))⟩
    intro k x hk
    have hkl : k < len := by have := (List.getElem?_eq_some_iff.1 hk).1; omega
    have hc := hcell k (by omega)
    obtain ⟨ab, ao, spot⟩ := a
    have hspot : spot = none := by simpa [Addr.add] using World.cell?_spot (hcell 0 (by omega))
    subst hspot
    refine ⟨ab, ao, rfl, ?_⟩
    rw [Addr.add_lit] at hc
    rw [hc]
    rw [List.getElem?_take_of_lt hkl] at hk
    rw [List.getD_eq_getElem?_getD, hk]; rfl
end
end Go.Proofs.Ytenngchidlfaeaa
