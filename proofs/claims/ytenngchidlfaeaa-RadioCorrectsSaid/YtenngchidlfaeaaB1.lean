/- B1: texts T34 C16, joined. -/
import Derived.Test.YtenngchidlfaeaaA4
import Derived.Test.YtenngchidlfaeaaA2
import Derived.Test.YtenngchidlfaeaaA9
import Derived.ChangeSlices
/- garbled, walked. -/
namespace Go.Proofs.Ytenngchidlfaeaa
open Go.RowKit

/-- a byte garbled -/
def gar1 (L : List Nat) (p : Nat × Nat) : List Nat := Rad.flip L (p.1 % L.length, p.2)
/-- bytes garbled -/
def garb (L : List Nat) (ps : List (Nat × Nat)) : List Nat := ps.foldl gar1 L
theorem gar1_length (L : List Nat) (p : Nat × Nat) : (gar1 L p).length = L.length := Rad.flip_length _ _
theorem garb_length (ps : List (Nat × Nat)) : ∀ L, (garb L ps).length = L.length := by
  induction ps with
  | nil => intro L; rfl
  | cons p ps ih => intro L; show (garb (gar1 L p) ps).length = _; rw [ih, gar1_length]
theorem garb_bytes (ps : List (Nat × Nat)) (hp : ∀ p ∈ ps, p.2 < 256) : ∀ L, Rad.Bytes L → Rad.Bytes (garb L ps) := by
  induction ps with
  | nil => intro L h; exact h
  | cons p ps ih => intro L h; exact ih (fun q hq => hp q (by simp [hq])) _ (Rad.flip_bytes h (hp p (by simp)))
theorem garb_snoc (L : List Nat) (ps : List (Nat × Nat)) (p : Nat × Nat) : garb L (ps ++ [p]) = gar1 (garb L ps) p := by unfold garb; rw [List.foldl_append]; rfl
theorem garb_nil (ps : List (Nat × Nat)) : garb [] ps = [] := List.eq_nil_of_length_eq_zero (by rw [garb_length]; rfl)
/-- the cells of a list of bytes lie behind an address -/
def RdU (w : World) (ao : Option Addr) (L : List Nat) : Prop := ∀ (k x : Nat), L[k]? = some x → ∃ g off, ao = some ⟨g, off, none⟩ ∧ w.cell? ⟨g, off + k, none⟩ = some (.int .u8 (x : Int))
theorem RdU.onl {w w' : World} {ao : Option Addr} {L : List Nat} (h : RdU w ao L) (ho : Onl non w w') : RdU w' ao L := fun k x hx => by
  obtain ⟨g, off, h1, h2⟩ := h k x hx
  exact ⟨g, off, h1, ho.cell h2 (fun h => h)⟩
def GarPost (s : ByteArray) (ps : List (Nat × Nat)) (w : World) (e : Ending) (w' : World) : Prop :=
  e = .returned (.tuple #[.string (sb (garb (bl s) ps)), .int .i64 (Rad.dist (garb (bl s) ps) (bl s) : Int)]) ∧ Onl non w w'
set_option maxRecDepth 100000 in
set_option maxHeartbeats 1000000 in
theorem garbled44 (s : ByteArray) (A B : List Nat) (ao bo : Option Addr) (na nb ca cb : Nat) (w : World) (hs : s.size ≤ 1000000) (hna : na = A.length) (hnb : nb = B.length) (hna2 : na ≤ 9223372036854775807) (hnb2 : nb ≤ 9223372036854775807) (hA : RdU w ao A) (hB : RdU w bo B) (hA2 : Rad.Bytes A) (hB2 : Rad.Bytes B) :
    Calls Try.prog 44 #[.string s, .slice ao na ca, .slice bo nb cb] w fun e w' => GarPost s (A.zip B) w e w' := by
  obtain ⟨c, o, hcs, hconv, hbm⟩ := bytes_made w s
  obtain ⟨w1, hw1⟩ : ∃ w1, w1 = w.drew.alloc o := ⟨_, rfl⟩
  rw [← hw1] at hconv hbm
  have HO1 : Hid (Onl non w w1) := Lib.hid (by rw [hw1]; exact ((Onl.refl non w).drew).alloc _)
  have HB1 := Lib.hid hbm
  have HNa := Lib.hid hna
  have HNb := Lib.hid hnb
  have HRA := Lib.hid hA
  have HRB := Lib.hid hB
  have HA2 := Lib.hid hA2
  have HB2 := Lib.hid hB2
  have HPs : Hid (∀ p ∈ A.zip B, p.1 < 256 ∧ p.2 < 256) := Lib.hid (fun p hp => by
    obtain ⟨a, b⟩ := p
    exact ⟨hA2 a (List.of_mem_zip hp).1, hB2 b (List.of_mem_zip hp).2⟩)
  clear hw1 hbm hna hnb hA hB hA2 hB2
  have HLz : Hid ((A.zip B).length = min na nb) := Lib.hid (by rw [List.length_zip, HNa.out, HNb.out])
  have HLb : Hid ((bl s).length = s.size) := Lib.hid (bl_length s)
  go_enter Try.func44, Try.ntmps44
  go_wp2
  clear hconv
  go_loopw [9] (fun x wr => ∃ k : Nat, k ≤ na ∧ k ≤ nb ∧ x = .int .i64 k ∧ Hid (BlkM wr w.heap.size 5 (bs (garb (bl s) ((A.zip B).take k) ++ List.replicate (c - s.size) 0))) ∧ Hid (Onl non w wr)) (fun x _ => na - (intOf x).toNat)
  case atStart => exact ⟨0, by omega, by omega, rfl, HB1, HO1⟩
  case round =>
    clear HB1 HO1
    obtain ⟨k, hk, hk2, rfl, HB, HO⟩ := hrel
    by_cases h1 : k < na
    · have d1 : decide ((k : Int) < (na : Int)) = true := decide_eq_true (by omega)
      by_cases h2 : k < nb
      · have d2 : decide ((k : Int) < (nb : Int)) = true := decide_eq_true (by omega)
        obtain ⟨x, hx⟩ : ∃ x, A[k]? = some x := ⟨_, List.getElem?_eq_getElem (by have := HNa.out; omega)⟩
        obtain ⟨y, hy⟩ : ∃ y, B[k]? = some y := ⟨_, List.getElem?_eq_getElem (by have := HNb.out; omega)⟩
        have hzk : (A.zip B)[k]? = some (x, y) := by rw [List.getElem?_zip_eq_some]; exact ⟨hx, hy⟩
        have hxl : x < 256 := HA2.out x (List.mem_of_getElem? hx)
        have hyl : y < 256 := HB2.out y (List.mem_of_getElem? hy)
        have htk : (A.zip B).take (k + 1) = (A.zip B).take k ++ [(x, y)] := by
          have hl : k < (A.zip B).length := (List.getElem?_eq_some_iff.1 hzk).1
          rw [List.take_succ_eq_append_getElem hl]
          rw [List.getElem?_eq_getElem hl] at hzk
          rw [Option.some.inj hzk]
        have HTk := Lib.hid htk
        by_cases h0 : s.size = 0
        · have d0 : ¬ (0 : Int) < (s.size : Int) := by omega
          have H0 := Lib.hid h0
          clear hx hy hzk htk h0
          go_wp2
          go_roundw
          case rel =>
            refine ⟨k + 1, by omega, by omega, by go_num, ?_, HO⟩
            have e : bl s = [] := List.eq_nil_of_length_eq_zero (by rw [HLb.out]; exact H0.out)
            have h := HB.out
            rw [e, garb_nil] at h
            rw [e, garb_nil]
            exact Lib.hid h
          case measure => simp [intOf]; omega
        · have d0 : (0 : Int) < (s.size : Int) := by omega
          obtain ⟨G, hG⟩ : ∃ G, G = garb (bl s) ((A.zip B).take k) := ⟨_, rfl⟩
          have hGl : G.length = s.size := by rw [hG, garb_length, HLb.out]
          have hGb : Rad.Bytes G := by rw [hG]; exact garb_bytes _ (fun p hp => (HPs.out p (List.mem_of_mem_take hp)).2) _ (bl_bytes s)
          rw [← hG] at HB
          obtain ⟨j, hj⟩ : ∃ j, j = x % s.size := ⟨_, rfl⟩
          have hjl : j < s.size := by rw [hj]; exact Nat.mod_lt _ (by omega)
          obtain ⟨z, hz⟩ : ∃ z, z = G.getD j 0 := ⟨_, rfl⟩
          have hzl : z < 256 := by rw [hz]; exact hGb.getD j
          obtain ⟨ga, oa, rfl, hca⟩ := (HRA.out.onl HO.out) k x hx
          obtain ⟨gb, ob, rfl, hcb⟩ := (HRB.out.onl HO.out) k y hy
          have hcx : wr.cell? ⟨w.heap.size, j, none⟩ = some (.int .u8 (z : Int)) := HB.out.cell' (bs_get (by rw [List.getElem?_append_left (by omega), get_getD (by omega), hz]))
          have hfx : wr.frozen? ⟨w.heap.size, j, none⟩ = false := HB.out.free (by rw [bs_length, List.length_append]; omega)
          have hX := bxor8 z y hzl hyl
          have e1 : ((x : Int).tmod (s.size : Int)) = (j : Int) := by rw [hj, Int.tmod_eq_emod_of_nonneg (by omega)]; omega
          have e2 : IntKind.i64.wrap (j : Int) = (j : Int) := IntWalk.i64_in _ (by omega)
          have i0 : (0 : Int) ≤ (k : Int) := by omega
          have i1 : (k : Int) < (na : Int) := by omega
          have i2 : (k : Int) < (nb : Int) := by omega
          have i3 : (0 : Int) ≤ (j : Int) := by omega
          have i4 : (j : Int) < (s.size : Int) := by omega
          have hne0 : ¬ (s.size : Int) = 0 := by omega
          have HG := Lib.hid hG
          have HGl := Lib.hid hGl
          have HJ := Lib.hid hj
          have HZ := Lib.hid hz
          have hwl : w.heap.size < wr.heap.size := HB.out.lt
          clear hx hy hzk htk h0 hG hGl hGb hj hz
          go_wp2
          refine wp_region_qt 17 (by kernel_rfl) (by kernel_rfl) ?_
          simp only [List.take_succ_cons, List.take_zero, List.drop_succ_cons, List.drop_zero]
          repeat (go_big_quiet_step (fail))
          refine wpQuiet_nil ?_
          intro wz hw'
          have hD : Drw wr wz := hw'
          have HBz := Lib.hid (HB.out.drw hD)
          have HOz := Lib.hid (HO.out.of_drw hD)
          clear hw' hD hcx hfx hca hcb HB HO e1 e2 i0 i1 i2 i3 i4 hne0
          have hcx : wz.cell? ⟨w.heap.size, j, none⟩ = some (.int .u8 (z : Int)) := HBz.out.cell' (bs_get (by rw [List.getElem?_append_left (by have := HGl.out; omega), get_getD (by have := HGl.out; omega), HZ.out]))
          have hfx : wz.frozen? ⟨w.heap.size, j, none⟩ = false := HBz.out.free (by rw [bs_length, List.length_append]; have := HGl.out; omega)
          go_wp2
          go_roundw
          case rel =>
            refine ⟨k + 1, by omega, by omega, by go_num, Lib.hid ?_, Lib.hid (HOz.out.set _ _ (fun h => absurd h (by simp)))⟩
            have hb1 := HBz.out.set j (.int .u8 ((z ^^^ y : Nat) : Int))
            rw [bs_set, List.set_append_left _ _ (by have := HGl.out; omega)] at hb1
            have e : garb (bl s) ((A.zip B).take (k + 1)) = G.set j (z ^^^ y) := by
              rw [HTk.out, garb_snoc, ← HG.out]
              show G.set (x % G.length) (G.getD (x % G.length) 0 ^^^ y) = _
              rw [HGl.out, ← HJ.out, ← HZ.out]
            rw [e]; exact hb1
          case measure => simp [intOf]; omega
      · have d2 : decide ((k : Int) < (nb : Int)) = false := decide_eq_false (by omega)
        have hfin : (A.zip B).take k = A.zip B := List.take_of_length_le (by rw [HLz.out]; omega)
        have HF := Lib.hid hfin
        clear hfin
        obtain ⟨G, hG⟩ : ∃ G, G = garb (bl s) (A.zip B) := ⟨_, rfl⟩
        have hGl : G.length = s.size := by rw [hG, garb_length, HLb.out]
        have hGb : Rad.Bytes G := by rw [hG]; exact garb_bytes _ (fun p hp => (HPs.out p hp).2) _ (bl_bytes s)
        rw [HF.out, ← hG] at HB
        have HG := Lib.hid hG
        have HGl := Lib.hid hGl
        have HGb := Lib.hid hGb
        clear hG hGl hGb
        obtain ⟨wo, hwo⟩ : ∃ wo : World, wo = wr := ⟨_, rfl⟩
        subst hwo
        go_wp2
        go_loopw [10, 11] (fun u v wx => ∃ x i : Nat, x ≤ i ∧ i ≤ s.size ∧ u = .int .i64 x ∧ v = .int .i64 i ∧ Hid (x = Rad.dist (G.take i) ((bl s).take i)) ∧ Hid (BlkM wx w.heap.size 5 (bs (G ++ List.replicate (c - s.size) 0))) ∧ Hid (Onl non w wx)) (fun _ v _ => s.size - (intOf v).toNat)
        case atStart => exact ⟨0, 0, by omega, by omega, rfl, rfl, Lib.hid rfl, HB, HO⟩
        case round =>
          clear HB HO
          obtain ⟨x, i, hx, hi, rfl, rfl, HX, HB, HO⟩ := hrel
          by_cases hlt : i < s.size
          · have hS := dist_snoc G (bl s) i (by rw [HGl.out]; exact hlt) (by rw [bl_length]; exact hlt)
            obtain ⟨z, hz⟩ : ∃ z, G[i]? = some z := ⟨_, List.getElem?_eq_getElem (by rw [HGl.out]; exact hlt)⟩
            have hcz : wr.cell? ⟨w.heap.size, i, none⟩ = some (.int .u8 (z : Int)) := HB.out.cell' (bs_get (by rw [List.getElem?_append_left (by rw [HGl.out]; exact hlt)]; exact hz))
            rw [bl_get s i hlt] at hS
            rw [List.getElem?_eq_getElem (by rw [HGl.out]; exact hlt)] at hz
            rw [Option.some.inj hz] at hS
            have i0 : (0 : Int) ≤ (i : Int) := by omega
            have i1 : (i : Int) < (s.size : Int) := by omega
            clear hz
            by_cases he : z = s[i].toNat
            · rw [if_pos he] at hS
              have HS := Lib.hid hS
              have hbb : ((z : Int) != (s[i].toNat : Int)) = false := eq_bne he
              clear hS he
              go_wp2
              go_quiet (fail)
              go_wp2
              go_roundw
              case rel => exact ⟨x, i + 1, by omega, by omega, rfl, by go_num, Lib.hid (by rw [HS.out, HX.out]; rfl), Lib.hid (HB.out.drewN _), Lib.hid (HO.out.drewN _)⟩
              case measure => simp [intOf]; omega
            · rw [if_neg he] at hS
              have HS := Lib.hid hS
              have hbb : ((z : Int) != (s[i].toNat : Int)) = true := ne_bne he
              clear hS he
              go_wp2
              go_quiet (fail)
              go_wp2
              go_roundw
              case rel => exact ⟨x + 1, i + 1, by omega, by omega, by go_num, by go_num, Lib.hid (by rw [HS.out, HX.out]), Lib.hid (HB.out.drewN _), Lib.hid (HO.out.drewN _)⟩
              case measure => simp [intOf]; omega
          · have hin : i = s.size := by omega
            have hfin : x = Rad.dist G (bl s) := by
              rw [HX.out, List.take_of_length_le (by rw [HGl.out]; omega), List.take_of_length_le (by rw [bl_length]; omega)]
            have HFin := Lib.hid hfin
            have hcv : (convert 57 9 (.slice (some ⟨w.heap.size, 0, none⟩) s.size c)).run Try.prog wr = .ok (.string (sb G)) wr := by
              have h := conv_back wr w.heap.size 0 c G HGb.out (by
                intro j hj
                rw [Nat.zero_add]
                refine HB.out.cell' (bs_get ?_)
                rw [List.getElem?_append_left hj]
                exact get_getD hj)
              rw [HGl.out] at h
              exact h
            clear hfin hin
            go_wp2
            go_ret2
            (refine ⟨?_, HO.out⟩; rw [← HG.out, ← HFin.out]; rfl)
    · have d1 : decide ((k : Int) < (na : Int)) = false := decide_eq_false (by omega)
      have hfin : (A.zip B).take k = A.zip B := List.take_of_length_le (by rw [HLz.out]; omega)
      have HF := Lib.hid hfin
      clear hfin
      obtain ⟨G, hG⟩ : ∃ G, G = garb (bl s) (A.zip B) := ⟨_, rfl⟩
      have hGl : G.length = s.size := by rw [hG, garb_length, HLb.out]
      have hGb : Rad.Bytes G := by rw [hG]; exact garb_bytes _ (fun p hp => (HPs.out p hp).2) _ (bl_bytes s)
      rw [HF.out, ← hG] at HB
      have HG := Lib.hid hG
      have HGl := Lib.hid hGl
      have HGb := Lib.hid hGb
      clear hG hGl hGb
      go_wp2
      go_loopw [10, 11] (fun u v wx => ∃ x i : Nat, x ≤ i ∧ i ≤ s.size ∧ u = .int .i64 x ∧ v = .int .i64 i ∧ Hid (x = Rad.dist (G.take i) ((bl s).take i)) ∧ Hid (BlkM wx w.heap.size 5 (bs (G ++ List.replicate (c - s.size) 0))) ∧ Hid (Onl non w wx)) (fun _ v _ => s.size - (intOf v).toNat)
      case atStart => exact ⟨0, 0, by omega, by omega, rfl, rfl, Lib.hid rfl, HB, HO⟩
      case round =>
        clear HB HO
        obtain ⟨x, i, hx, hi, rfl, rfl, HX, HB, HO⟩ := hrel
        by_cases hlt : i < s.size
        · have hS := dist_snoc G (bl s) i (by rw [HGl.out]; exact hlt) (by rw [bl_length]; exact hlt)
          obtain ⟨z, hz⟩ : ∃ z, G[i]? = some z := ⟨_, List.getElem?_eq_getElem (by rw [HGl.out]; exact hlt)⟩
          have hcz : wr.cell? ⟨w.heap.size, i, none⟩ = some (.int .u8 (z : Int)) := HB.out.cell' (bs_get (by rw [List.getElem?_append_left (by rw [HGl.out]; exact hlt)]; exact hz))
          rw [bl_get s i hlt] at hS
          rw [List.getElem?_eq_getElem (by rw [HGl.out]; exact hlt)] at hz
          rw [Option.some.inj hz] at hS
          have i0 : (0 : Int) ≤ (i : Int) := by omega
          have i1 : (i : Int) < (s.size : Int) := by omega
          clear hz
          by_cases he : z = s[i].toNat
          · rw [if_pos he] at hS
            have HS := Lib.hid hS
            have hbb : ((z : Int) != (s[i].toNat : Int)) = false := eq_bne he
            clear hS he
            go_wp2
            go_quiet (fail)
            go_wp2
            go_roundw
            case rel => exact ⟨x, i + 1, by omega, by omega, rfl, by go_num, Lib.hid (by rw [HS.out, HX.out]; rfl), Lib.hid (HB.out.drewN _), Lib.hid (HO.out.drewN _)⟩
            case measure => simp [intOf]; omega
          · rw [if_neg he] at hS
            have HS := Lib.hid hS
            have hbb : ((z : Int) != (s[i].toNat : Int)) = true := ne_bne he
            clear hS he
            go_wp2
            go_quiet (fail)
            go_wp2
            go_roundw
            case rel => exact ⟨x + 1, i + 1, by omega, by omega, by go_num, by go_num, Lib.hid (by rw [HS.out, HX.out]), Lib.hid (HB.out.drewN _), Lib.hid (HO.out.drewN _)⟩
            case measure => simp [intOf]; omega
        · have hin : i = s.size := by omega
          have hfin : x = Rad.dist G (bl s) := by
            rw [HX.out, List.take_of_length_le (by rw [HGl.out]; omega), List.take_of_length_le (by rw [bl_length]; omega)]
          have HFin := Lib.hid hfin
          have hcv : (convert 57 9 (.slice (some ⟨w.heap.size, 0, none⟩) s.size c)).run Try.prog wr = .ok (.string (sb G)) wr := by
            have h := conv_back wr w.heap.size 0 c G HGb.out (by
              intro j hj
              rw [Nat.zero_add]
              refine HB.out.cell' (bs_get ?_)
              rw [List.getElem?_append_left hj]
              exact get_getD hj)
            rw [HGl.out] at h
            exact h
          clear hfin hin
          go_wp2
          go_ret2
          (refine ⟨?_, HO.out⟩; rw [← HG.out, ← HFin.out]; rfl)
end Go.Proofs.Ytenngchidlfaeaa
/- Arguments that are slices of bytes, opened. -/
namespace Go.Proofs.Ytenngchidlfaeaa
open Go.ChangeShapes Go.WideShapes Go.ChangeAt Go.RowKit
section
variable {H : Type} {enc : TypeId × Value → H}
set_option maxRecDepth 100000 in
theorem open_bytes {W : World} {base : Nat} {v : Value} {d : DataW H} {p : List MemPlace} (hval : Value.okWide Try.prog W .any base 57 v) (h : DataW.Trod enc Try.prog W 0 (fun _ => true) true 57 v d p) :
    ∃ (ao : Option Addr) (L : List Nat) (len cap : Nat), v = .slice ao len cap ∧ len = L.length ∧ len ≤ 9223372036854775807 ∧ Rad.Bytes L ∧ RdU W ao L := by
  obtain ⟨a1, len, cap, rfl⟩ := okWide_slice Try.underlying57 hval
  obtain ⟨fuel, hf⟩ := h
  rcases open_ints Try.underlying57 Try.underlying5 (by kernel_rfl) hf with ⟨hcs, hx⟩ | ⟨a, len', cap', zs, hcs, _, hl, hm, hz, hx, hcell, hwz⟩
  · simp [Value.cells] at hcs
    obtain ⟨rfl, rfl, rfl⟩ := hcs
    exact ⟨none, [], 0, 0, rfl, rfl, by omega, (by intro b hb; cases hb), (by intro k x hx; cases hx)⟩
  · simp [Value.cells] at hcs
    obtain ⟨rfl, rfl, rfl⟩ := hcs
    simp only [if_true] at hz
    have hln : ((zs.take len).map Int.toNat).length = len := by simp; omega
    refine ⟨some a, (zs.take len).map Int.toNat, len, cap, rfl, hln.symm, Nat.le_trans hl hm, ?_, ?_⟩
    · intro b hb
      obtain ⟨z, hz1, rfl⟩ := List.mem_map.1 hb
      have := bounds_u8 (hwz z (List.mem_of_mem_take hz1))
      omega
    · intro k x hk
      have hkl : k < len := by have := (List.getElem?_eq_some_iff.1 hk).1; omega
      have hc := hcell k (by omega)
      obtain ⟨ab, ao, spot⟩ := a
      have hspot : spot = none := by simpa [Addr.add] using World.cell?_spot (hcell 0 (by omega))
      subst hspot
      refine ⟨ab, ao, rfl, ?_⟩
      rw [Addr.add_lit] at hc
      rw [hc]
      have e : zs.getD k 0 = zs[k]'(by omega) := by simp [List.getD, List.getElem?_eq_getElem (show k < zs.length by omega)]
      rw [List.getElem?_map, List.getElem?_take_of_lt hkl, List.getElem?_eq_getElem (by omega)] at hk
      have hx := Option.some.inj hk
      have := bounds_u8 (hwz _ (List.getElem_mem (show k < zs.length by omega)))
      rw [e, ← hx]
      congr 2
      omega
end
end Go.Proofs.Ytenngchidlfaeaa
