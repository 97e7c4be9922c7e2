/- RadioLeast: for all worlds, lists of indices and turns the law returns true, and its arguments read as they did; no condition. -/
import Derived.Test.YtenngchidlfaeaaZAgree
import Derived.Test.YtenngchidlfaeaaB5
import Derived.Test.YtenngchidlfaeaaA9
import Derived.Test.YtenngchidlfaeaaB4
/- The law RadioLeast, walked. -/
namespace Go.Proofs.Ytenngchidlfaeaa
open Go.RowKit
open Rad (Dsk)

theorem run_slice46_one (w : World) (g o n c i : Nat) (h1 : i < n) (h2 : n ≤ c) :
    (Instr.slice 46 (.slice (some ⟨g, o, none⟩) n c) (some (.int .i64 (i : Int))) (some (.int .i64 ((i : Int) + 1))) (some (.int .i64 ((i : Int) + 1)))).run Try.prog w = .ok (.slice (some ⟨g, o + i * 3, none⟩) 1 1) w := by
  have s3 := size46e w
  have e1 : ((i : Int) + 1) = ((i + 1 : Nat) : Int) := by omega
  have e2 : i + 1 ≤ c := by omega
  have e3 : i ≤ i + 1 := by omega
  have e4 : i + 1 - i = 1 := by omega
  have e5 : (⟨g, o, none⟩ : Addr).add (i * 3) = ⟨g, o + i * 3, none⟩ := addo g o (i * 3)
  have e6 : c ≠ i := by omega
  rw [e1]
  simp only [Instr.slice, Instr.sliceBounds, Instr.sliceBound, asIntOf]
  simp [e3, e4, e5]
  rw [if_pos (by omega), if_pos (by omega)]
theorem Fits.addOne {D : Dsk} {B : Bk} {e : Ent} {N : Nat} (h : Fits D N) : Fits (addD D B e) (N + 21) := by
  unfold addD
  split
  · rename_i hw
    unfold addW at hw
    simp only [Bool.and_eq_true, decide_eq_true_eq] at hw
    have hk := of_decide_eq_true (show decide (OkE e.o e.n e.b.size) = true from hw.1.2.1)
    have := (epay_sectors (p := e.o.toNat) (n := e.n.toNat) hk.2.2).1
    exact (h.keep _ _).mono (by omega)
  · exact h.mono (by omega)
theorem RdE.one {w : World} {g o : Nat} {L : List Ent} (h : RdE w (some ⟨g, o, none⟩) L) {i : Nat} {x : Ent} (hx : L[i]? = some x) : RdE w (some ⟨g, o + i * 3, none⟩) [x] := fun k y hy => by
  obtain ⟨rfl⟩ : k = 0 := by have := (List.getElem?_eq_some_iff.1 hy).1; simpa using this
  obtain ⟨g', o', e, h1, h2, h3⟩ := h i x hx
  simp only [List.getElem?_cons_zero, Option.some.injEq] at hy
  subst hy
  obtain ⟨rfl, rfl⟩ : g = g' ∧ o = o' := by simpa using e
  exact ⟨g, o + i * 3, rfl, by simpa using h1, by simpa using h2, by simpa using h3⟩
theorem have_get (B : Bk) {m p : Nat} (hp : p < m) : (haveN B m)[p]? = some (((B.log p).length : Nat) : Int) := by
  unfold haveN
  rw [List.getElem?_map, List.getElem?_range hp]; rfl
theorem field97 (ho sa : Option Addr) (a hc b cs : Nat) (w : World) : (Instr.field 97 (.agg #[.slice ho a hc, .slice sa b cs]) 0).run Try.prog w = .ok (.slice ho a hc) w := by kernel_rfl
set_option maxRecDepth 100000 in
set_option maxHeartbeats 4000000 in
theorem RadioLeast12 (a b : Int) (io : Option Addr) (I : List Ent) (ni ci : Nat) (ao : Option Addr) (A : List Int) (na ca : Nat) (t : Int) (w : World) (hni : ni = I.length) (hni2 : ni ≤ maxLen) (hI : RdE w io I) (hfit : ∀ e ∈ I, e.fit)
    (hna : na = A.length) (hna2 : na ≤ 9223372036854775807) (hA : RdK w .i64 ao A) :
    Calls Try.prog 12 #[.agg #[.int .i64 a, .int .i64 b, .slice io ni ci], .slice ao na ca, .int .u32 t] w fun e w' => e = .returned (.bool true) ∧ Onl non w w' := by
  have hni3 : ni ≤ 9223372036854775807 := by unfold maxLen at hni2; omega
  have HNi := Lib.hid hni
  have HNa := Lib.hid hna
  have HI := Lib.hid hI
  have HFit := Lib.hid hfit
  have HA := Lib.hid hA
  obtain ⟨w1, hw1⟩ : ∃ w1, w1 = w.alloc (.cells #[.int .i64 a, .int .i64 b, .slice io ni ci] 85) := ⟨_, rfl⟩
  obtain ⟨bx, hbx⟩ : ∃ bx, bx = w.heap.size := ⟨_, rfl⟩
  have HS1 : Hid (St w w1 [blkR bx 85 [.int .i64 a, .int .i64 b, .slice io ni ci]]) := Lib.hid (by rw [hw1, hbx]; exact (St.start w).newBlk 85 _)
  clear hni hna hI hfit hA hni2
  go_enter Try.func12, Try.ntmps12
  go_upto_region 1 with fail
  rw [← hw1, ← hbx]
  clear hw1 hbx
  go_wp2_with fail
  refine (sane17 w1).mono ?_
  rintro e w2 ⟨rfl, ho2⟩
  have HS2 := Lib.hid (HS1.out.onl ho2)
  have x0 : w2.cell? ⟨bx, 0, none⟩ = some (.int .i64 a) := (HS2.out.blk (l1 := [])).cell' rfl
  have x1 : w2.cell? ⟨bx, 1, none⟩ = some (.int .i64 b) := (HS2.out.blk (l1 := [])).cell' rfl
  have x2 : w2.cell? ⟨bx, 2, none⟩ = some (.slice io ni ci) := (HS2.out.blk (l1 := [])).cell' rfl
  clear ho2 HS1
  go_wp2_with fail
  refine (few65 a b I io ni ci w2 HNi.out hni3 (HI.out.onl HS2.out.base) HFit.out).mono ?_
  rintro e w3 ⟨rfl, ho3⟩
  have HS3 := Lib.hid (HS2.out.onl ho3)
  clear ho3 HS2 x0 x1 x2
  cases hfew : fewB a b I with
  | false =>
    clear hfew
    go_wp2
    go_ret
    exact ⟨rfl, HS3.out.base⟩
  | true =>
    have hfw := fewB_true hfew
    clear hfew
    by_cases hbig : 30 < na
    · go_wp2
      go_ret
      exact ⟨rfl, HS3.out.base⟩
    obtain ⟨a, rfl⟩ : ∃ a' : Nat, a = (a' : Int) := ⟨a.toNat, by omega⟩
    have ha1 : 1 ≤ a := by omega
    have ha8 : a ≤ 8 := by omega
    clear hfw
    have x0 : w3.cell? ⟨bx, 0, none⟩ = some (.int .i64 (a : Int)) := (HS3.out.blk (l1 := [])).cell' rfl
    have x1 : w3.cell? ⟨bx, 1, none⟩ = some (.int .i64 b) := (HS3.out.blk (l1 := [])).cell' rfl
    have x2 : w3.cell? ⟨bx, 2, none⟩ = some (.slice io ni ci) := (HS3.out.blk (l1 := [])).cell' rfl
    go_wp2_with fail
    refine (made67 HS3.out a 4096 b io ni ci ha1 ha8 (by omega) (by omega)).mono ?_
    rintro e w5 ⟨gd1, g1, rfl, hs⟩
    have HS7 := Lib.hid hs
    clear hs HS3 x0 x1 x2
    have x0 : w5.cell? ⟨bx, 0, none⟩ = some (.int .i64 (a : Int)) := (HS7.out.blk (l1 := [_])).cell' rfl
    have x1 : w5.cell? ⟨bx, 1, none⟩ = some (.int .i64 b) := (HS7.out.blk (l1 := [_])).cell' rfl
    have x2 : w5.cell? ⟨bx, 2, none⟩ = some (.slice io ni ci) := (HS7.out.blk (l1 := [_])).cell' rfl
    go_wp2_with fail
    refine (pick66 a b I io ni ci A ao na ca w5 HNi.out hni3 (HI.out.onl HS7.out.base) HNa.out (by omega) (HA.out.onl HS7.out.base)).mono ?_
    rintro e w6 ⟨og, ng, cg, rfl, hng, hog, ho6⟩
    obtain ⟨G, hG⟩ : ∃ G, G = pickL I A := ⟨_, rfl⟩
    rw [← hG] at hng hog
    have HGf : Hid (∀ e ∈ G, e.fit) := Lib.hid (fun e he => HFit.out e (pickL_mem (by rw [← hG]; exact he)))
    have hng30 : ng ≤ 30 := by have h := pickL_length I A; rw [← hG, ← hng] at h; have := HNa.out; omega
    have HNg := Lib.hid hng
    have HS8 : Hid (St w w6 [machR g1 gd1 (mD 4096 a) (mB 4096 a), ownR 42 3 og ng cg (es G), blkR bx 85 [.int .i64 (a : Int), .int .i64 b, .slice io ni ci]]) := Lib.hid ((HS7.out.addOwn ho6 hog).swap [])
    clear hng hog ho6 hG HS7 x0 x1 x2 hbig
    go_wp2_with fail
    have htl : TallyPost (mB 4096 a) w6 = TallyPost (mB 4096 a) w6 := rfl
    clear htl
    refine (HS8.out.tally (l1 := [])).mono ?_
    rintro e w7 ⟨ho, hc, sa, cs, rfl, ow1, ow2, ho7⟩
    have hlen : (mB 4096 a).logs.length = a := good_made.offs
    rw [hlen] at ow1 ⊢
    have HS9 : Hid (St w w7 [machR g1 gd1 (mD 4096 a) (mB 4096 a), ownR 42 3 none 0 0 [], ownR 3 1 ho a hc (kcs .i64 (haveN (mB 4096 a) a)), ownR 42 3 og ng cg (es G), blkR bx 85 [.int .i64 (a : Int), .int .i64 b, .slice io ni ci]]) :=
      Lib.hid ((((HS8.out.addOwn ho7 ow1).swap []).nil 42 3).swap [])
    clear HS8 ow1 ow2 ho7 hlen
    have hfd := fun wx => field97 ho sa a hc a cs wx
    go_wp2
    clear hfd
    go_loopw [10, 11, 12] (fun x y z wr => ∃ (i : Nat) (D : Dsk) (B : Bk) (so : Option Addr) (n c : Nat) (ho : Option Addr) (hc : Nat) (E : List Ent), i ≤ ng ∧ x = .slice so n c ∧ y = .slice ho a hc ∧ z = .int .i64 i ∧ Hid (n = E.length ∧ n ≤ i) ∧
      Hid (Good D B a i ∧ Holds D B a ∧ Fits D (5 + 10920 * i) ∧ Given G B ∧ ∀ e ∈ E, Has B e) ∧
      Hid (St w wr [machR g1 gd1 D B, ownR 42 3 so n c (es E), ownR 3 1 ho a hc (kcs .i64 (haveN B a)), ownR 42 3 og ng cg (es G), blkR bx 85 [.int .i64 (a : Int), .int .i64 b, .slice io ni ci]])) (fun _ _ z _ => ng - (intOf z).toNat)
    case atStart => exact ⟨0, mD 4096 a, mB 4096 a, none, 0, 0, ho, hc, [], by omega, rfl, rfl, rfl, Lib.hid ⟨rfl, by omega⟩, Lib.hid ⟨good_made, holds_made (by omega) ha1 ha8, mD_fits 4096 a, given_made _ _ _, fun _ h => by cases h⟩, HS9⟩
    case round =>
      clear HS9
      obtain ⟨wo, rfl⟩ : ∃ wo : World, wo = wr := ⟨_, rfl⟩
      obtain ⟨i, D, B, so, n, c, ho, hc, E, hi, rfl, rfl, rfl, HN, HG, HS⟩ := hrel
      by_cases hlt : i < ng
      · have hiG : i < G.length := by have := HNg.out; omega
        obtain ⟨e1, he1⟩ : ∃ e, G[i]? = some e := ⟨_, List.getElem?_eq_getElem hiG⟩
        have hrd := (HS.out.own (l1 := [_, _, _])).rdE HNg.out
        obtain ⟨gg, off, hgo, z0, z1, z2⟩ := hrd i e1 he1
        subst hgo
        have HE1 := Lib.hid he1
        have HOne := Lib.hid (fun wx (ho : Onl non wo wx) => ((hrd.onl ho).one he1))
        have k0 : (0 : Int) ≤ (i : Int) := by omega
        have k1 : (i : Int) < (ng : Int) := by omega
        clear he1 hrd hiG
        go_upto_region 14 with fail
        go_cut [57] (fun t wx => ∃ bq : Bool, t = .bool bq ∧ wo = wx)
        case first =>
          go_wp2
          go_meet
          exact ⟨_, rfl, rfl⟩
        case rest =>
          obtain ⟨bq, rfl, rfl⟩ := hcut
          go_upto_if 57 with fail
          go_cut [10] (fun x wx => ∃ (D' : Dsk) (B' : Bk) (so' : Option Addr) (n' c' : Nat) (E' : List Ent), x = .slice so' n' c' ∧ Hid (n' = E'.length ∧ n' ≤ i + 1) ∧
            Hid ((Good D' B' a (i + 1) ∧ Holds D' B' a ∧ Fits D' (5 + 10920 * (i + 1)) ∧ Given G B' ∧ ∀ e ∈ E', Has B' e) ∧ Lead B B') ∧
            Hid (St w wx [machR g1 gd1 D' B', ownR 42 3 so' n' c' (es E'), ownR 3 1 ho a hc (kcs .i64 (haveN B a)), ownR 42 3 (some ⟨gg, off, none⟩) ng cg (es G), blkR bx 85 [.int .i64 (a : Int), .int .i64 b, .slice io ni ci]]))
          case first =>
            have hmG : e1 ∈ G := List.mem_of_getElem? HE1.out
            have hfx := HGf.out e1 hmG
            cases bq with
            | true =>
              have hga := HG.out.1.add HG.out.2.1 e1 (by omega)
              have hfi : Fits (addD D B e1) (5 + 10920 * (i + 1)) := (HG.out.2.2.1.addOne (B := B) (e := e1)).mono (by omega)
              have hcall := HS.out.badd (l1 := []) HG.out.2.2.1 (by omega) e1.o e1.n e1.b hfx.2.2
              have hgv := hga.2.2.2.1 G HG.out.2.2.2.1 hmG
              obtain ⟨D', hD'⟩ : ∃ D', D' = addD D B e1 := ⟨_, rfl⟩
              obtain ⟨B', hB'⟩ : ∃ B', B' = addB D B e1 := ⟨_, rfl⟩
              obtain ⟨R, hR⟩ : ∃ R, R = addE D B e1 := ⟨_, rfl⟩
              have hcall2 : Calls Try.prog 73 #[.pointer (some ⟨g1, 0, none⟩), .agg #[.int .i64 e1.o, .int .i64 e1.n, .string e1.b]] wo fun e w' => e = .returned (.int .i64 R) ∧ St w w' [machR g1 gd1 D' B', ownR 42 3 so n c (es E), ownR 3 1 ho a hc (kcs .i64 (haveN B a)), ownR 42 3 (some ⟨gg, off, none⟩) ng cg (es G), blkR bx 85 [.int .i64 (a : Int), .int .i64 b, .slice io ni ci]] := by
                rw [hD', hB', hR]; exact hcall
              rw [← hD', ← hB', ← hR] at hga
              rw [← hD'] at hfi
              rw [← hB'] at hgv
              have HGa := Lib.hid hga
              have HFi := Lib.hid hfi
              have HGv := Lib.hid hgv
              clear hga hfi hcall hgv hD' hB' hR hfx
              obtain ⟨o1, n1, s1⟩ := e1
              dsimp only at z0 z1 z2 hcall2
              go_wp2_with fail
              refine hcall2.mono ?_
              rintro e w8 ⟨rfl, hs8⟩
              have HS8 := Lib.hid hs8
              clear hcall2 hs8 z0 z1 z2
              rcases HGa.out.2.2.2.2 with ⟨h0, hok, hlt2, hget⟩ | h92
              · subst h0
                have HH : Hid (∀ e ∈ E ++ [⟨o1, n1, s1⟩], Has B' e) := Lib.hid (fun e he => by
                  rcases List.mem_append.1 he with h | h
                  · exact (HG.out.2.2.2.2 e h).lead HGa.out.2.2.1
                  · rw [List.mem_singleton.1 h]
                    exact ⟨hok, by rw [HGa.out.1.offs]; exact hlt2, _, hget, leB_refl _⟩)
                have hrd := (HS8.out.own (l1 := [_, _, _])).rdE HNg.out
                obtain ⟨gg', off', hgo', z0, z1, z2⟩ := hrd i _ HE1.out
                obtain ⟨rfl, rfl⟩ : gg = gg' ∧ off = off' := by simpa using hgo'
                dsimp only at z0 z1 z2
                have hn30 : n ≤ 30 := by have := HN.out; omega
                have HSa : Hid (St w (w8.alloc (.cells #[.int .i64 o1, .int .i64 n1, .string s1] 42)) [machR g1 gd1 D' B', ownR 42 3 so n c (es E), ownR 3 1 ho a hc (kcs .i64 (haveN B a)), ownR 42 3 (some ⟨gg, off, none⟩) ng cg (es G), blkR bx 85 [.int .i64 (a : Int), .int .i64 b, .slice io ni ci]]) := Lib.hid (HS8.out.alloc _)
                have HNB : Hid (∀ j u, (es [⟨o1, n1, s1⟩])[j]? = some u → (w8.alloc (.cells #[.int .i64 o1, .int .i64 n1, .string s1] 42)).cell? ((⟨w8.heap.size, 0, none⟩ : Addr).add j) = some u) := Lib.hid ((Blk.new w8 42 [.int .i64 o1, .int .i64 n1, .string s1]).cells)
                clear hok hlt2 hget hrd hgo' HS8
                go_wp2_with (first | (at_builtin; refine wpList_app rfl (.tmp 66) (.tmp 71) 46 rfl 0 42 (.agg #[.int .i64 0, .int .i64 0, .string ⟨#[]⟩]) 3 32 Try.underlying46 info42' rfl (by decide) _ _ _ _ rfl (HSa.out.own (l1 := [_])) ⟨w8.heap.size, 0, none⟩ 1 1 (es [⟨o1, n1, s1⟩]) rfl rfl HNB.out (es_one _) (by omega) (by omega) (by omega) ?_; intro p1 c1 wA hA1 hA2 hA3; have HA1 := Lib.hid hA1; have HA2 := Lib.hid hA2; have HA3 := Lib.hid hA3; clear hA1 hA2 hA3))
                go_meet
                refine ⟨D', B', p1, n + 1, c1, E ++ [⟨o1, n1, s1⟩], rfl, Lib.hid ⟨by rw [List.length_append, ← HN.out.1]; rfl, by have := HN.out; omega⟩, Lib.hid ⟨⟨HGa.out.1, HGa.out.2.1, HFi.out, HGv.out, HH.out⟩, HGa.out.2.2.1⟩, Lib.hid ?_⟩
                exact HSa.out.app (l1 := [_]) (by rw [es_append]; exact HA1.out) HA2.out HA3.out
              · subst h92
                have HH : Hid (∀ e ∈ E, Has B' e) := Lib.hid (fun e he => (HG.out.2.2.2.2 e he).lead HGa.out.2.2.1)
                go_wp2
                go_meet
                exact ⟨D', B', so, n, c, E, rfl, Lib.hid ⟨HN.out.1, by have := HN.out; omega⟩, Lib.hid ⟨⟨HGa.out.1, HGa.out.2.1, HFi.out, HGv.out, HH.out⟩, HGa.out.2.2.1⟩, HS8⟩
            | false =>
              have hga := HG.out.1.one HG.out.2.1 e1 (by omega)
              have hcg : ng ≤ cg := by
                obtain ⟨_, _, _, _, _, hcap, _⟩ := (HS.out.own (l1 := [_, _, _])).shape (by omega)
                exact hcap
              have hfi : Fits (takeOf [e1] D B).D (5 + 10920 * (i + 1)) := (HG.out.2.2.1.takeOf (by rw [HG.out.1.offs]; exact ha8)).mono (by omega)
              have hcall := HS.out.take (l1 := []) HG.out.2.2.1 (by omega) [e1] (some ⟨gg, off + i * 3, none⟩) 1 1 rfl (by omega) (HOne.out wo (Onl.refl _ _)) (fun x hx => by rw [List.mem_singleton.1 hx]; exact hfx)
              rw [hga.1] at hcall
              obtain ⟨R, hR⟩ : ∃ R, R = (takeOf [e1] D B).n := ⟨_, rfl⟩
              obtain ⟨D', hD'⟩ : ∃ D', D' = (takeOf [e1] D B).D := ⟨_, rfl⟩
              obtain ⟨B', hB'⟩ : ∃ B', B' = (takeOf [e1] D B).B := ⟨_, rfl⟩
              have hgv := hga.2.2.2.2 G HG.out.2.2.2.1 hmG
              rw [← hD', ← hB', ← hR] at hcall
              rw [← hD', ← hB'] at hga
              rw [← hD'] at hfi
              rw [← hB'] at hgv
              have HGa := Lib.hid hga
              have HFi := Lib.hid hfi
              have HGv := Lib.hid hgv
              have hsl := fun wx => run_slice46_one wx gg off ng cg i hlt hcg
              obtain ⟨k2, hk2⟩ : ∃ k2 : Int, k2 = (i : Int) + 1 := ⟨_, rfl⟩
              rw [← hk2] at hsl
              have q0 : IntKind.i64.wrap ((i : Int) + 1) = k2 := by rw [IntWalk.i64_in _ (by omega)]; exact hk2.symm
              have q1 : wrap64 ((i : Int) + 1) = k2 := by rw [IntWalk.wrap64_in _ (by omega)]; exact hk2.symm
              clear hga hfi hgv hD' hB' hR hfx hk2 z0 z1 z2
              have HH : Hid (∀ e ∈ E, Has B' e) := Lib.hid (fun e he => (HG.out.2.2.2.2 e he).lead HGa.out.2.2.2.1)
              go_wp2_with fail
              refine hcall.mono ?_
              rintro e w8 ⟨rfl, hs8⟩
              have HS8 := Lib.hid hs8
              clear hcall hs8 hsl q0 q1
              go_wp2
              go_meet
              exact ⟨D', B', so, n, c, E, rfl, Lib.hid ⟨HN.out.1, by have := HN.out; omega⟩, Lib.hid ⟨⟨HGa.out.2.1, HGa.out.2.2.1, HFi.out, HGv.out, HH.out⟩, HGa.out.2.2.2.1⟩, HS8⟩
          case rest =>
            obtain ⟨D', B', so', n', c', E', rfl, HN', HG', HS'⟩ := hcut
            have hrk0 : RdK wc .i64 ho (haveN B a) := (HS'.out.own (l1 := [_, _])).rdK (by simp [haveN])
            have HRk0 := Lib.hid hrk0
            have HLe : Hid (∀ p, (B.log p).length ≤ (B'.log p).length) := Lib.hid (fun p => HG'.out.2.len p)
            have HG2 := Lib.hid HG'.out.1
            have hlen : B'.logs.length = a := HG2.out.1.offs
            clear hrk0 HG HS HG' HOne z0 z1 z2 HN
            go_wp2_with fail
            refine (HS'.out.tally (l1 := [])).mono ?_
            rintro e w9 ⟨ho2, hc2, sa2, cs2, rfl, ow1, ow2, ho9⟩
            rw [hlen] at ow1 ⊢
            have HR9 : Hid (RdK w9 .i64 ho2 (haveN B' a)) := Lib.hid (ow1.rdK (by simp [haveN]))
            have HR8 : Hid (RdK w9 .i64 ho (haveN B a)) := Lib.hid (HRk0.out.onl ho9)
            have HS9 : Hid (St w w9 [machR g1 gd1 D' B', ownR 42 3 so' n' c' (es E'), ownR 3 1 ho2 a hc2 (kcs .i64 (haveN B' a)), ownR 42 3 (some ⟨gg, off, none⟩) ng cg (es G), blkR bx 85 [.int .i64 (a : Int), .int .i64 b, .slice io ni ci]]) :=
              Lib.hid ((((HS'.out.addOwn ho9 ow1).swap []).swap [_]).drop [_, _, _])
            have hfd := fun wx => field97 ho2 sa2 a hc2 a cs2 wx
            have x0 : w9.cell? ⟨bx, 0, none⟩ = some (.int .i64 (a : Int)) := (HS9.out.blk (l1 := [_, _, _, _])).cell' rfl
            have hn30 : n' ≤ 1000000 := by have := HN'.out; omega
            have hbt := better76 (l1 := []) HS9.out E' so' n' c' HN'.out.1 hn30 ((HS9.out.own (l1 := [_])).rdE HN'.out.1) (fun e he => (HG2.out.2.2.2.2 e he).any)
            clear ow1 ow2 ho9 hlen HRk0 HS'
            go_wp2_with fail
            refine hbt.mono ?_
            rintro e w10 ⟨rfl, ho10⟩
            have HS10 := Lib.hid (HS9.out.onl ho10)
            have HRa := Lib.hid (HR9.out.onl ho10)
            have HRb := Lib.hid (HR8.out.onl ho10)
            clear hbt hfd x0 ho10 HS9 HR9 HR8
            go_wp2
            go_loopw [17] (fun x wr => ∃ p : Nat, p ≤ a ∧ x = .int .i64 p ∧ Hid (Drw w10 wr)) (fun x _ => a - (intOf x).toNat)
            case atStart => exact ⟨0, by omega, rfl, Lib.hid (Drw.refl _)⟩
            case round =>
              obtain ⟨wo2, rfl⟩ : ∃ wo2 : World, wo2 = wr := ⟨_, rfl⟩
              obtain ⟨p, hp, rfl, HD⟩ := hrel
              have hO : Onl non w10 wo2 := (Onl.refl _ _).of_drw HD.out
              have x0 : wo2.cell? ⟨bx, 0, none⟩ = some (.int .i64 (a : Int)) := ((HS10.out.onl hO).blk (l1 := [_, _, _, _])).cell' rfl
              by_cases hpa : p < a
              · obtain ⟨ga, oa, e1', y0⟩ := (HRa.out.onl hO) p _ (have_get B' hpa)
                obtain ⟨gb, ob, e2', y1⟩ := (HRb.out.onl hO) p _ (have_get B hpa)
                subst e1'
                subst e2'
                have hle := HLe.out p
                have p0 : (0 : Int) ≤ (p : Int) := by omega
                have p1 : (p : Int) < (a : Int) := by omega
                have hd : decide ((((B'.log p).length : Nat) : Int) < (((B.log p).length : Nat) : Int)) = false := decide_eq_false (by omega)
                clear hO
                go_upto_region 29 with fail
                go_quiet (fail)
                go_wp2
                go_roundw
                case rel => exact ⟨p + 1, by omega, by go_num, Lib.hid (HD.out.drewN _)⟩
                case measure => simp [intOf]; omega
              · clear hO
                go_wp2
                go_roundw
                case rel => exact ⟨i + 1, D', B', so', n', c', ho2, hc2, E', by omega, rfl, rfl, by go_num, HN', HG2, Lib.hid (HS10.out.drw HD.out)⟩
                case measure => simp [intOf]; omega
      · have hi30 : i ≤ 30 := by omega
        have HG2 := Lib.hid HG.out
        clear HG HN
        go_wp2_with fail
        refine (HS.out.ball (l1 := [])).mono ?_
        rintro e w9 ⟨o1, c1, rfl, ow1, ho1⟩
        obtain ⟨Al, hAl⟩ : ∃ Al, Al = allOf 0 B.logs := ⟨_, rfl⟩
        rw [← hAl] at ow1 ⊢
        have HMem : Hid (∀ e ∈ Al, e ∈ G) := Lib.hid (fun e he => HG2.out.2.2.2.1.all (by rw [← hAl]; exact he))
        have hal := allOf_length_le B.logs 0 (HS.out.bounds (l1 := [])).2.1
        have hb8 := (HS.out.bounds (l1 := [])).1
        rw [← hAl] at hal
        obtain ⟨m, hm⟩ : ∃ m, m = Al.length := ⟨_, rfl⟩
        rw [← hm] at ow1 hal ⊢
        have hm2 : m ≤ 512 := by omega
        have HM := Lib.hid hm
        have HR1 : Hid (RdE w9 o1 Al) := Lib.hid (ow1.rdE hm)
        have HR2 : Hid (RdE w9 og G) := Lib.hid (((HS.out.own (l1 := [_, _, _])).rdE HNg.out).onl ho1)
        have HS9 := Lib.hid (HS.out.onl ho1)
        clear ow1 ho1 hm hAl hal hb8 HS
        go_wp2
        go_loopw [19] (fun x wr => ∃ q : Nat, q ≤ m ∧ x = .int .i64 q ∧ Hid (Drw w9 wr)) (fun x _ => m - (intOf x).toNat)
        case atStart => exact ⟨0, by omega, rfl, Lib.hid (Drw.refl _)⟩
        case round =>
          obtain ⟨wo2, rfl⟩ : ∃ wo2 : World, wo2 = wr := ⟨_, rfl⟩
          obtain ⟨q, hq, rfl, HD⟩ := hrel
          by_cases hqm : q < m
          · obtain ⟨e2, he2⟩ : ∃ e, Al[q]? = some e := ⟨_, List.getElem?_eq_getElem (by have := HM.out; omega)⟩
            have HIn := Lib.hid (HMem.out e2 (List.mem_of_getElem? he2))
            have HE2 := Lib.hid he2
            clear he2
            go_wp2
            go_loopw [20, 21] (fun f x wr => ∃ k : Nat, k ≤ ng ∧ x = .int .i64 k ∧ f = .bool ((G.take k).any (fun z => decide (z = e2))) ∧ Hid (Drw w9 wr)) (fun _ x _ => ng - (intOf x).toNat)
            case atStart => exact ⟨0, by omega, rfl, rfl, HD⟩
            case round =>
              clear HD
              obtain ⟨wo3, rfl⟩ : ∃ wo3 : World, wo3 = wr := ⟨_, rfl⟩
              obtain ⟨k, hk, rfl, rfl, HD⟩ := hrel
              by_cases hkm : k < ng
              · obtain ⟨x, hx⟩ : ∃ x, G[k]? = some x := ⟨_, List.getElem?_eq_getElem (by have := HNg.out; omega)⟩
                have HO : Onl non w9 wo3 := (Onl.refl _ _).of_drw HD.out
                obtain ⟨g3, p1, h1, x0, x1, x2⟩ := (HR2.out.onl HO) k _ hx
                obtain ⟨g4, p2, h2, y0, y1, y2⟩ := (HR1.out.onl HO) q _ HE2.out
                subst h1
                subst h2
                have k0 : (0 : Int) ≤ (k : Int) := by omega
                have k1 : (k : Int) < (ng : Int) := by omega
                have j0 : (0 : Int) ≤ (q : Int) := by omega
                have j1 : (q : Int) < (m : Int) := by omega
                have HSu := Lib.hid (any_succ (fun z => decide (z = e2)) hx)
                have heq := fun wx => eql42 wx x.o x.n e2.o e2.n x.b e2.b
                have HEq : Hid (eqE x.o x.n x.b e2.o e2.n e2.b = decide (x = e2)) := Lib.hid (by
                  rw [eqE_iff]
                  exact decide_eq_decide.2 ⟨fun ⟨h1, h2, h3⟩ => by cases x; cases e2; simp_all, fun h => by rw [h]; exact ⟨rfl, rfl, rfl⟩⟩)
                obtain ⟨f, hf⟩ : ∃ f, f = (G.take k).any (fun z => decide (z = e2)) := ⟨_, rfl⟩
                rw [← hf] at HSu ⊢
                clear hx HO hf
                cases f with
                | true =>
                  go_upto_region 40 with fail
                  go_quiet (fail)
                  go_wp2
                  go_roundw
                  case rel => exact ⟨k + 1, by omega, by go_num, by rw [HSu.out]; rfl, Lib.hid (HD.out.drewN _)⟩
                  case measure => simp [intOf]; omega
                | false =>
                  go_upto_region 40 with fail
                  go_quiet (fail)
                  go_wp2
                  go_roundw
                  case rel => exact ⟨k + 1, by omega, by go_num, by rw [HSu.out, HEq.out]; rfl, Lib.hid (HD.out.drewN _)⟩
                  case measure => simp [intOf]; omega
              · obtain rfl : k = ng := by omega
                have hany : (G.take k).any (fun z => decide (z = e2)) = true := by
                  rw [HNg.out, List.take_length]
                  exact List.any_eq_true.2 ⟨e2, HIn.out, decide_eq_true rfl⟩
                rw [hany]
                clear hany
                go_wp2
                go_roundw
                case rel => exact ⟨q + 1, by omega, by go_num, HD⟩
                case measure => simp [intOf]; omega
          · have HS10 := Lib.hid (HS9.out.drw HD.out)
            clear HD HS9 HR1 HR2
            obtain ⟨A0, ⟨gl, cl, rows, gs, cs, oo, cw, hd, hbk, _⟩, _⟩ := HS10.out.get (l1 := [])
            have hopen := Open77 gd1 gs cs cw oo D _ wo2 hd HG2.out.2.1.full HG2.out.2.2.1 (by omega) (by rw [HG2.out.1.len]; omega) (by rw [HG2.out.1.len]; omega)
            clear hd hbk
            go_wp2_with fail
            refine hopen.mono ?_
            rintro e w11 ⟨ho11, hp⟩
            rw [if_neg (by rw [HG2.out.1.calm.1]; simp), HG2.out.2.1.open_] at hp
            obtain ⟨g2, A2, rfl, hM⟩ := hp
            have HS11 := Lib.hid (HS10.out.onl ho11)
            obtain ⟨A3, hM3, _⟩ := HS11.out.get (l1 := [])
            have heq := equal69 (l1 := []) (m1 := []) (St.bareM hM3) (St.bareM hM)
            rw [decide_eq_true rfl] at heq
            clear hopen ho11 hM hM3 HS10
            go_wp2_with fail
            refine heq.mono ?_
            rintro e w12 ⟨rfl, ho12⟩
            clear heq
            go_wp2
            go_ret
            exact ⟨rfl, (HS11.out.onl ho12).base⟩
end Go.Proofs.Ytenngchidlfaeaa
/- RadioLeast: for all worlds, lists of indices and turns the law returns true, and its arguments read as they did; no condition. -/
namespace Go.Proofs.Ytenngchidlfaeaa.radioLeast
open Go.ChangeShapes Go.WideShapes Go.ChangeAt Go.RowKit
open Go.ChangeMaps (open_string shut_string)

set_option maxRecDepth 100000 in
theorem lifted (os : Os) (started : os.Started) (H : Type) (enc : TypeId × Value → H) :
    ReturnsInHanded {} Try.checked os 12 .any (Rows.radioLeastSpec.pre6 enc Try.prog Try.f12 Rows.radioLeastRow.domain false) (Rows.radioLeastSpec.post enc Try.prog Try.f12 false true false false) := by
  refine returnsInHanded_of_change (C := Try.checked) own started (by kernel_rfl) Try.func12
    (ChangeSpec.witness6 (enc := enc) (C := Try.checked) false ⟨#[], #[.agg #[.int .i64 0, .int .i64 0, .slice none 0 0], .slice none 0 0, .int .u32 0], []⟩ 8 (by kernel_rfl) (by kernel_rfl) (by kernel_rfl) (by kernel_rfl)) ?_
  intro W base args ds gs before hval0 hW hcnd _
  have hval : ∀ (j : Nat) t v, Try.f12.params[j]? = some t → args[j]? = some v → Value.okWide Try.prog W .any base t v := hval0
  have hW' := hW
  obtain ⟨p, q, hA0, hV, rfl, hfz, hnd⟩ := hW
  have hA : DataW.TrodAll enc Try.prog W 0 (fun _ => true) true Try.f12.params.toList args.toList ds p := hA0
  rw [Try.params12] at hA hval
  obtain ⟨v0, vs0, d0, ds0, p0, q0, hargs, rfl, rfl, h0, r0⟩ := trodAll_cons hA
  obtain ⟨v1, vs1, d1, ds1, p1, q1, rfl, rfl, rfl, h1, r1⟩ := trodAll_cons r0
  obtain ⟨v2, vs2, d2, ds2, p2, q2, rfl, rfl, rfl, h2, r2⟩ := trodAll_cons r1
  obtain ⟨rfl, rfl, rfl⟩ := trodAll_nil r2
  obtain rfl : args = #[v0, v1, v2] := by cases args; simp_all
  obtain ⟨a, b, io, I, ni, ci, rfl, _, _, hni, hni2, hI, hfit⟩ := open_world (hval 0 85 v0 rfl rfl) h0
  obtain ⟨lo, lA, nl, cl, rfl, hnl, hnl2, hlA, _⟩ := open_nums (hval 1 49 v1 rfl rfl) h1
  obtain ⟨t, rfl, _, _, wt⟩ := open_int Try.underlying102 (hval 2 102 v2 rfl rfl) h2
  clear hA0 hval0
  refine (RadioLeast12 a b io I ni ci lo lA nl cl t W hni hni2 hI hfit hnl hnl2 hlA).mono fun x W' ⟨he, hg⟩ => ?_
  subst he
  exact ⟨_, rfl, law_post (by kernel_rfl) (by kernel_rfl) rfl ⟨rfl, rfl, rfl⟩ hW' hg.below⟩

theorem over : Rows.radioLeastRow.holds Try.pinned (OpenSpec.ofChange Rows.radioLeastSpec) :=
  OpenClaim.holds_of_wide 12 Try.f12 rfl rfl rfl rfl rfl rfl rfl ⟨rfl, rfl, rfl, rfl, rfl⟩ rfl rfl rfl rfl rfl (by kernel_rfl) Try.func12 (by kernel_rfl)
    (of_decide_eq_true (by kernel_rfl)) (by unfold Func.isWrapper; first | (rw [if_pos (by decide +kernel)]; kernel_rfl) | (rw [if_neg (by decide +kernel)]; exact ⟨rfl, rfl⟩))
    (fun os started H enc _ => lifted os started H enc)
/-- the statement -/
theorem proved : Rows.RadioLeastSaid := over
#print axioms proved
end Go.Proofs.Ytenngchidlfaeaa.radioLeast
