/- RadioAgree: for all worlds and lists of indices the law returns true, and its arguments read as they did; no condition. -/
import Derived.Test.YtenngchidlfaeaaB4
import Derived.Test.YtenngchidlfaeaaZOnce
import Derived.Test.YtenngchidlfaeaaA9
/- The law RadioAgree, walked. -/
namespace Go.Proofs.Ytenngchidlfaeaa
open Go.RowKit
open Rad (Dsk)

theorem ecs_es (p : Nat) (l : List ByteArray) : ecs p 0 l = es (ents p 0 l) := rfl
theorem fit_of_ok {e : Ent} (h : e.ok = true) : e.fit := by
  have := of_decide_eq_true h
  unfold OkE at this
  refine ⟨?_, ?_, by omega⟩
  · unfold I64; omega
  · unfold I64; omega
theorem Good.mono {D : Dsk} {B : Bk} {a j k : Nat} (h : Good D B a j) (hk : j ≤ k) : Good D B a k :=
  ⟨h.calm, h.len, h.falls, by have := h.pos; omega, by have := h.tot; omega, h.offs⟩
set_option maxRecDepth 100000 in
set_option maxHeartbeats 4000000 in
theorem RadioAgree11 (a b : Int) (io : Option Addr) (I : List Ent) (ni ci : Nat) (ao : Option Addr) (A : List Int) (na ca : Nat) (ko : Option Addr) (K : List Int) (nk ck : Nat) (w : World) (hni : ni = I.length) (hni2 : ni ≤ maxLen) (hI : RdE w io I) (hfit : ∀ e ∈ I, e.fit)
    (hna : na = A.length) (hna2 : na ≤ 9223372036854775807) (hA : RdK w .i64 ao A) (hca : na ≤ ca) (hnk : nk = K.length) (hnk2 : nk ≤ 9223372036854775807) (hK : RdK w .i64 ko K) :
    Calls Try.prog 11 #[.agg #[.int .i64 a, .int .i64 b, .slice io ni ci], .slice ao na ca, .slice ko nk ck] w fun e w' => e = .returned (.bool true) ∧ Onl non w w' := by
  have hni3 : ni ≤ 9223372036854775807 := by unfold maxLen at hni2; omega
  have HNi := Lib.hid hni
  have HNa := Lib.hid hna
  have HNk := Lib.hid hnk
  have HI := Lib.hid hI
  have HFit := Lib.hid hfit
  have HA := Lib.hid hA
  have HK := Lib.hid hK
  have HCa := Lib.hid hca
  obtain ⟨w1, hw1⟩ : ∃ w1, w1 = w.alloc (.cells #[.int .i64 a, .int .i64 b, .slice io ni ci] 85) := ⟨_, rfl⟩
  obtain ⟨bx, hbx⟩ : ∃ bx, bx = w.heap.size := ⟨_, rfl⟩
  have HS1 : Hid (St w w1 [blkR bx 85 [.int .i64 a, .int .i64 b, .slice io ni ci]]) := Lib.hid (by rw [hw1, hbx]; exact (St.start w).newBlk 85 _)
  clear hni hna hI hfit hA hni2 hnk hK hca
  go_enter Try.func11, Try.ntmps11
  go_upto_region 1 with fail
  rw [← hw1, ← hbx]
  clear hw1 hbx
  go_wp2_with fail
  refine (sane17 w1).mono ?_
  rintro e w2 ⟨rfl, ho2⟩
  have HS2 := Lib.hid (HS1.out.onl ho2)
  have x0 : w2.cell? ⟨bx, 0, none⟩ = some (.int .i64 a) := (HS2.out.blk (l1 := [])).cell' rfl
  have x1 : w2.cell? ⟨bx, 1, none⟩ = some (.int .i64 b) := (HS2.out.blk (l1 := [])).cell' rfl
  have x2 : w2.cell? ⟨bx, 2, none⟩ = some (.slice io ni ci) := (HS2.out.blk (l1 := [])).cell' rfl
  clear ho2 HS1
  go_wp2_with fail
  refine (few65 a b I io ni ci w2 HNi.out hni3 (HI.out.onl HS2.out.base) HFit.out).mono ?_
  rintro e w3 ⟨rfl, ho3⟩
  have HS3 := Lib.hid (HS2.out.onl ho3)
  clear ho3 HS2 x0 x1 x2
  cases hfew : fewB a b I with
  | false =>
    clear hfew
    go_wp2
    go_ret
    exact ⟨rfl, HS3.out.base⟩
  | true =>
    have hfw := fewB_true hfew
    clear hfew
    by_cases hbig : 30 < na
    · go_wp2
      go_ret
      exact ⟨rfl, HS3.out.base⟩
    by_cases hbig2 : 30 < nk
    · go_wp2
      go_ret
      exact ⟨rfl, HS3.out.base⟩
    obtain ⟨a, rfl⟩ : ∃ a' : Nat, a = (a' : Int) := ⟨a.toNat, by omega⟩
    have ha1 : 1 ≤ a := by omega
    have ha8 : a ≤ 8 := by omega
    clear hfw
    have x0 : w3.cell? ⟨bx, 0, none⟩ = some (.int .i64 (a : Int)) := (HS3.out.blk (l1 := [])).cell' rfl
    have x1 : w3.cell? ⟨bx, 1, none⟩ = some (.int .i64 b) := (HS3.out.blk (l1 := [])).cell' rfl
    have x2 : w3.cell? ⟨bx, 2, none⟩ = some (.slice io ni ci) := (HS3.out.blk (l1 := [])).cell' rfl
    go_wp2_with fail
    refine (made67 HS3.out a 4096 b io ni ci ha1 ha8 (by omega) (by omega)).mono ?_
    rintro e w5 ⟨gd1, g1, rfl, hs⟩
    have HS7 := Lib.hid hs
    clear hs HS3 x0 x1 x2
    have x0 : w5.cell? ⟨bx, 0, none⟩ = some (.int .i64 (a : Int)) := (HS7.out.blk (l1 := [_])).cell' rfl
    have x1 : w5.cell? ⟨bx, 1, none⟩ = some (.int .i64 b) := (HS7.out.blk (l1 := [_])).cell' rfl
    have x2 : w5.cell? ⟨bx, 2, none⟩ = some (.slice io ni ci) := (HS7.out.blk (l1 := [_])).cell' rfl
    go_wp2_with fail
    refine (made67 HS7.out a 4096 b io ni ci ha1 ha8 (by omega) (by omega)).mono ?_
    rintro e w6 ⟨gd2, g2, rfl, hs⟩
    have HS8 := Lib.hid hs
    clear hs HS7 x0 x1 x2
    have hna30 : na ≤ 30 := by omega
    have hnk30 : nk ≤ 30 := by omega
    clear hbig hbig2
    go_wp2
    go_loopw [11] (fun x wr => ∃ (k : Nat) (D : Dsk) (B : Bk), k ≤ na ∧ x = .int .i64 k ∧ Hid (Good D B a k ∧ Fits D (5 + 10920 * k)) ∧ Hid (St w wr [machR g2 gd2 (mD 4096 a) (mB 4096 a), machR g1 gd1 D B, blkR bx 85 [.int .i64 (a : Int), .int .i64 b, .slice io ni ci]])) (fun x _ => na - (intOf x).toNat)
    case atStart => exact ⟨0, mD 4096 a, mB 4096 a, by omega, rfl, Lib.hid ⟨good_made, mD_fits 4096 a⟩, HS8⟩
    case round =>
      clear HS8
      obtain ⟨wo, rfl⟩ : ∃ wo : World, wo = wr := ⟨_, rfl⟩
      obtain ⟨k, D, B, hk, rfl, HG, HS⟩ := hrel
      by_cases hlt : k < na
      · obtain ⟨x, hx⟩ : ∃ x, A[k]? = some x := ⟨_, List.getElem?_eq_getElem (by have := HNa.out; omega)⟩
        obtain ⟨ga, oa, hao, _⟩ := HA.out k x hx
        subst hao
        have HOne : Hid (RdK w .i64 (some ⟨ga, oa + k, none⟩) [x]) := Lib.hid (HA.out.one hx)
        obtain ⟨L1, hL1⟩ : ∃ L1, L1 = pickL I [x] := ⟨_, rfl⟩
        have hL1l : L1.length ≤ 1 := by rw [hL1]; exact pickL_length I [x]
        have HL1f : Hid (∀ e ∈ L1, e.fit) := Lib.hid (fun e he => HFit.out e (pickL_mem (by rw [← hL1]; exact he)))
        obtain ⟨D', B', n', ht, hg', _⟩ := HG.out.1.take L1 (by omega)
        have hfi : Fits D' (5 + 10920 * (k + 1)) := by
          have h := HG.out.2.takeOf (l := L1) (B := B) (by rw [HG.out.1.offs]; exact ha8)
          rw [ht] at h; exact h.mono (by omega)
        have HG' : Hid (Good D' B' a (k + 1) ∧ Fits D' (5 + 10920 * (k + 1))) := Lib.hid ⟨hg'.mono (by omega), hfi⟩
        obtain ⟨k1, hk1⟩ : ∃ k1, k1 = k + 1 := ⟨_, rfl⟩
        have hca2 := HCa.out
        have q0 : IntKind.i64.wrap ((k : Int) + 1) = (k1 : Int) := by rw [IntWalk.i64_in _ (by omega)]; omega
        have q1 : (k1 : Int) ≤ (ca : Int) := by omega
        have q2 : k1 - k = 1 := by omega
        have q3 : ¬ k1 = k := by omega
        have q4 : k ≤ k1 := by omega
        have q5 : k1 ≤ ca := by omega
        have HK1 := Lib.hid hk1
        clear hk1 hca2
        have HPick := fun wx (hwx : St w wx [machR g2 gd2 (mD 4096 a) (mB 4096 a), machR g1 gd1 D B, blkR bx 85 [.int .i64 (a : Int), .int .i64 b, .slice io ni ci]]) => pick66 (a : Int) b I io ni ci [x] (some ⟨ga, oa + k, none⟩) 1 1 wx HNi.out hni3 (HI.out.onl hwx.base) rfl (by omega) (HOne.out.onl hwx.base)
        rw [← hL1] at HPick
        have HTake := fun wx (hwx : St w wx [machR g2 gd2 (mD 4096 a) (mB 4096 a), machR g1 gd1 D B, blkR bx 85 [.int .i64 (a : Int), .int .i64 b, .slice io ni ci]]) o c (hr : RdE wx o L1) => St.take (l1 := [_]) hwx HG.out.2 (by omega) L1 o L1.length c rfl (by omega) hr HL1f.out
        rw [ht] at HTake
        have HPick2 := Lib.hid HPick
        have HTake2 := Lib.hid HTake
        have hsq : St w wo.drew [machR g2 gd2 (mD 4096 a) (mB 4096 a), machR g1 gd1 D B, blkR bx 85 [.int .i64 (a : Int), .int .i64 b, .slice io ni ci]] := HS.out.drewN 1
        have z0 : wo.drew.cell? ⟨bx, 0, none⟩ = some (.int .i64 (a : Int)) := (hsq.blk (l1 := [_, _])).cell' rfl
        have z1 : wo.drew.cell? ⟨bx, 1, none⟩ = some (.int .i64 b) := (hsq.blk (l1 := [_, _])).cell' rfl
        have z2 : wo.drew.cell? ⟨bx, 2, none⟩ = some (.slice io ni ci) := (hsq.blk (l1 := [_, _])).cell' rfl
        clear hx hL1 ht hg' hfi HPick HTake HG HS hL1l
        go_upto_region 12 with fail
        go_cut [13] (fun t wx => t = .int .i64 0 ∧ Hid (St w wx [machR g2 gd2 (mD 4096 a) (mB 4096 a), machR g1 gd1 D' B', blkR bx 85 [.int .i64 (a : Int), .int .i64 b, .slice io ni ci]]))
        case first =>
          go_region_with (first
            | (go_at_call 66; (with_reducible refine (HPick2.out _ (by assumption)).mono ?_); rintro e w' ⟨o, n, c, rfl, hn, hown, ho⟩; have hs2 : St w w' [_, _, _] := St.onl (by assumption) ho; have hrd := hown.rdE hn; clear ho hown; subst hn)
            | (go_at_call 68; (with_reducible refine (HTake2.out _ (by assumption) _ _ (by assumption)).mono ?_); rintro e w' ⟨rfl, hs2⟩))
          all_goals
            go_wp2_with fail
            go_meet
            exact ⟨rfl, Lib.hid (by assumption)⟩
        case rest =>
          obtain ⟨rfl, HT⟩ := hcut
          clear hsq z0 z1 z2
          go_wp2
          go_roundw
          case rel => exact ⟨k + 1, D', B', by omega, by go_num, HG', HT⟩
          case measure => simp [intOf]; omega
      · have x0 : wo.cell? ⟨bx, 0, none⟩ = some (.int .i64 (a : Int)) := (HS.out.blk (l1 := [_, _])).cell' rfl
        have x1 : wo.cell? ⟨bx, 1, none⟩ = some (.int .i64 b) := (HS.out.blk (l1 := [_, _])).cell' rfl
        have x2 : wo.cell? ⟨bx, 2, none⟩ = some (.slice io ni ci) := (HS.out.blk (l1 := [_, _])).cell' rfl
        go_wp2_with fail
        refine (pick66 (a : Int) b I io ni ci K ko nk ck wo HNi.out hni3 (HI.out.onl HS.out.base) HNk.out (by omega) (HK.out.onl HS.out.base)).mono ?_
        rintro e w7 ⟨o1, n1, c1, rfl, hn1, hown, ho⟩
        obtain ⟨L1, hL1⟩ : ∃ L1, L1 = pickL I K := ⟨_, rfl⟩
        rw [← hL1] at hn1 hown
        have hn30 : n1 ≤ 30 := by have h := pickL_length I K; rw [← hL1, ← hn1] at h; have := HNk.out; omega
        have hrd := hown.rdE hn1
        have HL1f : Hid (∀ e ∈ L1, e.fit) := Lib.hid (fun e he => HFit.out e (pickL_mem (by rw [← hL1]; exact he)))
        obtain ⟨D2, B2, n2, ht, hg2, _⟩ := (good_made (a := a)).take L1 (by omega)
        have hfi : Fits D2 10925 := by
          have h := (mD_fits 4096 a).takeOf (l := L1) (B := mB 4096 a) (by rw [good_made.offs]; exact ha8)
          rw [ht] at h; exact h
        have HG2 : Hid (Good D2 B2 a 30 ∧ Fits D2 10925) := Lib.hid ⟨hg2.mono (by omega), hfi⟩
        have HG1 : Hid (Good D B a 30 ∧ Fits D 327605) := Lib.hid ⟨HG.out.1.mono (by omega), HG.out.2.mono (by omega)⟩
        have HS2 := HS.out.onl ho
        have HTk := Lib.hid (HS2.take (l1 := []) (mD_fits 4096 a) (by omega) L1 o1 n1 c1 hn1 (by omega) hrd HL1f.out)
        rw [ht] at HTk
        have HN1 := Lib.hid hn1
        clear x0 x1 x2 HS2 HS HG ht hg2 hfi hrd hown ho hL1 hn1
        go_wp2_with fail
        refine HTk.out.mono ?_
        rintro e w8 ⟨rfl, hs⟩
        have HS3 : Hid (St w w8 [machR g2 gd2 D2 B2, machR g1 gd1 D B, blkR bx 85 [.int .i64 (a : Int), .int .i64 b, .slice io ni ci]]) := Lib.hid hs
        clear hs HTk
        go_wp2
        have HOf1 : Hid (B.logs.length = a) := Lib.hid HG1.out.1.offs
        have HOf2 : Hid (B2.logs.length = a) := Lib.hid HG2.out.1.offs
        have HBd1 := Lib.hid (HS3.out.bounds (l1 := [_]))
        have HBd2 := Lib.hid (HS3.out.bounds (l1 := []))
        have HEo : Hid (∀ C : Bk, C.logs.length = a → (∀ l ∈ C.logs, l.length ≤ 64) → (∀ l ∈ C.logs, ∀ b ∈ l, b.size ≤ 1024) → ∀ q, q < a → (C.log q).length ≤ 64 ∧ ∀ e ∈ ents q 0 (C.log q), e.ok = true) := Lib.hid (fun C h1 h2 h3 q hq => by
          have hm : C.log q ∈ C.logs := Rad.getD_mem (by omega)
          exact ⟨h2 _ hm, ents_ok (by omega) _ 0 (by have := h2 _ hm; omega) (h3 _ hm)⟩)
        go_loopw [16] (fun x wr => ∃ p : Nat, p ≤ a ∧ x = .int .i64 p ∧ Hid (∀ q, q < p → plainB (ents q 0 (B.log q)) (ents q 0 (B2.log q)) = true) ∧ Hid (St w wr [machR g2 gd2 D2 B2, machR g1 gd1 D B, blkR bx 85 [.int .i64 (a : Int), .int .i64 b, .slice io ni ci]])) (fun x _ => a - (intOf x).toNat)
        case atStart => exact ⟨0, by omega, rfl, Lib.hid (fun q hq => absurd hq (Nat.not_lt_zero _)), HS3⟩
        case round =>
          clear HS3
          obtain ⟨wy, rfl⟩ : ∃ wy : World, wy = wr := ⟨_, rfl⟩
          obtain ⟨p, hp, rfl, HPl, HS⟩ := hrel
          have x0 : wy.cell? ⟨bx, 0, none⟩ = some (.int .i64 (a : Int)) := (HS.out.blk (l1 := [_, _])).cell' rfl
          by_cases hpa : p < a
          · go_wp2_with fail
            refine (HS.out.entries (l1 := [_]) p (by rw [HOf1.out]; exact hpa)).mono ?_
            rintro e w9 ⟨o3, c3, rfl, hown, ho⟩
            have HS4 : Hid (St w w9 [ownR 42 3 o3 (B.log p).length c3 (ecs p 0 (B.log p)), machR g2 gd2 D2 B2, machR g1 gd1 D B, blkR bx 85 [.int .i64 (a : Int), .int .i64 b, .slice io ni ci]]) := Lib.hid (HS.out.addOwn ho hown)
            clear hown ho HS x0
            go_wp2_with fail
            refine (HS4.out.entries (l1 := [_]) p (by rw [HOf2.out]; exact hpa)).mono ?_
            rintro e w10 ⟨o4, c4, rfl, hown, ho⟩
            have HS5 : Hid (St w w10 [ownR 42 3 o4 (B2.log p).length c4 (ecs p 0 (B2.log p)), ownR 42 3 o3 (B.log p).length c3 (ecs p 0 (B.log p)), machR g2 gd2 D2 B2, machR g1 gd1 D B, blkR bx 85 [.int .i64 (a : Int), .int .i64 b, .slice io ni ci]]) := Lib.hid (HS4.out.addOwn ho hown)
            clear hown ho HS4
            have h1 := HEo.out B HOf1.out HBd1.out.2.1 HBd1.out.2.2.1 p hpa
            have h2 := HEo.out B2 HOf2.out HBd2.out.2.1 HBd2.out.2.2.1 p hpa
            obtain ⟨n3, hn3⟩ : ∃ n3, n3 = (B.log p).length := ⟨_, rfl⟩
            obtain ⟨n4, hn4⟩ : ∃ n4, n4 = (B2.log p).length := ⟨_, rfl⟩
            rw [← hn3, ← hn4] at HS5 ⊢
            have HPn := Lib.hid (plain75 (ents p 0 (B.log p)) (ents p 0 (B2.log p)) o3 o4 n3 c3 n4 c4 w10 (by rw [ents_length, hn3]) (by rw [ents_length, hn4]) (by omega) (by omega) (HS5.out.own (l1 := [_])) (HS5.out.own (l1 := [])) h1.2 h2.2 (fun e he => fit_of_ok (h1.2 e he)) (fun e he => fit_of_ok (h2.2 e he)))
            obtain ⟨bp, hbp⟩ : ∃ bp, bp = plainB (ents p 0 (B.log p)) (ents p 0 (B2.log p)) := ⟨_, rfl⟩
            rw [← hbp] at HPn
            have HBp := Lib.hid hbp
            clear h1 h2 hn3 hn4 hbp
            go_wp2_with fail
            refine HPn.out.mono ?_
            rintro e w11 ⟨rfl, ho⟩
            have HS6 : Hid (St w w11 [machR g2 gd2 D2 B2, machR g1 gd1 D B, blkR bx 85 [.int .i64 (a : Int), .int .i64 b, .slice io ni ci]]) := Lib.hid ((((HS5.out.onl ho).drop []).drop []))
            clear ho HPn HS5
            cases bp with
            | false =>
              go_wp2
              go_ret
              exact ⟨rfl, HS6.out.base⟩
            | true =>
              go_wp2
              go_roundw
              case rel =>
                refine ⟨p + 1, by omega, by go_num, Lib.hid (fun q hq => ?_), HS6⟩
                by_cases e : q = p
                · rw [e]; exact HBp.out.symm
                · exact HPl.out q (by omega)
              case measure => simp [intOf]; omega
          · obtain rfl : a = p := by omega
            obtain ⟨P, hP⟩ : ∃ P, P = wantN B (haveN B2 a) (sumsN B2 a) a := ⟨_, rfl⟩
            obtain ⟨Q, hQ⟩ : ∃ Q, Q = wantN B2 (haveN B a) (sumsN B a) a := ⟨_, rfl⟩
            have hPl : P.length ≤ 30 := by have := want_tot B (haveN B2 a) (sumsN B2 a) a; have := HG1.out.1.tot; rw [hP]; omega
            have hQl : Q.length ≤ 30 := by have := want_tot B2 (haveN B a) (sumsN B a) a; have := HG2.out.1.tot; rw [hQ]; omega
            have hPf : ∀ e ∈ P, e.fit := fun e he => by
              rw [hP] at he
              obtain ⟨q, j, h1, _, h3, h4, h5⟩ := mem_wantN.1 he
              have hlt := (List.getElem?_eq_some_iff.1 h3).1
              have hq := HEo.out B HOf1.out HBd1.out.2.1 HBd1.out.2.2.1 q h1
              refine fit_of_ok (hq.2 e ?_)
              have h6 := ents_get q (i := 0) h3
              rw [Nat.zero_add, ← h4, ← h5] at h6
              exact List.mem_of_getElem? h6
            have hQf : ∀ e ∈ Q, e.fit := fun e he => by
              rw [hQ] at he
              obtain ⟨q, j, h1, _, h3, h4, h5⟩ := mem_wantN.1 he
              have hq := HEo.out B2 HOf2.out HBd2.out.2.1 HBd2.out.2.2.1 q h1
              refine fit_of_ok (hq.2 e ?_)
              have h6 := ents_get q (i := 0) h3
              rw [Nat.zero_add, ← h4, ← h5] at h6
              exact List.mem_of_getElem? h6
            obtain ⟨D3, B3, n3, ht3, hg3, hl3⟩ := HG1.out.1.take Q (by omega)
            obtain ⟨D4, B4, n4, ht4, hg4, hl4⟩ := HG2.out.1.take P (by omega)
            have heq : B3.logs = B4.logs := by
              rw [hQ] at hl3
              rw [hP] at hl4
              exact exchange HOf1.out HOf2.out ha8 HBd1.out.2.1 HBd2.out.2.1 HBd1.out.2.2.1 HBd2.out.2.2.1 HPl.out hl3 hl4
            have HEq := Lib.hid heq
            have HT3 := Lib.hid ht3
            have HT4 := Lib.hid ht4
            have HPf := Lib.hid hPf
            have HQf := Lib.hid hQf
            have HP := Lib.hid hP
            have HQ := Lib.hid hQ
            clear hP hQ hPf hQf ht3 ht4 hg3 hg4 hl3 hl4 heq HEo
            go_wp2_with fail
            refine (HS.out.tally (l1 := [])).mono ?_
            rintro e w9 ⟨ha, ch, sa, cs, rfl, owh, ows, ho⟩
            rw [HOf2.out] at owh ows ⊢
            have HS4 := Lib.hid (HS.out.onl ho)
            have HW1 := Lib.hid (HS4.out.wanted (l1 := [_]) (haveN B2 a) (sumsN B2 a) ha sa a ch cs HOf1.out.symm (haveN_length _ _).symm (sumsN_length _ _).symm (owh.rdK (haveN_length _ _).symm) (ows.rdK (sumsN_length _ _).symm) (haveN_nonneg _ _) (haveN_small _ _ HBd2.out.2.1))
            clear x0 ho owh ows HS
            go_wp2_with fail
            refine HW1.out.mono ?_
            rintro e w10 ⟨o5, n5, c5, rfl, hn5, hown, ho⟩
            rw [HOf1.out, ← HP.out] at hn5 hown
            have HS5 : Hid (St w w10 [ownR 42 3 o5 n5 c5 (es P), machR g2 gd2 D2 B2, machR g1 gd1 D B, blkR bx 85 [.int .i64 (a : Int), .int .i64 b, .slice io ni ci]]) := Lib.hid (HS4.out.addOwn ho hown)
            have HN5 := Lib.hid hn5
            have hn530 : n5 ≤ 30 := by omega
            clear hn5 hown ho HW1 HS4
            go_wp2_with fail
            refine (HS5.out.tally (l1 := [_, _])).mono ?_
            rintro e w11 ⟨ha', ch', sa', cs', rfl, owh, ows, ho⟩
            rw [HOf1.out] at owh ows ⊢
            have HS6 := Lib.hid (HS5.out.onl ho)
            have HW2 := Lib.hid (HS6.out.wanted (l1 := [_]) (haveN B a) (sumsN B a) ha' sa' a ch' cs' HOf2.out.symm (haveN_length _ _).symm (sumsN_length _ _).symm (owh.rdK (haveN_length _ _).symm) (ows.rdK (sumsN_length _ _).symm) (haveN_nonneg _ _) (haveN_small _ _ HBd1.out.2.1))
            clear ho owh ows HS5
            go_wp2_with fail
            refine HW2.out.mono ?_
            rintro e w12 ⟨o6, n6, c6, rfl, hn6, hown, ho⟩
            rw [HOf2.out, ← HQ.out] at hn6 hown
            have HS7 : Hid (St w w12 [ownR 42 3 o6 n6 c6 (es Q), ownR 42 3 o5 n5 c5 (es P), machR g2 gd2 D2 B2, machR g1 gd1 D B, blkR bx 85 [.int .i64 (a : Int), .int .i64 b, .slice io ni ci]]) := Lib.hid (HS6.out.addOwn ho hown)
            have HN6 := Lib.hid hn6
            have hn630 : n6 ≤ 30 := by omega
            clear hn6 hown ho HW2 HS6
            have HTa := Lib.hid (HS7.out.take (l1 := [_, _, _]) HG1.out.2 (by omega) Q o6 n6 c6 HN6.out (by omega) ((HS7.out.own (l1 := [])).rdE HN6.out) HQf.out)
            rw [HT3.out] at HTa
            go_wp2_with fail
            refine HTa.out.mono ?_
            rintro e w13 ⟨rfl, hs⟩
            have HS8 : Hid (St w w13 [ownR 42 3 o6 n6 c6 (es Q), ownR 42 3 o5 n5 c5 (es P), machR g2 gd2 D2 B2, machR g1 gd1 D3 B3, blkR bx 85 [.int .i64 (a : Int), .int .i64 b, .slice io ni ci]]) := Lib.hid hs
            clear hs HTa HS7
            have HTb := Lib.hid (HS8.out.take (l1 := [_, _]) HG2.out.2 (by omega) P o5 n5 c5 HN5.out (by omega) ((HS8.out.own (l1 := [_])).rdE HN5.out) HPf.out)
            rw [HT4.out] at HTb
            go_wp2_with fail
            refine HTb.out.mono ?_
            rintro e w14 ⟨rfl, hs⟩
            have HS9 : Hid (St w w14 [ownR 42 3 o6 n6 c6 (es Q), ownR 42 3 o5 n5 c5 (es P), machR g2 gd2 D4 B4, machR g1 gd1 D3 B3, blkR bx 85 [.int .i64 (a : Int), .int .i64 b, .slice io ni ci]]) := Lib.hid hs
            clear hs HTb HS8
            have HE := Lib.hid (equal69 (l1 := [_, _, _]) (m1 := [_, _]) HS9.out HS9.out)
            rw [decide_eq_true HEq.out] at HE
            go_wp2_with fail
            refine HE.out.mono ?_
            rintro e w15 ⟨rfl, ho⟩
            have HS10 := Lib.hid (HS9.out.onl ho)
            clear ho HE HS9
            go_wp2
            go_ret
            exact ⟨rfl, HS10.out.base⟩
end Go.Proofs.Ytenngchidlfaeaa
/- RadioAgree: for all worlds and lists of indices the law returns true, and its arguments read as they did; no condition. -/
namespace Go.Proofs.Ytenngchidlfaeaa.radioAgree
open Go.ChangeShapes Go.WideShapes Go.ChangeAt Go.RowKit
open Go.ChangeMaps (open_string shut_string)

set_option maxRecDepth 100000 in
theorem lifted (os : Os) (started : os.Started) (H : Type) (enc : TypeId × Value → H) :
    ReturnsInHanded {} Try.checked os 11 .any (Rows.radioAgreeSpec.pre6 enc Try.prog Try.f11 Rows.radioAgreeRow.domain false) (Rows.radioAgreeSpec.post enc Try.prog Try.f11 false true false false) := by
  refine returnsInHanded_of_change (C := Try.checked) own started (by kernel_rfl) Try.func11
    (ChangeSpec.witness6 (enc := enc) (C := Try.checked) false ⟨#[], #[.agg #[.int .i64 0, .int .i64 0, .slice none 0 0], .slice none 0 0, .slice none 0 0], []⟩ 8 (by kernel_rfl) (by kernel_rfl) (by kernel_rfl) (by kernel_rfl)) ?_
  intro W base args ds gs before hval0 hW hcnd _
  have hval : ∀ (j : Nat) t v, Try.f11.params[j]? = some t → args[j]? = some v → Value.okWide Try.prog W .any base t v := hval0
  have hW' := hW
  obtain ⟨p, q, hA0, hV, rfl, hfz, hnd⟩ := hW
  have hA : DataW.TrodAll enc Try.prog W 0 (fun _ => true) true Try.f11.params.toList args.toList ds p := hA0
  rw [Try.params11] at hA hval
  obtain ⟨v0, vs0, d0, ds0, p0, q0, hargs, rfl, rfl, h0, r0⟩ := trodAll_cons hA
  obtain ⟨v1, vs1, d1, ds1, p1, q1, rfl, rfl, rfl, h1, r1⟩ := trodAll_cons r0
  obtain ⟨v2, vs2, d2, ds2, p2, q2, rfl, rfl, rfl, h2, r2⟩ := trodAll_cons r1
  obtain ⟨rfl, rfl, rfl⟩ := trodAll_nil r2
  obtain rfl : args = #[v0, v1, v2] := by cases args; simp_all
  obtain ⟨a, b, io, I, ni, ci, rfl, _, _, hni, hni2, hI, hfit⟩ := open_world (hval 0 85 v0 rfl rfl) h0
  obtain ⟨lo, lA, nl, cl, rfl, hnl, hnl2, hlA, hlC, _⟩ := open_numsC (hval 1 49 v1 rfl rfl) h1
  obtain ⟨ko, kA, nk, ck, rfl, hnk, hnk2, hkA, _⟩ := open_nums (hval 2 49 v2 rfl rfl) h2
  clear hA0 hval0
  refine (RadioAgree11 a b io I ni ci lo lA nl cl ko kA nk ck W hni hni2 hI hfit hnl hnl2 hlA hlC hnk hnk2 hkA).mono fun x W' ⟨he, hg⟩ => ?_
  subst he
  exact ⟨_, rfl, law_post (by kernel_rfl) (by kernel_rfl) rfl ⟨rfl, rfl, rfl⟩ hW' hg.below⟩

theorem over : Rows.radioAgreeRow.holds Try.pinned (OpenSpec.ofChange Rows.radioAgreeSpec) :=
  OpenClaim.holds_of_wide 11 Try.f11 rfl rfl rfl rfl rfl rfl rfl ⟨rfl, rfl, rfl, rfl, rfl⟩ rfl rfl rfl rfl rfl (by kernel_rfl) Try.func11 (by kernel_rfl)
    (of_decide_eq_true (by kernel_rfl)) (by unfold Func.isWrapper; first | (rw [if_pos (by decide +kernel)]; kernel_rfl) | (rw [if_neg (by decide +kernel)]; exact ⟨rfl, rfl⟩))
    (fun os started H enc _ => lifted os started H enc)
/-- the statement -/
theorem proved : Rows.RadioAgreeSaid := over
#print axioms proved
end Go.Proofs.Ytenngchidlfaeaa.radioAgree
