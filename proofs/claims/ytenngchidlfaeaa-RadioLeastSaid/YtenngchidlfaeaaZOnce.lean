/- RadioOnce: for all worlds, lists of indices and turns the law returns true, and its arguments read as they did; no condition. -/
import Derived.Test.YtenngchidlfaeaaB3
import Derived.Test.YtenngchidlfaeaaA8
import Derived.Test.YtenngchidlfaeaaA9
/- The law RadioOnce, walked. -/
namespace Go.Proofs.Ytenngchidlfaeaa
open Go.RowKit
open Rad (Dsk)

theorem St.addOwn {W w w' : World} {l : List Rs} (h : St W w l) (ho : Onl non w w') {e : TypeId} {size : Nat} {o : Option Addr} {n c : Nat} {xs : List Value} (hown : Own w' w.heap.size e size o n c xs) : St W w' (ownR e size o n c xs :: l) :=
  h.add (A := ownOf o) ho ⟨hown.mono (fun _ _ => Nat.zero_le _), fun _ => Iff.rfl⟩ (fun k hk => (hown.lt k hk).1)
theorem St.app {W w w' : World} {l1 l2 : List Rs} {e : TypeId} {size : Nat} {so o' : Option Addr} {n c n' c' : Nat} {xs xs' : List Value} (h : St W w (l1 ++ ownR e size so n c xs :: l2)) (h1 : Own w' 0 e size o' n' c' xs') (h2 : Onl (ownOf so) w w') (h3 : ∀ k, ownOf o' k → ownOf so k ∨ w.heap.size ≤ k) :
    St W w' (l1 ++ ownR e size o' n' c' xs' :: l2) :=
  h.step l1 (fun _ ⟨_, hA⟩ => ⟨ownOf o', ⟨h1, fun _ => Iff.rfl⟩, fun k hk => (h3 k hk).imp (hA k).2 id, h2.mono (fun k hk => (hA k).2 hk)⟩)
theorem St.nil {W w : World} {l : List Rs} (h : St W w l) (e : TypeId) (size : Nat) : St W w (ownR e size none 0 0 [] :: l) :=
  h.addOwn (Onl.refl _ _) (Own.nil _ _ _ _)
theorem St.wanted {W w : World} {l1 l2 : List Rs} {g gd : Nat} {D : Dsk} {B : Bk} (h : St W w (l1 ++ machR g gd D B :: l2)) (H S : List Int) (ha sa : Option Addr) (m ch cs : Nat) (hm : m = B.logs.length) (hHl : m = H.length) (hSl : m = S.length)
    (hH : RdK w .i64 ha H) (hS : RdK w .u64 sa S) (hneg : H.any (fun x => decide (x < 0)) = false) (hi : ∀ x ∈ H, x ≤ 9223372036854775807) :
    Calls Try.prog 71 #[.pointer (some ⟨g, 0, none⟩), .agg #[.slice ha m ch, .slice sa m cs]] w fun e w' => WantedPost B H S w e w' := by
  obtain ⟨A, hA, _⟩ := h.get
  exact Wanted71_ok A g gd D B H S ha sa m ch cs w hA hm hHl hSl hH hS hneg hi
/-- a list begun at other places and backwards, between its own elements -/
def backL (G : List Ent) (t : Nat) : Nat → List Ent
  | 0 => []
  | j + 1 => backL G t j ++ [G.getD ((G.length - 1 - j + t) % G.length) default, G.getD (G.length - 1 - j) default]
theorem backL_length (G : List Ent) (t : Nat) : ∀ j, (backL G t j).length = 2 * j
  | 0 => rfl
  | j + 1 => by rw [backL, List.length_append, backL_length G t j]; simp; omega
theorem backL_in {G : List Ent} {t : Nat} {e : Ent} : ∀ {j : Nat}, j ≤ G.length → e ∈ backL G t j → e ∈ G
  | 0, _, h => by cases h
  | j + 1, hj, h => by
    rw [backL] at h
    rcases List.mem_append.1 h with h | h
    · exact backL_in (by omega) h
    · simp only [List.mem_cons, List.not_mem_nil, or_false] at h
      rcases h with rfl | rfl
      · exact Rad.getD_mem (Nat.mod_lt _ (by omega))
      · exact Rad.getD_mem (by omega)
theorem backL_all {G : List Ent} {t : Nat} : ∀ {j i : Nat}, j ≤ G.length → G.length - j ≤ i → i < G.length → G.getD i default ∈ backL G t j
  | 0, i, _, h1, h2 => by omega
  | j + 1, i, hj, h1, h2 => by
    rw [backL]
    by_cases h : G.length - j ≤ i
    · exact List.mem_append.2 (.inl (backL_all (by omega) h h2))
    · refine List.mem_append.2 (.inr ?_)
      have : i = G.length - 1 - j := by omega
      rw [this]; simp
theorem backL_same (G : List Ent) (t : Nat) (e : Ent) : e ∈ G ↔ e ∈ backL G t G.length := by
  refine ⟨fun h => ?_, fun h => backL_in (Nat.le_refl _) h⟩
  obtain ⟨i, hi, he⟩ := List.mem_iff_getElem.1 h
  have := backL_all (t := t) (Nat.le_refl G.length) (i := i) (by omega) hi
  rw [List.getD_eq_getElem?_getD, List.getElem?_eq_getElem hi] at this
  simpa [he] using this
theorem fewB_true {a b : Int} {I : List Ent} (h : fewB a b I = true) : 1 ≤ a ∧ a ≤ 8 ∧ 1 ≤ b ∧ b ≤ 100 ∧ I.length ≤ 24 ∧ ∀ e ∈ I, e.b.size ≤ 1100 := by
  unfold fewB at h
  rw [Bool.and_eq_true] at h
  have h1 := of_decide_eq_true h.1
  refine ⟨h1.1, h1.2.1, h1.2.2.1, h1.2.2.2.1, h1.2.2.2.2, fun e he => ?_⟩
  have := List.all_eq_true.1 h.2 e he
  exact of_decide_eq_true this
set_option maxRecDepth 100000 in
set_option maxHeartbeats 4000000 in
theorem RadioOnce10 (a b : Int) (io : Option Addr) (I : List Ent) (ni ci : Nat) (ao : Option Addr) (A : List Int) (na ca : Nat) (t : Nat) (w : World) (hni : ni = I.length) (hni2 : ni ≤ maxLen) (hI : RdE w io I) (hfit : ∀ e ∈ I, e.fit)
    (hna : na = A.length) (hna2 : na ≤ 9223372036854775807) (hA : RdK w .i64 ao A) (ht : t < 256) :
    Calls Try.prog 10 #[.agg #[.int .i64 a, .int .i64 b, .slice io ni ci], .slice ao na ca, .int .u8 (t : Int)] w fun e w' => e = .returned (.bool true) ∧ Onl non w w' := by
  have hni3 : ni ≤ 9223372036854775807 := by unfold maxLen at hni2; omega
  have HNi := Lib.hid hni
  have HNa := Lib.hid hna
  have HI := Lib.hid hI
  have HFit := Lib.hid hfit
  have HA := Lib.hid hA
  obtain ⟨w1, hw1⟩ : ∃ w1, w1 = w.alloc (.cells #[.int .i64 a, .int .i64 b, .slice io ni ci] 85) := ⟨_, rfl⟩
  obtain ⟨bx, hbx⟩ : ∃ bx, bx = w.heap.size := ⟨_, rfl⟩
  have HS1 : Hid (St w w1 [blkR bx 85 [.int .i64 a, .int .i64 b, .slice io ni ci]]) := Lib.hid (by rw [hw1, hbx]; exact (St.start w).newBlk 85 _)
  clear hni hna hI hfit hA hni2
  go_enter Try.func10, Try.ntmps10
  go_upto_region 1 with fail
  rw [← hw1, ← hbx]
  clear hw1 hbx
  go_wp2_with fail
  refine (sane17 w1).mono ?_
  rintro e w2 ⟨rfl, ho2⟩
  have HS2 := Lib.hid (HS1.out.onl ho2)
  have x0 : w2.cell? ⟨bx, 0, none⟩ = some (.int .i64 a) := (HS2.out.blk (l1 := [])).cell' rfl
  have x1 : w2.cell? ⟨bx, 1, none⟩ = some (.int .i64 b) := (HS2.out.blk (l1 := [])).cell' rfl
  have x2 : w2.cell? ⟨bx, 2, none⟩ = some (.slice io ni ci) := (HS2.out.blk (l1 := [])).cell' rfl
  clear ho2 HS1
  go_wp2_with fail
  refine (few65 a b I io ni ci w2 HNi.out hni3 (HI.out.onl HS2.out.base) HFit.out).mono ?_
  rintro e w3 ⟨rfl, ho3⟩
  have HS3 := Lib.hid (HS2.out.onl ho3)
  clear ho3 HS2 x0 x1 x2
  cases hfew : fewB a b I with
  | false =>
    clear hfew
    go_wp2
    go_ret
    exact ⟨rfl, HS3.out.base⟩
  | true =>
    have hfw := fewB_true hfew
    clear hfew
    by_cases hbig : 30 < na
    · go_wp2
      go_ret
      exact ⟨rfl, HS3.out.base⟩
    obtain ⟨a, rfl⟩ : ∃ a' : Nat, a = (a' : Int) := ⟨a.toNat, by omega⟩
    have ha1 : 1 ≤ a := by omega
    have ha8 : a ≤ 8 := by omega
    clear hfw
    have x0 : w3.cell? ⟨bx, 0, none⟩ = some (.int .i64 (a : Int)) := (HS3.out.blk (l1 := [])).cell' rfl
    have x1 : w3.cell? ⟨bx, 1, none⟩ = some (.int .i64 b) := (HS3.out.blk (l1 := [])).cell' rfl
    have x2 : w3.cell? ⟨bx, 2, none⟩ = some (.slice io ni ci) := (HS3.out.blk (l1 := [])).cell' rfl
    go_wp2_with fail
    refine (pick66 a b I io ni ci A ao na ca w3 HNi.out hni3 (HI.out.onl HS3.out.base) HNa.out (by omega) (HA.out.onl HS3.out.base)).mono ?_
    rintro e w4 ⟨og, ng, cg, rfl, hng, hog, ho4⟩
    obtain ⟨G, hG⟩ : ∃ G, G = pickL I A := ⟨_, rfl⟩
    rw [← hG] at hng hog
    have HGf : Hid (∀ e ∈ G, e.fit) := Lib.hid (fun e he => HFit.out e (pickL_mem (by rw [← hG]; exact he)))
    have hng30 : ng ≤ 30 := by have h := pickL_length I A; rw [← hG, ← hng] at h; have := HNa.out; omega
    have HNg := Lib.hid hng
    have HS4 : Hid (St w w4 [ownR 42 3 og ng cg (es G), blkR bx 85 [.int .i64 (a : Int), .int .i64 b, .slice io ni ci]]) := Lib.hid (HS3.out.addOwn ho4 hog)
    clear hng hog ho4 hG HS3 x0 x1 x2 hbig
    go_wp2
    have HS5 : Hid (St w w4 [ownR 42 3 none 0 0 [], ownR 42 3 og ng cg (es G), blkR bx 85 [.int .i64 (a : Int), .int .i64 b, .slice io ni ci]]) := Lib.hid (HS4.out.nil 42 3)
    go_loopw [8, 9] (fun x y wr => ∃ (j : Nat) (i : Int) (so : Option Addr) (n c : Nat), y = .int .i64 i ∧ x = .slice so n c ∧ -1 ≤ i ∧ i < (ng : Int) ∧ Hid (j ≤ ng ∧ i = (ng : Int) - 1 - (j : Int) ∧ n = 2 * j) ∧ Hid (St w wr [ownR 42 3 so n c (es (backL G t j)), ownR 42 3 og ng cg (es G), blkR bx 85 [.int .i64 (a : Int), .int .i64 b, .slice io ni ci]])) (fun _ y _ => (intOf y + 1).toNat)
    case atStart => exact ⟨0, (ng : Int) - 1, none, 0, 0, rfl, rfl, by omega, by omega, Lib.hid ⟨by omega, by omega, rfl⟩, HS5⟩
    case round =>
      clear HS5 HS4
      obtain ⟨wo, rfl⟩ : ∃ wo : World, wo = wr := ⟨_, rfl⟩
      obtain ⟨j, i, so, n, c, rfl, rfl, hi1, hi2, HJ, HS⟩ := hrel
      by_cases hlt : 0 ≤ i
      · obtain ⟨i, rfl⟩ : ∃ i' : Nat, i = (i' : Int) := ⟨i.toNat, by omega⟩
        have hiG : i < G.length := by have := HNg.out; omega
        obtain ⟨e1, he1⟩ : ∃ e, G[i]? = some e := ⟨_, List.getElem?_eq_getElem hiG⟩
        obtain ⟨q, hq⟩ : ∃ q, q = (i + t) % ng := ⟨_, rfl⟩
        have hqn : q < ng := by rw [hq]; exact Nat.mod_lt _ (by omega)
        obtain ⟨e2, he2⟩ : ∃ e, G[q]? = some e := ⟨_, List.getElem?_eq_getElem (by have := HNg.out; omega)⟩
        have hbk : backL G t (j + 1) = backL G t j ++ [e2] ++ [e1] := by
          have hjj := HJ.out
          have hgl := HNg.out
          have e3 : G.length - 1 - j = i := by omega
          rw [backL, e3, ← hgl, ← hq, List.getD_eq_getElem?_getD, List.getD_eq_getElem?_getD, he1, he2]; simp
        have HBk := Lib.hid hbk
        have hrd := (HS.out.own (l1 := [_])).rdE HNg.out
        obtain ⟨gg, off, hgo, z0, z1, z2⟩ := hrd i e1 he1
        obtain ⟨gg', off', hgo', y0, y1, y2⟩ := hrd q e2 he2
        subst hgo
        obtain ⟨rfl, rfl⟩ : gg = gg' ∧ off = off' := by simpa using hgo'
        obtain ⟨o1, n1, s1⟩ := e1
        obtain ⟨o2, n2, s2⟩ := e2
        dsimp only at z0 z1 z2 y0 y1 y2
        have e0 : IntKind.i64.wrap (t : Int) = (t : Int) := IntWalk.i64_in _ (by omega)
        have e1 : ((i : Int) + (t : Int)).tmod (ng : Int) = (q : Int) := by rw [hq, Int.tmod_eq_emod_of_nonneg (by omega), Int.natCast_emod, Int.natCast_add]
        have k0 : (0 : Int) ≤ (q : Int) := by omega
        have k1 : (q : Int) < (ng : Int) := by omega
        have kn : ((ng : Int) == 0) = false := ne_beq (b := 0) (by omega)
        have kn2 : (ng : Int) ≠ 0 := by omega
        have hn60 : n ≤ 60 := by have := HJ.out; omega
        have HSa : Hid (St w (wo.alloc (.cells #[.int .i64 o2, .int .i64 n2, .string s2] 42)) [ownR 42 3 so n c (es (backL G t j)), ownR 42 3 (some ⟨gg, off, none⟩) ng cg (es G), blkR bx 85 [.int .i64 (a : Int), .int .i64 b, .slice io ni ci]]) := Lib.hid (HS.out.alloc _)
        have HNB : Hid (∀ j u, (es [⟨o2, n2, s2⟩])[j]? = some u → (wo.alloc (.cells #[.int .i64 o2, .int .i64 n2, .string s2] 42)).cell? ((⟨wo.heap.size, 0, none⟩ : Addr).add j) = some u) := Lib.hid ((Blk.new wo 42 [.int .i64 o2, .int .i64 n2, .string s2]).cells)
        have HE1 := Lib.hid he1
        clear he1 he2 hbk hrd hgo' z0 z1 z2 HS hq
        go_upto_region 11 with (first | (at_builtin; refine wpList_app rfl (.tmp 44) (.tmp 55) 46 rfl 0 42 (.agg #[.int .i64 0, .int .i64 0, .string ⟨#[]⟩]) 3 32 Try.underlying46 info42' rfl (by decide) _ _ _ _ rfl (HSa.out.own (l1 := [])) ⟨wo.heap.size, 0, none⟩ 1 1 (es [⟨o2, n2, s2⟩]) rfl rfl HNB.out (es_one _) (by omega) (by omega) (by omega) ?_; intro p1 c1 wA hA1 hA2 hA3; have HA1 := Lib.hid hA1; have HA2 := Lib.hid hA2; have HA3 := Lib.hid hA3; clear hA1 hA2 hA3))
        have HSb : Hid (St w wA [ownR 42 3 p1 (n + 1) c1 (es (backL G t j ++ [⟨o2, n2, s2⟩])), ownR 42 3 (some ⟨gg, off, none⟩) ng cg (es G), blkR bx 85 [.int .i64 (a : Int), .int .i64 b, .slice io ni ci]]) := Lib.hid (HSa.out.app (l1 := []) (by rw [es_append]; exact HA1.out) HA2.out HA3.out)
        have hrd := (HSb.out.own (l1 := [_])).rdE HNg.out
        obtain ⟨gg', off', hgo', z0, z1, z2⟩ := hrd i _ HE1.out
        obtain ⟨rfl, rfl⟩ : gg = gg' ∧ off = off' := by simpa using hgo'
        dsimp only at z0 z1 z2
        have HSc : Hid (St w (wA.alloc (.cells #[.int .i64 o1, .int .i64 n1, .string s1] 42)) [ownR 42 3 p1 (n + 1) c1 (es (backL G t j ++ [⟨o2, n2, s2⟩])), ownR 42 3 (some ⟨gg, off, none⟩) ng cg (es G), blkR bx 85 [.int .i64 (a : Int), .int .i64 b, .slice io ni ci]]) := Lib.hid (HSb.out.alloc _)
        have HNC : Hid (∀ j u, (es [⟨o1, n1, s1⟩])[j]? = some u → (wA.alloc (.cells #[.int .i64 o1, .int .i64 n1, .string s1] 42)).cell? ((⟨wA.heap.size, 0, none⟩ : Addr).add j) = some u) := Lib.hid ((Blk.new wA 42 [.int .i64 o1, .int .i64 n1, .string s1]).cells)
        clear hrd hgo' HSa HNB HA1 HA2 HA3 HSb y0 y1 y2 e0 e1 kn kn2
        go_wp2_with (first | (at_builtin; refine wpList_app rfl (.tmp 57) (.tmp 62) 46 rfl 0 42 (.agg #[.int .i64 0, .int .i64 0, .string ⟨#[]⟩]) 3 32 Try.underlying46 info42' rfl (by decide) _ _ _ _ rfl (HSc.out.own (l1 := [])) ⟨wA.heap.size, 0, none⟩ 1 1 (es [⟨o1, n1, s1⟩]) rfl rfl HNC.out (es_one _) (by omega) (by omega) (by omega) ?_; intro p2 c2 wB hA1 hA2 hA3; have HA1 := Lib.hid hA1; have HA2 := Lib.hid hA2; have HA3 := Lib.hid hA3; clear hA1 hA2 hA3))
        have HSd : Hid (St w wB [ownR 42 3 p2 (n + 1 + 1) c2 (es (backL G t (j + 1))), ownR 42 3 (some ⟨gg, off, none⟩) ng cg (es G), blkR bx 85 [.int .i64 (a : Int), .int .i64 b, .slice io ni ci]]) := Lib.hid (by
          rw [HBk.out]
          exact HSc.out.app (l1 := []) (by rw [es_append]; exact HA1.out) HA2.out HA3.out)
        clear HSc HNC HA1 HA2 HA3 z0 z1 z2
        go_roundw
        case rel => exact ⟨j + 1, (i : Int) - 1, p2, n + 1 + 1, c2, by go_num, rfl, by omega, by omega, Lib.hid ⟨by have := HJ.out; omega, by have := HJ.out; omega, by have := HJ.out; omega⟩, HSd⟩
        case measure => simp [intOf]; try omega
      · have hjn : j = ng := by have := HJ.out; omega
        have hn2 : n = 2 * ng := by have := HJ.out; omega
        obtain ⟨K, hK⟩ : ∃ K, K = backL G t ng := ⟨_, rfl⟩
        have HS6 : Hid (St w wo [ownR 42 3 so n c (es K), ownR 42 3 og ng cg (es G), blkR bx 85 [.int .i64 (a : Int), .int .i64 b, .slice io ni ci]]) := Lib.hid (by have h := HS.out; rw [hjn, ← hK] at h; exact h)
        have HNk : Hid (n = K.length) := Lib.hid (by rw [hK, backL_length, hn2])
        have HSame : Hid (∀ e, e ∈ G ↔ e ∈ K) := Lib.hid (fun e => by rw [hK, HNg.out]; exact backL_same G t e)
        have HKf : Hid (∀ e ∈ K, e.fit) := Lib.hid (fun e he => HGf.out e ((HSame.out e).2 he))
        have hn60 : n ≤ 60 := by omega
        have x0 : wo.cell? ⟨bx, 0, none⟩ = some (.int .i64 (a : Int)) := (HS6.out.blk (l1 := [_, _])).cell' rfl
        have x1 : wo.cell? ⟨bx, 1, none⟩ = some (.int .i64 b) := (HS6.out.blk (l1 := [_, _])).cell' rfl
        have x2 : wo.cell? ⟨bx, 2, none⟩ = some (.slice io ni ci) := (HS6.out.blk (l1 := [_, _])).cell' rfl
        clear hjn hn2 hK HS HJ
        go_wp2_with fail
        refine (made67 HS6.out a 4096 b io ni ci ha1 ha8 (by omega) (by omega)).mono ?_
        rintro e w5 ⟨gd1, g1, rfl, hs⟩
        have HS7 := Lib.hid hs
        clear hs HS6 x0 x1 x2
        have x0 : w5.cell? ⟨bx, 0, none⟩ = some (.int .i64 (a : Int)) := (HS7.out.blk (l1 := [_, _, _])).cell' rfl
        have x1 : w5.cell? ⟨bx, 1, none⟩ = some (.int .i64 b) := (HS7.out.blk (l1 := [_, _, _])).cell' rfl
        have x2 : w5.cell? ⟨bx, 2, none⟩ = some (.slice io ni ci) := (HS7.out.blk (l1 := [_, _, _])).cell' rfl
        go_wp2_with fail
        refine (made67 HS7.out a 4096 b io ni ci ha1 ha8 (by omega) (by omega)).mono ?_
        rintro e w6 ⟨gd2, g2, rfl, hs⟩
        have HS8 := Lib.hid hs
        clear hs HS7 x0 x1 x2
        have hc0 := mD_calm (n := 4096) (a := a) (by omega)
        have hf0 : (mB 4096 a).falls = (mD 4096 a).falls := by rw [hc0.2.2.1]; rfl
        have hz1 : (mB 4096 a).pos + 17 * G.length ≤ (mD 4096 a).safe.length := by rw [hc0.2.2.2, mB_eq]; have := HNg.out; show 1 + _ ≤ _; omega
        have hz2 : (mB 4096 a).pos + 17 * K.length ≤ (mD 4096 a).safe.length := by rw [hc0.2.2.2, mB_eq]; have := HNk.out; show 1 + _ ≤ _; omega
        have hag := take_again hc0.2.1 hf0 hz1
        have hsm := take_same HSame.out rfl hc0.2.1 hf0 hz1 hc0.2.1 hf0 hz2
        obtain ⟨D1', B1', n1', ht1, hcal1, hlen1, hfl1, _, _⟩ := take_calm hc0.2.1 hf0 hz1
        obtain ⟨D2', B2', n2', ht2, hcal2, hlen2, hfl2, _, _⟩ := take_calm hc0.2.1 hf0 hz2
        have hfi1 : Fits D1' 10925 := by
          have h := (mD_fits 4096 a).takeOf (l := G) (B := mB 4096 a) (by rw [mB_eq]; show (List.replicate a _).length ≤ 8; rw [List.length_replicate]; exact ha8)
          rw [ht1] at h; exact h
        rw [ht1] at hag hsm
        rw [ht2] at hsm
        have HAg : Hid (takeOf G D1' B1' = ⟨D1', B1', 0, 0⟩) := Lib.hid hag
        have HSm : Hid (B1'.logs = B2'.logs) := Lib.hid hsm
        have HT1 := Lib.hid ht1
        have HT2 := Lib.hid ht2
        have HFl1 := Lib.hid hfl1
        have HFi1 := Lib.hid hfi1
        clear hc0 hf0 hz1 hz2 hag hsm ht1 ht2 hcal1 hcal2 hlen1 hlen2 hfl1 hfl2 hfi1
        have HTk1 := Lib.hid (HS8.out.take (l1 := [_]) (mD_fits 4096 a) (by omega) G og ng cg HNg.out (by omega) ((HS8.out.own (l1 := [_, _, _])).rdE HNg.out) HGf.out)
        rw [HT1.out] at HTk1
        go_wp2_with fail
        refine HTk1.out.mono ?_
        rintro e w7 ⟨rfl, hs⟩
        have HS9 : Hid (St w w7 [machR g2 gd2 (mD 4096 a) (mB 4096 a), machR g1 gd1 D1' B1', ownR 42 3 so n c (es K), ownR 42 3 og ng cg (es G), blkR bx 85 [.int .i64 (a : Int), .int .i64 b, .slice io ni ci]]) := Lib.hid hs
        clear hs HTk1 HS8
        have HTk2 := Lib.hid (HS9.out.take (l1 := []) (mD_fits 4096 a) (by omega) K so n c HNk.out (by omega) ((HS9.out.own (l1 := [_, _])).rdE HNk.out) HKf.out)
        rw [HT2.out] at HTk2
        go_wp2_with fail
        refine HTk2.out.mono ?_
        rintro e w8 ⟨rfl, hs⟩
        have HS10 : Hid (St w w8 [machR g2 gd2 D2' B2', machR g1 gd1 D1' B1', ownR 42 3 so n c (es K), ownR 42 3 og ng cg (es G), blkR bx 85 [.int .i64 (a : Int), .int .i64 b, .slice io ni ci]]) := Lib.hid hs
        clear hs HTk2 HS9
        have HEq := Lib.hid (equal69 (l1 := [_]) (m1 := []) HS10.out HS10.out)
        rw [decide_eq_true HSm.out] at HEq
        go_wp2_with fail
        refine HEq.out.mono ?_
        rintro e w9 ⟨rfl, ho⟩
        have HS11 := Lib.hid (HS10.out.onl ho)
        clear ho HEq HS10
        go_wp2_with fail
        refine (HS11.out.ball (l1 := [_])).mono ?_
        rintro e w10 ⟨oa, ca', rfl, hown, ho⟩
        have HBd := Lib.hid (HS11.out.bounds (l1 := [_]))
        obtain ⟨L, hL⟩ : ∃ L, L = allOf 0 B1'.logs := ⟨_, rfl⟩
        rw [← hL] at hown ⊢
        obtain ⟨nL, hnL⟩ : ∃ nL, nL = L.length := ⟨_, rfl⟩
        rw [← hnL] at hown ⊢
        have HNL := Lib.hid hnL
        have HL := Lib.hid hL
        have hnL512 : nL ≤ 512 := by have h := allOf_length_le B1'.logs 0 HBd.out.2.1; rw [← hL, ← hnL] at h; have := HBd.out.1; omega
        have HS12 := Lib.hid (HS11.out.addOwn ho hown)
        clear ho hown hnL hL HS11
        have HTk3 := Lib.hid (HS12.out.take (l1 := [_, _]) HFi1.out (by omega) G og ng cg HNg.out (by omega) ((HS12.out.own (l1 := [_, _, _, _])).rdE HNg.out) HGf.out)
        rw [HAg.out] at HTk3
        go_wp2_with fail
        refine HTk3.out.mono ?_
        rintro e w11 ⟨rfl, hs⟩
        have HS13 : Hid (St w w11 [ownR 42 3 oa nL ca' (es L), machR g2 gd2 D2' B2', machR g1 gd1 D1' B1', ownR 42 3 so n c (es K), ownR 42 3 og ng cg (es G), blkR bx 85 [.int .i64 (a : Int), .int .i64 b, .slice io ni ci]]) := Lib.hid hs
        clear hs HTk3 HS12
        go_wp2_with fail
        refine (HS13.out.tally (l1 := [_, _])).mono ?_
        rintro e w12 ⟨ha, ch, sa, cs, rfl, owh, ows, ho⟩
        obtain ⟨m, hm⟩ : ∃ m, m = B1'.logs.length := ⟨_, rfl⟩
        rw [← hm] at owh ows ⊢
        have HS14 := Lib.hid (HS13.out.onl ho)
        have HWa := Lib.hid (HS14.out.wanted (l1 := [_, _]) (haveN B1' m) (sumsN B1' m) ha sa m ch cs hm (haveN_length _ _).symm (sumsN_length _ _).symm (owh.rdK (haveN_length _ _).symm) (ows.rdK (sumsN_length _ _).symm) (haveN_nonneg _ _) (haveN_small _ _ HBd.out.2.1))
        have HMm := Lib.hid hm
        clear ho owh ows HS13 hm
        go_wp2_with fail
        refine HWa.out.mono ?_
        rintro e w13 ⟨o5, n5, c5, rfl, hn5, hown, ho⟩
        have hn50 : n5 = 0 := by rw [hn5, ← HMm.out, want_none _ _ _ (Nat.le_refl _)]; rfl
        subst hn50
        have HS15 := Lib.hid (HS14.out.onl ho)
        clear hn5 hown ho HWa HS14
        go_wp2_with fail
        refine (HS15.out.ball (l1 := [_, _])).mono ?_
        rintro e w14 ⟨o6, c6, rfl, hown, ho⟩
        rw [← HL.out, ← HNL.out] at hown ⊢
        have HS16 := Lib.hid (HS15.out.onl ho)
        have HEn := Lib.hid (entries42 L L o6 oa nL c6 nL ca' w14 HNL.out HNL.out (by omega) (by omega) (hown.rdE HNL.out) ((HS16.out.own (l1 := [])).rdE HNL.out))
        rw [decide_eq_true rfl] at HEn
        clear ho hown HS15
        go_wp2_with fail
        refine HEn.out.mono ?_
        rintro e w15 ⟨rfl, hd⟩
        have HS17 := Lib.hid (HS16.out.drw hd)
        clear hd HEn HS16
        go_wp2
        go_loopw [23] (fun x wr => ∃ k : Nat, k ≤ nL ∧ x = .int .i64 k ∧ Hid (St w wr [ownR 42 3 oa nL ca' (es L), machR g2 gd2 D2' B2', machR g1 gd1 D1' B1', ownR 42 3 so n c (es K), ownR 42 3 og ng cg (es G), blkR bx 85 [.int .i64 (a : Int), .int .i64 b, .slice io ni ci]])) (fun x _ => nL - (intOf x).toNat)
        case atStart => exact ⟨0, by omega, rfl, HS17⟩
        case round =>
          clear HS17
          obtain ⟨wy, rfl⟩ : ∃ wy : World, wy = wr := ⟨_, rfl⟩
          obtain ⟨k, hk, rfl, HS⟩ := hrel
          by_cases hlt2 : k < nL
          · obtain ⟨⟨p, q, s⟩, he⟩ : ∃ e, L[k]? = some e := ⟨_, List.getElem?_eq_getElem (by have := HNL.out; omega)⟩
            obtain ⟨gy, offy, hoy, y0, y1, y2⟩ := ((HS.out.own (l1 := [])).rdE HNL.out) k _ he
            subst hoy
            dsimp only at y0 y1 y2
            have hmem : (⟨p, q, s⟩ : Ent) ∈ allOf 0 B1'.logs := by rw [← HL.out]; exact List.mem_of_getElem? he
            have hao := add_own HFl1.out HBd.out.1 HBd.out.2.1 HBd.out.2.2.1 hmem
            have hs64 : s.size ≤ 9223372036854775807 := by
              obtain ⟨q', j', l', h1, _, _, h4⟩ := mem_allOf hmem
              have := HBd.out.2.2.1 l' (List.mem_of_getElem? h1) s (List.mem_of_getElem? h4)
              omega
            have HAdd := Lib.hid (HS.out.badd (l1 := [_, _]) HFi1.out (by omega) p q s hs64)
            rw [hao.1, hao.2.1, hao.2.2] at HAdd
            have i0 : (0 : Int) ≤ (k : Int) := by omega
            have i1 : (k : Int) < (nL : Int) := by omega
            clear he hmem hao hs64
            go_wp2_with fail
            refine HAdd.out.mono ?_
            rintro e wv ⟨rfl, hs⟩
            have HSn : Hid (St w wv [ownR 42 3 (some ⟨gy, offy, none⟩) nL ca' (es L), machR g2 gd2 D2' B2', machR g1 gd1 D1' B1', ownR 42 3 so n c (es K), ownR 42 3 og ng cg (es G), blkR bx 85 [.int .i64 (a : Int), .int .i64 b, .slice io ni ci]]) := Lib.hid hs
            clear hs HAdd HS y0 y1 y2
            go_wp2
            go_roundw
            case rel => exact ⟨k + 1, by omega, by go_num, HSn⟩
            case measure => simp [intOf]; omega
          · go_wp2_with fail
            refine (HS.out.ball (l1 := [_, _])).mono ?_
            rintro e wv ⟨o6, c6, rfl, hown, ho⟩
            rw [← HL.out, ← HNL.out] at hown ⊢
            have HS2 := Lib.hid (HS.out.onl ho)
            have HEn := Lib.hid (entries42 L L o6 oa nL c6 nL ca' wv HNL.out HNL.out (by omega) (by omega) (hown.rdE HNL.out) ((HS2.out.own (l1 := [])).rdE HNL.out))
            rw [decide_eq_true rfl] at HEn
            clear ho hown HS
            go_wp2_with fail
            refine HEn.out.mono ?_
            rintro e wu ⟨rfl, hd⟩
            have HS3 := Lib.hid (HS2.out.drw hd)
            clear hd HEn HS2
            go_wp2
            go_ret
            exact ⟨rfl, HS3.out.base⟩
end Go.Proofs.Ytenngchidlfaeaa
/- RadioOnce: for all worlds, lists of indices and turns the law returns true, and its arguments read as they did; no condition. -/
namespace Go.Proofs.Ytenngchidlfaeaa.radioOnce
open Go.ChangeShapes Go.WideShapes Go.ChangeAt Go.RowKit
open Go.ChangeMaps (open_string shut_string)

set_option maxRecDepth 100000 in
theorem lifted (os : Os) (started : os.Started) (H : Type) (enc : TypeId × Value → H) :
    ReturnsInHanded {} Try.checked os 10 .any (Rows.radioOnceSpec.pre6 enc Try.prog Try.f10 Rows.radioOnceRow.domain false) (Rows.radioOnceSpec.post enc Try.prog Try.f10 false true false false) := by
  refine returnsInHanded_of_change (C := Try.checked) own started (by kernel_rfl) Try.func10
    (ChangeSpec.witness6 (enc := enc) (C := Try.checked) false ⟨#[], #[.agg #[.int .i64 0, .int .i64 0, .slice none 0 0], .slice none 0 0, .int .u8 0], []⟩ 8 (by kernel_rfl) (by kernel_rfl) (by kernel_rfl) (by kernel_rfl)) ?_
  intro W base args ds gs before hval0 hW hcnd _
  have hval : ∀ (j : Nat) t v, Try.f10.params[j]? = some t → args[j]? = some v → Value.okWide Try.prog W .any base t v := hval0
  have hW' := hW
  obtain ⟨p, q, hA0, hV, rfl, hfz, hnd⟩ := hW
  have hA : DataW.TrodAll enc Try.prog W 0 (fun _ => true) true Try.f10.params.toList args.toList ds p := hA0
  rw [Try.params10] at hA hval
  obtain ⟨v0, vs0, d0, ds0, p0, q0, hargs, rfl, rfl, h0, r0⟩ := trodAll_cons hA
  obtain ⟨v1, vs1, d1, ds1, p1, q1, rfl, rfl, rfl, h1, r1⟩ := trodAll_cons r0
  obtain ⟨v2, vs2, d2, ds2, p2, q2, rfl, rfl, rfl, h2, r2⟩ := trodAll_cons r1
  obtain ⟨rfl, rfl, rfl⟩ := trodAll_nil r2
  obtain rfl : args = #[v0, v1, v2] := by cases args; simp_all
  obtain ⟨a, b, io, I, ni, ci, rfl, _, _, hni, hni2, hI, hfit⟩ := open_world (hval 0 85 v0 rfl rfl) h0
  obtain ⟨lo, lA, nl, cl, rfl, hnl, hnl2, hlA, _⟩ := open_nums (hval 1 49 v1 rfl rfl) h1
  obtain ⟨t, rfl, _, _, wt⟩ := open_int Try.underlying5 (hval 2 5 v2 rfl rfl) h2
  have bt := bounds_u8 wt
  obtain ⟨t, rfl⟩ : ∃ t' : Nat, t = (t' : Int) := ⟨t.toNat, by omega⟩
  clear hA0 hval0
  refine (RadioOnce10 a b io I ni ci lo lA nl cl t W hni hni2 hI hfit hnl hnl2 hlA (by omega)).mono fun x W' ⟨he, hg⟩ => ?_
  subst he
  exact ⟨_, rfl, law_post (by kernel_rfl) (by kernel_rfl) rfl ⟨rfl, rfl, rfl⟩ hW' hg.below⟩

theorem over : Rows.radioOnceRow.holds Try.pinned (OpenSpec.ofChange Rows.radioOnceSpec) :=
  OpenClaim.holds_of_wide 10 Try.f10 rfl rfl rfl rfl rfl rfl rfl ⟨rfl, rfl, rfl, rfl, rfl⟩ rfl rfl rfl rfl rfl (by kernel_rfl) Try.func10 (by kernel_rfl)
    (of_decide_eq_true (by kernel_rfl)) (by unfold Func.isWrapper; first | (rw [if_pos (by decide +kernel)]; kernel_rfl) | (rw [if_neg (by decide +kernel)]; exact ⟨rfl, rfl⟩))
    (fun os started H enc _ => lifted os started H enc)
/-- the statement -/
theorem proved : Rows.RadioOnceSaid := over
#print axioms proved
end Go.Proofs.Ytenngchidlfaeaa.radioOnce
