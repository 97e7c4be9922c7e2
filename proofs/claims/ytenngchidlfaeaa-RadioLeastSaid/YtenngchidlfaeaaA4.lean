/- A4: texts T13 T14 T15 T16 T17 T18, joined. -/
import Derived.Test.YtenngchidlfaeaaA3
import Derived.Test.YtenngchidlfaeaaA2
import Derived.Test.YtenngchidlfaeaaA1
import Derived.Deep.RegionHeld3
import Derived.Deep.CutRange
/- The reference's code functions, walked. -/
namespace Go.Proofs.Ytenngchidlfaeaa
open Go.RowKit

set_option maxRecDepth 100000 in
theorem rvalue150 (s : ByteArray) (a : Nat) (w : World) (ha : a < 256) (hs : s.size < 1000) : Calls Try.prog 150 #[.string s, .int .i64 a] w fun e w' => e = .returned (.int .i64 (Rad.horner a 0 (bl s))) ∧ Drw w w' := by
  go_enter Try.func150, Try.ntmps150
  go_wp2
  go_loopw [5, 6] (fun u v wr => ∃ x k : Nat, x < 256 ∧ k ≤ s.size ∧ u = .int .i64 x ∧ v = .int .i64 k ∧ Drw w wr ∧ Hid (x = Rad.horner a 0 ((bl s).take k))) (fun _ v _ => s.size - (intOf v).toNat)
  case atStart => exact ⟨0, 0, by omega, by omega, rfl, rfl, Drw.refl _, Lib.hid rfl⟩
  case round =>
    obtain ⟨x, k, hx, hk, rfl, rfl, hD, H⟩ := hrel
    by_cases hlt : k < s.size
    · have hl := Rad.gm_lt hx a
      have HB := Lib.hid (bl_take s k hlt)
      have hsk : s[k].toNat < 256 := s[k].toNat_lt
      have hX := bxor (Rad.gm x a) s[k].toNat (by omega) (by omega)
      have HX := Lib.hid hX
      clear hX
      go_wp2
      go_quiet ((go_at_call 98; exact qsame (rtimes98 x a _ (by omega) (by omega))))
      go_wp2
      go_roundw
      case rel =>
        refine ⟨Rad.gm x a ^^^ s[k].toNat, k + 1, Rad.xor_lt hl hsk, by omega, valInt ?_, by go_num, hD.drewN _, Lib.hid ?_⟩
        · rw [← HX.out]
        · rw [HB.out, H.out]; simp [Rad.horner]
      case measure => simp [intOf]; omega
    · go_wp2
      go_ret
      have : k = s.size := by omega
      subst this
      exact ⟨retInt (by rw [H.out, List.take_of_length_le (by rw [bl_length]; omega)]), hD⟩

def DivPost (w : World) (e : Ending) (w' : World) : Prop := ∃ b c, e = .returned (.slice (some ⟨b, 0, none⟩) 7 c) ∧ w.heap.size ≤ b ∧ (∃ extra, Blk w' b 3 (is (Rad.gens 6) ++ extra)) ∧ Onl non w w'
set_option maxRecDepth 100000 in
theorem rdivisor100 (w : World) : Calls Try.prog 100 #[] w fun e w' => DivPost w e w' := by
  go_enter Try.func100, Try.ntmps100
  go_wp2
  go_loopw [1, 2] (fun u v wr => ∃ j n g c : Nat, j ≤ 6 ∧ n ≤ 7 ∧ u = .slice (some ⟨g, 0, none⟩) n c ∧ v = .int .i64 j ∧ Hid (n = j + 1) ∧ Hid (w.heap.size ≤ g) ∧ Hid (∃ extra, Blk wr g 3 (is (Rad.rgens j) ++ extra)) ∧ Hid (Onl non w wr)) (fun _ v _ => 6 - (intOf v).toNat)
  case atStart => exact ⟨0, 1, w.heap.size, 1, by omega, by omega, rfl, rfl, Lib.hid rfl, Lib.hid (Nat.le_refl _), Lib.hid ⟨[], Blk.new w 3 _⟩, Lib.hid ((Onl.refl _ _).alloc _)⟩
  case round =>
    obtain ⟨wo, rfl⟩ : ∃ wo : World, wo = wr := ⟨_, rfl⟩
    obtain ⟨j, n, g, c, hj, hn, rfl, rfl, Hn, Hg, HBx, HO⟩ := hrel
    by_cases hlt : j < 6
    · have hd6 : decide ((j : Int) < 6) = true := decide_eq_true (by omega)
      obtain ⟨ex, hB⟩ := HBx.out
      have hlg : (Rad.rgens j).length = n := by rw [Rad.rgens_length, Hn.out]
      have HLg := Lib.hid hlg
      have hgl : g < wo.heap.size := hB.lt
      have HB := Lib.hid hB
      clear hB hlg HBx
      have HO1 : Hid (Own (wo.alloc (.cells #[] 3)) w.heap.size 3 1 (some ⟨wo.heap.size, 0, none⟩) 0 0 []) := Lib.hid (Own.made0 wo _ _ _ (by have := HO.out.size; omega))
      go_wp2_with fail
      refine (rpower151 j _ (by omega)).mono ?_
      rintro e w' ⟨rfl, rfl⟩
      have HI0 : Hid ((is (Rad.rgens j)).length = n * 1) := Lib.hid (by rw [is_length, HLg.out]; omega)
      go_wp2_with (first | (at_builtin; refine wpList_app rfl (.tmp 13) (.tmp 14) 49 rfl w.heap.size 3 (.int .i64 0) 1 8 Try.underlying49 info3 rfl (by decide) _ _ _ _ rfl HO1.out ⟨g, 0, none⟩ n c (is (Rad.rgens j)) rfl HI0.out (HB.out.alloc _).cells_pre (is_one _) (by omega) (by omega) (by have := HO.out.size; simp; omega) ?_; intro o1 c1 wA hA1 hA2 hA3; simp only [Nat.zero_add, List.nil_append] at hA1; have HA1 := Lib.hid hA1; have HA2 := Lib.hid hA2; have HA3 := Lib.hid hA3; clear hA1 hA2 hA3) | (at_builtin; refine wpList_app rfl (.tmp 15) (.tmp 16) 49 rfl w.heap.size 3 (.int .i64 0) 1 8 Try.underlying49 info3 rfl (by decide) _ _ _ _ rfl (HA1.out.alloc _) ⟨wA.heap.size, 0, none⟩ 1 1 (is [0]) rfl rfl (Blk.new wA 3 (is [0])).cells (is_one _) (by omega) (by omega) (by have := HO.out.size; have := HA2.out.size; simp at this ⊢; omega) ?_; intro o2 c2 wC hC1 hC2 hC3; have HC1 := Lib.hid hC1; have HC2 := Lib.hid hC2; have HC3 := Lib.hid hC3; clear hC1 hC2 hC3))
      have hge1 : ∀ k, ownOf o1 k → wo.heap.size ≤ k := by
        intro k hk
        rcases HA3.out k hk with h | h
        · have h' : wo.heap.size = k := by simpa [ownOf] using h
          omega
        · simp at h; omega
      have HOA : Hid (Onl non w wA) := Lib.hid ((HO.out.alloc _).trans HA2.out (fun i hi h => by
        have h' : wo.heap.size = i := by simpa [ownOf] using h
        have := HO.out.size; omega))
      have HOC : Hid (Onl non w wC) := Lib.hid ((HOA.out.alloc _).trans HC2.out (fun i hi h => by
        have := hge1 i h
        have := HO.out.size; omega))
      have HBA : Hid (∃ e, Blk wA g 3 (is (Rad.rgens j) ++ e)) := Lib.hid ⟨ex, (HB.out.alloc _).onl HA2.out (fun h => by
        have h' : wo.heap.size = g := by simpa [ownOf] using h
        omega)⟩
      obtain ⟨exA, hBA⟩ := HBA.out
      have HBC : Hid (Blk wC g 3 (is (Rad.rgens j) ++ exA)) := Lib.hid ((hBA.alloc _).onl HC2.out (fun h => by have := hge1 g h; omega))
      clear hBA HBA
      obtain ⟨h, exC, rfl, hh1, hh2, hh3, hh4, hh5⟩ := HC1.out.shape (by omega)
      have hgh : g ≠ h := by
        rcases HC3.out h rfl with h' | h'
        · have := hge1 h h'; omega
        · have := HA2.out.size; simp at h' this; omega
      have HGH := Lib.hid hgh
      have HH : Hid (Blk wC h 3 (is (Rad.rpart (Rad.rgens j) (Rad.gpow 2 j) 0) ++ exC)) := Lib.hid (by
        have e : is (Rad.rpart (Rad.rgens j) (Rad.gpow 2 j) 0) = is (Rad.rgens j) ++ is [0] := by simp [Rad.rpart, is]
        rw [e]; exact hh2)
      have Hh1 := Lib.hid hh1
      have hP := Rad.gpow_two_lt j
      clear hge1 hgh HC1 HC3 HA1 HA3 hh2 hh3 hh4 hh5 hh1 HB HO HO1 HA2 HC2 HOA
      go_wp2
      go_loopw [5] (fun x wr => ∃ k : Nat, k ≤ n ∧ x = .int .i64 k ∧ Hid (Blk wr g 3 (is (Rad.rgens j) ++ exA)) ∧ Hid (Blk wr h 3 (is (Rad.rpart (Rad.rgens j) (Rad.gpow 2 j) k) ++ exC)) ∧ Hid (Onl non w wr)) (fun x _ => n - (intOf x).toNat)
      case atStart => exact ⟨0, by omega, rfl, HBC, HH, HOC⟩
      case round =>
        clear HBC HH HOC
        obtain ⟨k, hk, rfl, HB, HH, HO⟩ := hrel
        by_cases hlt2 : k < n
        · have gb := Rad.rgens_bytes j
          have pb := Rad.rpart_bytes (a := Rad.gpow 2 j) gb k
          have pl := Rad.rpart_length (Rad.rgens j) (Rad.gpow 2 j) k
          have hlg := HLg.out
          obtain ⟨x, hx⟩ : ∃ x, x = (Rad.rgens j).getD k 0 := ⟨_, rfl⟩
          obtain ⟨y, hy⟩ : ∃ y, y = (Rad.rpart (Rad.rgens j) (Rad.gpow 2 j) k).getD (k + 1) 0 := ⟨_, rfl⟩
          have hxl : x < 256 := by rw [hx]; exact gb.getD k
          have hyl : y < 256 := by rw [hy]; exact pb.getD (k + 1)
          have hcg : wr.cell? ⟨g, k, none⟩ = some (.int .i64 (x : Int)) := HB.out.cell_pre (by rw [hx]; exact is_get (get_getD (by omega)))
          have hch : wr.cell? ⟨h, k + 1, none⟩ = some (.int .i64 (y : Int)) := HH.out.cell_pre (by rw [hy]; exact is_get (get_getD (by omega)))
          have hfh := HH.out.free (k + 1)
          have hM := Rad.gm_lt hxl (Rad.gpow 2 j)
          have hY := bxor y (Rad.gm x (Rad.gpow 2 j)) (by omega) (by omega)
          have HX := Lib.hid hx
          have HY := Lib.hid hy
          have HPl := Lib.hid pl
          clear hx hy gb pb pl hlg
          go_wp2
          have s1 : IntKind.i64.wrap ((k : Int) + 1) = (k : Int) + 1 := IntWalk.i64_in _ (by omega)
          have s2 : 0 ≤ (k : Int) + 1 := by omega
          have s3 : ((k : Int) + 1).toNat = k + 1 := by omega
          refine wp_region_qt 16 (by kernel_rfl) (by kernel_rfl) ?_
          simp only [List.take_succ_cons, List.take_zero, List.drop_succ_cons, List.drop_zero]
          repeat (go_big_quiet_step ((go_at_call 98; exact qsame (rtimes98 x _ _ (by omega) (by omega)))))
          refine wpQuiet_nil ?_
          intro _ hw'
          obtain ⟨nq, rfl⟩ := hw'
          clear s1 s2 s3
          go_wp2
          go_roundw
          case rel =>
            refine ⟨k + 1, by omega, by go_num, Lib.hid (HB.out.set_ne HGH.out _), Lib.hid ?_, Lib.hid ?_⟩
            · have h2 := HH.out.set_pre (i := k + 1) (by rw [is_length, HPl.out, HLg.out]; omega) (.int .i64 ((y ^^^ Rad.gm x (Rad.gpow 2 j) : Nat) : Int))
              rw [is_set] at h2
              have e : Rad.rpart (Rad.rgens j) (Rad.gpow 2 j) (k + 1) = (Rad.rpart (Rad.rgens j) (Rad.gpow 2 j) k).set (k + 1) (y ^^^ Rad.gm x (Rad.gpow 2 j)) := by
                rw [HX.out, HY.out]; rfl
              rw [e]
              exact h2
            · exact (HO.out.set ⟨h, k + 1, none⟩ _ (fun h2 => absurd h2 (by have := Hh1.out; simp; omega))).drewN _
          case measure => simp [intOf]; omega
        · go_wp2
          go_roundw
          case rel =>
            have hkn : k = n := by omega
            refine ⟨j + 1, n + 1, h, c2, by omega, by have := Hn.out; omega, rfl, by go_num, Lib.hid (by rw [Hn.out]), Hh1, Lib.hid ⟨exC, ?_⟩, HO⟩
            have h' := HH.out
            rw [hkn] at h'
            show Blk _ _ _ (is (Rad.rpart (Rad.rgens j) (Rad.gpow 2 j) (Rad.rgens j).length) ++ exC)
            rw [HLg.out]
            exact h'
          case measure => simp [intOf]; omega
    · have hj6 : j = 6 := by omega
      have hn7 : n = 7 := by rw [Hn.out, hj6]
      subst hj6
      subst hn7
      obtain ⟨ex, hB⟩ := HBx.out
      have HB := Lib.hid hB
      clear hB
      go_wp2
      go_ret
      exact ⟨g, c, rfl, Hg.out, ⟨ex, by rw [← Rad.rgens_six]; exact HB.out⟩, HO.out⟩
end Go.Proofs.Ytenngchidlfaeaa
/- The reference's Checks, walked. -/
namespace Go.Proofs.Ytenngchidlfaeaa
open Go.RowKit

theorem RChecks30_no (s : ByteArray) (w : World) (hs : 249 < s.size) (hm : s.size ≤ 9223372036854775807) : Calls Try.prog 30 #[.string s] w fun e w' => e = .returned (.tuple #[.string ⟨#[]⟩, .int .i64 2]) ∧ w = w' := by
  go_enter Try.func30, Try.ntmps30
  go_wp2
  go_ret2
  exact ⟨rfl, rfl⟩

set_option maxRecDepth 100000 in
set_option maxHeartbeats 1000000 in
theorem RChecks30_ok (s : ByteArray) (w : World) (hs : s.size ≤ 249) : Calls Try.prog 30 #[.string s] w fun e w' => e = .returned (.tuple #[.string (sb (Rad.chk (bl s))), .int .i64 0]) ∧ Onl non w w' := by
  go_enter Try.func30, Try.ntmps30
  go_wp2
  go_loopw [4, 5] (fun u v wr => ∃ (o : Option Addr) (c i : Nat), i ≤ s.size ∧ u = .slice o i c ∧ v = .int .i64 i ∧ Hid (Own wr w.heap.size 3 1 o i c (is ((bl s).take i))) ∧ Hid (Onl non w wr)) (fun _ v _ => s.size - (intOf v).toNat)
  case atStart => exact ⟨none, 0, 0, by omega, rfl, rfl, Lib.hid (Own.nil _ _ _ _), Lib.hid (Onl.refl _ _)⟩
  case round =>
    obtain ⟨o, c, i, hi, rfl, rfl, HOw, HO⟩ := hrel
    have hw0 := HO.out.size
    by_cases hlt : i < s.size
    · have HBt := Lib.hid (bl_take s i hlt)
      have hsk : s[i].toNat < 256 := s[i].toNat_lt
      have hnb : ∀ j u, (is [s[i].toNat])[j]? = some u → (wr.alloc (.cells #[.int .i64 (s[i].toNat : Int)] 3)).cell? ((⟨wr.heap.size, 0, none⟩ : Addr).add j) = some u := (Blk.new wr 3 (is [s[i].toNat])).cells
      have HNB := Lib.hid hnb
      have HOx : Hid (Own (wr.alloc (.cells #[.int .i64 (s[i].toNat : Int)] 3)) w.heap.size 3 1 o i c (is ((bl s).take i))) := Lib.hid (HOw.out.alloc _)
      clear hnb
      go_wp2_with (first | (at_builtin; refine wpList_app rfl (.tmp 21) (.tmp 26) 49 rfl w.heap.size 3 (.int .i64 0) 1 8 Try.underlying49 info3 rfl (by decide) _ _ _ _ rfl HOx.out ⟨wr.heap.size, 0, none⟩ 1 1 (is [s[i].toNat]) rfl rfl HNB.out (is_one _) (by omega) (by omega) (by simp; omega) ?_; intro o1 c1 wA hA1 hA2 hA3; have HA1 := Lib.hid hA1; have HA2 := Lib.hid hA2; clear hA1 hA2 hA3))
      go_roundw
      case rel =>
        refine ⟨o1, c1, i + 1, by omega, rfl, by go_num, Lib.hid ?_, Lib.hid ?_⟩
        · rw [HBt.out]
          have h := HA1.out
          simpa [is] using h
        · exact (HO.out.alloc _).trans HA2.out (fun k hk h => by have := HOw.out.lt k h; omega)
      case measure => simp [intOf]; omega
    · have hie : i = s.size := by omega
      have hf : Hid (Own wr w.heap.size 3 1 o s.size c (is (bl s))) := Lib.hid (by
        have h := HOw.out
        rw [hie, List.take_of_length_le (by rw [bl_length]; omega)] at h
        exact h)
      have HOx : Hid (Own (wr.alloc (.cells #[.int .i64 0, .int .i64 0, .int .i64 0, .int .i64 0, .int .i64 0, .int .i64 0] 3)) w.heap.size 3 1 o s.size c (is (bl s))) := Lib.hid (hf.out.alloc _)
      have hnb : ∀ j u, (is [0, 0, 0, 0, 0, 0])[j]? = some u → (wr.alloc (.cells #[.int .i64 0, .int .i64 0, .int .i64 0, .int .i64 0, .int .i64 0, .int .i64 0] 3)).cell? ((⟨wr.heap.size, 0, none⟩ : Addr).add j) = some u := (Blk.new wr 3 (is [0, 0, 0, 0, 0, 0])).cells
      have HNB := Lib.hid hnb
      have HOl : Hid (∀ k, ownOf o k → w.heap.size ≤ k) := Lib.hid (fun k h => (HOw.out.lt k h).1)
      subst hie
      clear hnb hf HOw
      go_wp2_with (first | (at_builtin; refine wpList_app rfl (.tmp 28) (.tmp 29) 49 rfl w.heap.size 3 (.int .i64 0) 1 8 Try.underlying49 info3 rfl (by decide) _ _ _ _ rfl HOx.out ⟨wr.heap.size, 0, none⟩ 6 6 (is [0, 0, 0, 0, 0, 0]) rfl rfl HNB.out (is_one _) (by omega) (by omega) (by simp; omega) ?_; intro o1 c1 wA hA1 hA2 hA3; have HA1 := Lib.hid hA1; have HA2 := Lib.hid hA2; clear hA1 hA2 hA3) | fail)
      have HOA : Hid (Onl non w wA) := Lib.hid ((HO.out.alloc _).trans HA2.out (fun k hk h => by have := HOl.out k h; omega))
      obtain ⟨g, ex, rfl, hg1, hg2, _, _, _⟩ := HA1.out.shape (by omega)
      have HGg := Lib.hid hg1
      have HR0 : Hid (Blk wA g 3 (is (bl s ++ List.replicate 6 0) ++ ex)) := Lib.hid (by
        have e : is (bl s ++ List.replicate 6 0) = is (bl s) ++ is [0, 0, 0, 0, 0, 0] := by simp [is]
        rw [e]; exact hg2)
      have hgl : g < wA.heap.size := hg2.lt
      clear hg1 hg2 HA1 HA2 HNB HOx HOl HO
      refine (rdivisor100 _).mono ?_
      rintro e w3 ⟨b, c3, rfl, hb1, ⟨exb, hb2⟩, hb3⟩
      have HB : Hid (Blk w3 b 3 (is (Rad.gens 6) ++ exb)) := Lib.hid hb2
      have HR : Hid (Blk w3 g 3 (is (bl s ++ List.replicate 6 0) ++ ex)) := Lib.hid (HR0.out.onl hb3 (fun h => h))
      have HO3 : Hid (Onl non w w3) := Lib.hid (HOA.out.trans hb3 (fun _ _ h => h))
      have HGB : Hid (g ≠ b) := Lib.hid (by omega)
      have LB : Hid (Rad.Bytes (bl s ++ List.replicate 6 0)) := Lib.hid ((bl_bytes s).append (Rad.Bytes.replicate 6))
      have LL : Hid ((bl s ++ List.replicate 6 0).length = s.size + 6) := Lib.hid (by simp [bl_length])
      have GL : Hid ((Rad.gens 6).length = 7) := Lib.hid rfl
      clear hb1 hb2 hb3 HR0 HOA hgl
      go_wp2
      go_loopw [7] (fun x wr => ∃ i : Nat, i ≤ s.size ∧ x = .int .i64 i ∧ Hid (Blk wr b 3 (is (Rad.gens 6) ++ exb)) ∧ Hid (Blk wr g 3 (is (Rad.drounds (Rad.gens 6) (bl s ++ List.replicate 6 0) i) ++ ex)) ∧ Hid (Onl non w wr)) (fun x _ => s.size - (intOf x).toNat)
      case atStart => exact ⟨0, by omega, rfl, HB, HR, HO3⟩
      case round =>
        obtain ⟨wo, rfl⟩ : ∃ wo : World, wo = wr := ⟨_, rfl⟩
        clear HB HR HO3
        obtain ⟨i, hi2, rfl, HG, HH, HI⟩ := hrel
        by_cases hlt2 : i < s.size
        · have D1 := Rad.drounds_bytes (g := Rad.gens 6) LB.out i
          have D2 : (Rad.drounds (Rad.gens 6) (bl s ++ List.replicate 6 0) i).length = s.size + 6 := by rw [Rad.drounds_length, LL.out]
          obtain ⟨y, hc⟩ : ∃ y, y = (Rad.drounds (Rad.gens 6) (bl s ++ List.replicate 6 0) i).getD i 0 := ⟨_, rfl⟩
          have hcl : y < 256 := by rw [hc]; exact D1.getD i
          have hch : wo.cell? ⟨g, i, none⟩ = some (.int .i64 (y : Int)) := HH.out.cell_pre (by rw [hc]; exact is_get (get_getD (by omega)))
          have HC := Lib.hid hc
          have HD1 := Lib.hid D1
          have HD2 := Lib.hid D2
          have hd1 : decide ((i : Int) < (s.size : Int)) = true := decide_eq_true (by omega)
          clear hc D1 D2
          go_wp2
          clear hch
          go_loopw [9] (fun x wr => ∃ k : Nat, k ≤ 7 ∧ x = .int .i64 k ∧ Hid (Blk wr b 3 (is (Rad.gens 6) ++ exb)) ∧ Hid (Blk wr g 3 (is (Rad.dpart (Rad.gens 6) y i (Rad.drounds (Rad.gens 6) (bl s ++ List.replicate 6 0) i) k) ++ ex)) ∧ Hid (Onl non w wr)) (fun x _ => 7 - (intOf x).toNat)
          case atStart => exact ⟨0, by omega, rfl, HG, HH, HI⟩
          case round =>
            clear HG HH HI
            obtain ⟨k, hk, rfl, HG, HH, HI⟩ := hrel
            by_cases hlt3 : k < 7
            · have P1 := Rad.dpart_bytes (g := Rad.gens 6) HD1.out hcl i k
              have P2 : (Rad.dpart (Rad.gens 6) y i (Rad.drounds (Rad.gens 6) (bl s ++ List.replicate 6 0) i) k).length = s.size + 6 := by rw [Rad.dpart_length, HD2.out]
              have G1 := Rad.gens_bytes 6
              obtain ⟨x, hx⟩ : ∃ x, x = (Rad.gens 6).getD k 0 := ⟨_, rfl⟩
              obtain ⟨z, hz⟩ : ∃ z, z = (Rad.dpart (Rad.gens 6) y i (Rad.drounds (Rad.gens 6) (bl s ++ List.replicate 6 0) i) k).getD (i + k) 0 := ⟨_, rfl⟩
              have hxl : x < 256 := by rw [hx]; exact G1.getD k
              have hzl : z < 256 := by rw [hz]; exact P1.getD _
              have hcg : wr.cell? ⟨b, k, none⟩ = some (.int .i64 (x : Int)) := HG.out.cell_pre (by rw [hx]; exact is_get (get_getD (by rw [GL.out]; omega)))
              have hch : wr.cell? ⟨g, i + k, none⟩ = some (.int .i64 (z : Int)) := HH.out.cell_pre (by rw [hz]; exact is_get (get_getD (by rw [P2]; omega)))
              have hfh := HH.out.free (i + k)
              have hM := Rad.gm_lt hcl x
              have hY := bxor z (Rad.gm y x) (by omega) (by omega)
              have HX := Lib.hid hx
              have HZ := Lib.hid hz
              have HP2 := Lib.hid P2
              clear hx hz P1 P2 G1
              go_wp2
              have s1 : IntKind.i64.wrap ((i : Int) + (k : Int)) = (i : Int) + (k : Int) := IntWalk.i64_in _ (by omega)
              have s2 : 0 ≤ (i : Int) + (k : Int) := by omega
              have s3 : ((i : Int) + (k : Int)).toNat = i + k := by omega
              refine wp_region_qt 18 (by kernel_rfl) (by kernel_rfl) ?_
              simp only [List.take_succ_cons, List.take_zero, List.drop_succ_cons, List.drop_zero]
              repeat (go_big_quiet_step (first | (go_at_call 98; exact qsame (rtimes98 y _ _ (by omega) (by omega)))))
              refine wpQuiet_nil ?_
              intro _ hw'
              obtain ⟨nq, rfl⟩ := hw'
              clear s1 s2 s3
              go_wp2
              go_roundw
              case rel =>
                refine ⟨k + 1, by omega, by go_num, Lib.hid (HG.out.set_ne HGB.out.symm _), Lib.hid ?_, Lib.hid ?_⟩
                · have h2 := HH.out.set_pre (i := i + k) (by rw [is_length, HP2.out]; omega) (.int .i64 ((z ^^^ Rad.gm y x : Nat) : Int))
                  rw [is_set, HZ.out, HX.out] at h2
                  rw [HZ.out, HX.out]
                  exact h2
                · refine (HI.out.set ⟨g, i + k, none⟩ _ (fun h => absurd h ?_)).drewN _
                  have h3 := HGg.out
                  show ¬ g < w.heap.size
                  omega
              case measure => simp [intOf]; omega
            · go_wp2
              go_roundw
              case rel =>
                have hk7 : k = 7 := by omega
                refine ⟨i + 1, by omega, by go_num, HG, Lib.hid ?_, HI⟩
                have h := HH.out
                rw [hk7, HC.out] at h
                exact h
              case measure => simp [intOf]; omega
        · have hi3 : i = s.size := by omega
          have HF : Hid (Blk wo g 3 (is (Rad.drounds (Rad.gens 6) (bl s ++ List.replicate 6 0) s.size) ++ ex)) := Lib.hid (by rw [← hi3]; exact HH.out)
          obtain ⟨rest, hrest⟩ : ∃ rest, rest = Rad.drounds (Rad.gens 6) (bl s ++ List.replicate 6 0) s.size := ⟨_, rfl⟩
          have hrl : rest.length = s.size + 6 := by rw [hrest, Rad.drounds_length, LL.out]
          have hrb : Rad.Bytes rest := by rw [hrest]; exact Rad.drounds_bytes LB.out _
          have hrc : Rad.chk (bl s) = rest.drop s.size := by rw [hrest, Rad.chk, bl_length]
          rw [← hrest] at HF
          have HRL := Lib.hid hrl
          have HRB := Lib.hid hrb
          have HRC := Lib.hid hrc
          have HF0 : Hid (g < wo.heap.size) := Lib.hid HF.out.lt
          clear hrest hrl hrb hrc hi3 HH
          go_wp2
          go_loopw [10, 11] (fun u v wr => ∃ (o : Option Addr) (c i : Nat), i ≤ 6 ∧ u = .slice o i c ∧ v = .int .i64 (s.size + i) ∧ Hid (Own wr wo.heap.size 5 1 o i c (bs ((rest.drop s.size).take i))) ∧ Hid (Blk wr g 3 (is rest ++ ex)) ∧ Hid (Onl non w wr) ∧ Hid (wo.heap.size ≤ wr.heap.size)) (fun _ v _ => s.size + 6 - (intOf v).toNat)
          case atStart => exact ⟨none, 0, 0, by omega, rfl, by simp, Lib.hid (Own.nil _ _ _ _), HF, HI, Lib.hid (Nat.le_refl _)⟩
          case round =>
            clear HF
            obtain ⟨o, c5, i5, hi5, rfl, rfl, HOw, HH, HJ, HS⟩ := hrel
            have hgl := HH.out.lt
            have hws := HS.out
            by_cases hlt5 : i5 < 6
            · obtain ⟨z, hz⟩ : ∃ z, z = rest.getD (s.size + i5) 0 := ⟨_, rfl⟩
              have hzl : z < 256 := by rw [hz]; exact HRB.out.getD _
              have hch : wr.cell? ⟨g, s.size + i5, none⟩ = some (.int .i64 (z : Int)) := HH.out.cell_pre (by rw [hz]; exact is_get (get_getD (by rw [HRL.out]; omega)))
              have hw8 := u8w hzl
              have hnb : ∀ j u, (bs [z])[j]? = some u → (wr.alloc (.cells #[.int .u8 (z : Int)] 5)).cell? ((⟨wr.heap.size, 0, none⟩ : Addr).add j) = some u := (Blk.new wr 5 (bs [z])).cells
              have HNB := Lib.hid hnb
              have HOx : Hid (Own (wr.alloc (.cells #[.int .u8 (z : Int)] 5)) wo.heap.size 5 1 o i5 c5 (bs ((rest.drop s.size).take i5))) := Lib.hid (HOw.out.alloc _)
              have HT : Hid ((rest.drop s.size).take (i5 + 1) = (rest.drop s.size).take i5 ++ [z]) := Lib.hid (by
                rw [take_succ_getD (by rw [List.length_drop, HRL.out]; omega), hz]
                congr 2
                simp [List.getD_eq_getElem?_getD, List.getElem?_drop])
              have HZ := Lib.hid hz
              have hx0 : (0 : Int) ≤ (s.size : Int) + (i5 : Int) := by omega
              clear hnb hz
              go_wp2_with (first | (at_builtin; refine wpList_app rfl (.tmp 74) (.tmp 80) 57 rfl wo.heap.size 5 (.int .u8 0) 1 1 Try.underlying57 info5 rfl (by decide) _ _ _ _ rfl HOx.out ⟨wr.heap.size, 0, none⟩ 1 1 (bs [z]) rfl rfl HNB.out (bs_one _) (by omega) (by omega) (by simp; omega) ?_; intro o1 c1 wA hA1 hA2 hA3; have HA1 := Lib.hid hA1; have HA2 := Lib.hid hA2; clear hA1 hA2 hA3))
              go_roundw
              case rel =>
                refine ⟨o1, c1, i5 + 1, by omega, rfl, valInt (by omega), Lib.hid ?_, Lib.hid ?_, Lib.hid ?_, Lib.hid ?_⟩
                · rw [HT.out]
                  have h := HA1.out
                  simpa [bs] using h
                · exact (HH.out.alloc _).onl HA2.out (fun h => by have := HOw.out.lt g h; have := HF0.out; omega)
                · exact (HJ.out.alloc _).trans HA2.out (fun k hk h => by have := HOw.out.lt k h; have := HI.out.size; omega)
                · have := HA2.out.size; simp at this; omega
              case measure => simp [intOf]; omega
            · have h6 : i5 = 6 := by omega
              subst h6
              have hdl : (rest.drop s.size).length = 6 := by rw [List.length_drop, HRL.out]; omega
              obtain ⟨g2, ex2, rfl, hg1, hg2, _, _, _⟩ := HOw.out.shape (by omega)
              rw [List.take_of_length_le (by omega)] at hg2
              have hcv := conv_back wr g2 0 c5 (rest.drop s.size) (fun b hb => HRB.out b (List.mem_of_mem_drop hb)) (by
                intro j hj
                rw [Nat.zero_add]
                exact hg2.cell_pre (bs_get (get_getD hj)))
              rw [hdl, ← HRC.out] at hcv
              clear hdl hg1 hg2
              go_wp2
              go_ret2
              exact ⟨rfl, HJ.out⟩
end Go.Proofs.Ytenngchidlfaeaa
/- The reference's Encode; Apart of both; with; walked. -/
namespace Go.Proofs.Ytenngchidlfaeaa
open Go.RowKit

set_option maxRecDepth 100000 in
theorem encode89 (o n p q : Nat) (s : ByteArray) (w : World) (h : OkF o n p q s.size) :
    Calls Try.prog 89 #[.agg #[.int .i64 o, .int .i64 n, .int .i64 p, .int .i64 q, .string s]] w fun e w' => e = .returned (.string (sb (enc o n p q s))) ∧ Onl non w w' := by
  obtain ⟨⟨h1, h2⟩, ⟨h3, h4⟩, ⟨h5, h6⟩, ⟨h7, h8⟩, h9, h10, h11⟩ := h
  have b1 := u8w (a := o) (by omega)
  have b2 := u8w (a := n) (by omega)
  have b3 := u8w (a := p) (by omega)
  have b4 := u8w (a := q) (by omega)
  clear h10 h11
  obtain ⟨w1, hw1⟩ : ∃ w1, w1 = w.alloc (.cells #[.int .i64 (o : Int), .int .i64 n, .int .i64 p, .int .i64 q, .string s] 23) := ⟨_, rfl⟩
  have hcv : (convert 57 9 (.slice (some ⟨w.heap.size + 1, 0, none⟩) 4 4)).run Try.prog (w1.alloc (.cells #[.int .u8 o, .int .u8 n, .int .u8 p, .int .u8 q] 5)) = .ok (.string (sb [o, n, p, q])) (w1.alloc (.cells #[.int .u8 o, .int .u8 n, .int .u8 p, .int .u8 q] 5)) := by
    have e : w.heap.size + 1 = w1.heap.size := by rw [hw1]; simp
    rw [e]
    exact conv_back (w1.alloc (.cells (bs [o, n, p, q]).toArray 5)) w1.heap.size 0 4 [o, n, p, q] (by intro b hb; simp at hb; omega) (by
      intro j hj
      rw [Nat.zero_add]
      exact (Blk.new w1 5 (bs [o, n, p, q])).cell' (bs_get (get_getD hj)))
  rw [hw1] at hcv
  clear hw1 w1
  have hsz : (sb [o, n, p, q]).size + s.size ≤ 9223372036854775807 := by rw [sb_size]; simp; omega
  go_enter Try.func89, Try.ntmps89
  go_wp2_with fail
  refine (RChecks30_ok _ _ (by rw [ByteArray.size_append, sb_size]; simp; omega)).mono ?_
  rintro e w2 ⟨rfl, h2'⟩
  have hsz2 : (sb [o, n, p, q]).size + s.size + (sb (Rad.chk (bl (sb [o, n, p, q] ++ s)))).size ≤ 9223372036854775807 := by rw [sb_size, sb_size, Rad.chk_length]; simp; omega
  have HO2 : Hid (Onl non w w2) := Lib.hid ((((Onl.refl non w).alloc _).alloc _).trans h2' (fun _ _ h => h))
  clear h2' hcv
  have HE : Hid (sb [o, n, p, q] ++ s ++ sb (Rad.chk (bl (sb [o, n, p, q] ++ s))) = sb (enc o n p q s)) := Lib.hid (by
    have hb : Rad.Bytes (fbytes o n p q s) := fbytes_bytes s (by omega) (by omega) (by omega) (by omega)
    rw [sb_append [o, n, p, q] s]
    show sb (fbytes o n p q s) ++ sb (Rad.chk (bl (sb (fbytes o n p q s)))) = _
    rw [bl_sb hb, sb_append_sb (Rad.chk_bytes hb)]; rfl)
  go_wp2
  go_ret
  exact ⟨by rw [← HE.out]; rfl, HO2.out⟩
set_option maxRecDepth 100000 in
theorem REncode19_ok (o n p q : Nat) (s : ByteArray) (w : World) (h : OkF o n p q s.size) :
    Calls Try.prog 19 #[.agg #[.int .i64 o, .int .i64 n, .int .i64 p, .int .i64 q, .string s]] w fun e w' => e = .returned (.tuple #[.string (sb (enc o n p q s)), .int .i64 0]) ∧ Onl non w w' := by
  have HF := Lib.hid h
  clear h
  go_enter Try.func19, Try.ntmps19
  go_wp2_with fail
  refine (RCheckFrame_ok _ _ _ _ _ _ HF.out).mono ?_
  rintro e w1 ⟨rfl, h1⟩
  have hB := (Blk.new w 23 [.int .i64 o, .int .i64 n, .int .i64 p, .int .i64 q, .string s]).onl h1 (fun h => h)
  have hc0 := hB.cell' (i := 0) rfl
  have hc1 := hB.cell' (i := 1) rfl
  have hc2 := hB.cell' (i := 2) rfl
  have hc3 := hB.cell' (i := 3) rfl
  have hc4 := hB.cell' (i := 4) rfl
  have HO1 : Hid (Onl non w w1) := Lib.hid (((Onl.refl non w).alloc _).trans h1 (fun _ _ h => h))
  clear h1 hB
  go_wp2_with fail
  refine (encode89 o n p q s _ HF.out).mono ?_
  rintro e w2 ⟨rfl, h2⟩
  have HO2 : Hid (Onl non w w2) := Lib.hid (HO1.out.trans h2 (fun _ _ h => h))
  clear h2
  go_wp2
  go_ret2
  exact ⟨rfl, HO2.out⟩
theorem REncode19_no (o n p q : Int) (s : ByteArray) (w : World) (hs : s.size ≤ 9223372036854775807) (h : ¬ OkF o n p q s.size) :
    Calls Try.prog 19 #[.agg #[.int .i64 o, .int .i64 n, .int .i64 p, .int .i64 q, .string s]] w fun e w' => e = .returned (.tuple #[.string ⟨#[]⟩, .int .i64 90]) ∧ Onl non w w' := by
  have HF := Lib.hid h
  clear h
  go_enter Try.func19, Try.ntmps19
  go_wp2_with fail
  refine (RCheckFrame_no _ _ _ _ _ _ hs HF.out).mono ?_
  rintro e w1 ⟨rfl, h1⟩
  have HO1 : Hid (Onl non w w1) := Lib.hid (((Onl.refl non w).alloc _).trans h1 (fun _ _ h => h))
  clear h1
  go_wp2
  go_ret2
  exact ⟨rfl, HO1.out⟩

theorem dist_snoc (l m : List Nat) (k : Nat) (h1 : k < l.length) (h2 : k < m.length) : Rad.dist (l.take (k + 1)) (m.take (k + 1)) = Rad.dist (l.take k) (m.take k) + if l[k] = m[k] then 0 else 1 := by
  induction k generalizing l m with
  | zero =>
    match l, m, h1, h2 with
    | a :: l, b :: m, _, _ => simp [Rad.dist]
  | succ k ih =>
    match l, m, h1, h2 with
    | a :: l, b :: m, h1, h2 =>
      have := ih l m (by simpa using h1) (by simpa using h2)
      simp only [List.take_succ_cons, Rad.dist, List.getElem_cons_succ] at this ⊢
      rw [this]; omega
theorem u8_ne_bne {a b : UInt8} (h : a.toNat ≠ b.toNat) : (((a.toNat : Nat) : Int) != (b.toNat : Int)) = true := by rw [bne_iff_ne]; omega

set_option maxRecDepth 100000 in
theorem Apart31_eq (s t : ByteArray) (w : World) (hst : s.size = t.size) (hs : s.size ≤ 9223372036854775807) : Calls Try.prog 31 #[.string s, .string t] w fun e w' => e = .returned (.tuple #[.int .i64 (Rad.dist (bl s) (bl t)), .bool true]) ∧ Drw w w' := by
  have hb : ((s.size : Int) != (t.size : Int)) = false := eq_bne hst
  have HST := Lib.hid hst
  have hs1 : s.size ≤ t.size := by omega
  have hs2 : t.size ≤ s.size := by omega
  clear hst
  go_enter Try.func31, Try.ntmps31
  go_wp2
  go_loopw [6, 15] (fun u v wr => ∃ x k : Nat, x ≤ k ∧ k ≤ s.size ∧ u = .int .i64 x ∧ v = .int .i64 k ∧ Drw w wr ∧ Hid (x = Rad.dist ((bl s).take k) ((bl t).take k))) (fun _ v _ => s.size - (intOf v).toNat)
  case atStart => exact ⟨0, 0, by omega, by omega, rfl, rfl, Drw.refl _, Lib.hid rfl⟩
  case round =>
    obtain ⟨x, k, hx, hk, rfl, rfl, hD, H⟩ := hrel
    by_cases hlt : k < s.size
    · have hlt2 : k < t.size := by omega
      have hS := dist_snoc (bl s) (bl t) k (by rw [bl_length]; exact hlt) (by rw [bl_length]; exact hlt2)
      rw [bl_get s k hlt, bl_get t k hlt2] at hS
      by_cases he : s[k].toNat = t[k].toNat
      · rw [if_pos he] at hS
        have HS := Lib.hid hS
        have hbb := eq_bne he
        clear hS he
        go_wp2
        go_quiet (fail)
        go_wp2
        go_roundw
        case rel => exact ⟨x, k + 1, by omega, by omega, rfl, by go_num, hD.drewN _, Lib.hid (by rw [HS.out, H.out]; rfl)⟩
        case measure => simp [intOf]; omega
      · rw [if_neg he] at hS
        have HS := Lib.hid hS
        have hbb := ne_bne he
        clear hS he
        go_wp2
        go_quiet (fail)
        go_wp2
        go_roundw
        case rel => exact ⟨x + 1, k + 1, by omega, by omega, by go_num, by go_num, hD.drewN _, Lib.hid (by rw [HS.out, H.out])⟩
        case measure => simp [intOf]; omega
    · have hkn : k = s.size := by omega
      have hfin : x = Rad.dist (bl s) (bl t) := by
        rw [H.out, List.take_of_length_le (by rw [bl_length]; omega), List.take_of_length_le (by rw [bl_length]; omega)]
      have HFin := Lib.hid hfin
      clear hfin hkn
      go_wp2
      go_ret2
      exact ⟨by rw [← HFin.out]; rfl, hD⟩
theorem Apart31_ne (s t : ByteArray) (w : World) (hst : s.size ≠ t.size) : Calls Try.prog 31 #[.string s, .string t] w fun e w' => e = .returned (.tuple #[.int .i64 0, .bool false]) ∧ w = w' := by
  have hb : ((s.size : Int) != (t.size : Int)) = true := ne_bne hst
  clear hst
  go_enter Try.func31, Try.ntmps31
  go_wp2
  go_ret2
  exact ⟨rfl, rfl⟩
set_option maxRecDepth 100000 in
theorem RApart32_eq (s t : ByteArray) (w : World) (hst : s.size = t.size) (hs : s.size ≤ 9223372036854775807) : Calls Try.prog 32 #[.string s, .string t] w fun e w' => e = .returned (.tuple #[.int .i64 (Rad.dist (bl s) (bl t)), .bool true]) ∧ Drw w w' := by
  have hb : ((s.size : Int) != (t.size : Int)) = false := eq_bne hst
  have HST := Lib.hid hst
  have hs1 : s.size ≤ t.size := by omega
  have hs2 : t.size ≤ s.size := by omega
  clear hst
  go_enter Try.func32, Try.ntmps32
  go_wp2
  go_loopw [6, 7] (fun u v wr => ∃ x k : Nat, x ≤ k ∧ k ≤ s.size ∧ u = .int .i64 x ∧ v = .int .i64 k ∧ Drw w wr ∧ Hid (x = Rad.dist ((bl s).take k) ((bl t).take k))) (fun _ v _ => s.size - (intOf v).toNat)
  case atStart => exact ⟨0, 0, by omega, by omega, rfl, rfl, Drw.refl _, Lib.hid rfl⟩
  case round =>
    obtain ⟨x, k, hx, hk, rfl, rfl, hD, H⟩ := hrel
    by_cases hlt : k < s.size
    · have hlt2 : k < t.size := by omega
      have hS := dist_snoc (bl s) (bl t) k (by rw [bl_length]; exact hlt) (by rw [bl_length]; exact hlt2)
      rw [bl_get s k hlt, bl_get t k hlt2] at hS
      by_cases he : s[k].toNat = t[k].toNat
      · rw [if_pos he] at hS
        have HS := Lib.hid hS
        have hbb := eq_bne he
        clear hS he
        go_wp2
        go_quiet (fail)
        go_wp2
        go_roundw
        case rel => exact ⟨x, k + 1, by omega, by omega, rfl, by go_num, hD.drewN _, Lib.hid (by rw [HS.out, H.out]; rfl)⟩
        case measure => simp [intOf]; omega
      · rw [if_neg he] at hS
        have HS := Lib.hid hS
        have hbb := ne_bne he
        clear hS he
        go_wp2
        go_quiet (fail)
        go_wp2
        go_roundw
        case rel => exact ⟨x + 1, k + 1, by omega, by omega, by go_num, by go_num, hD.drewN _, Lib.hid (by rw [HS.out, H.out])⟩
        case measure => simp [intOf]; omega
    · have hkn : k = s.size := by omega
      have hfin : x = Rad.dist (bl s) (bl t) := by
        rw [H.out, List.take_of_length_le (by rw [bl_length]; omega), List.take_of_length_le (by rw [bl_length]; omega)]
      have HFin := Lib.hid hfin
      clear hfin hkn
      go_wp2
      go_ret2
      exact ⟨by rw [← HFin.out]; rfl, hD⟩
theorem RApart32_ne (s t : ByteArray) (w : World) (hst : s.size ≠ t.size) : Calls Try.prog 32 #[.string s, .string t] w fun e w' => e = .returned (.tuple #[.int .i64 0, .bool false]) ∧ w = w' := by
  have hb : ((s.size : Int) != (t.size : Int)) = true := ne_bne hst
  clear hst
  go_enter Try.func32, Try.ntmps32
  go_wp2
  go_ret2
  exact ⟨rfl, rfl⟩

theorem blkM_all {w : World} {g : Nat} {t : TypeId} {cs ex : List Value} (h : BlkM w g t (cs ++ ex)) {i : Nat} {v : Value} (hv : cs[i]? = some v) : w.cell? ⟨g, i, none⟩ = some v :=
  h.cell' (by rw [List.getElem?_append_left (List.getElem?_eq_some_iff.1 hv).1]; exact hv)
set_option maxRecDepth 100000 in
theorem rwith153 (s : ByteArray) (i e : Nat) (w : World) (hi : i < s.size) (_hs : s.size < 1000) (he : e < 256) : Calls Try.prog 153 #[.string s, .int .i64 i, .int .i64 e] w fun e' w' => e' = .returned (.string (sb (Rad.flip (bl s) (i, e)))) ∧ Onl non w w' := by
  obtain ⟨c, o, hcs, hconv, hB⟩ := bytes_made w s
  obtain ⟨w1, hw1⟩ : ∃ w1, w1 = w.drew.alloc o := ⟨_, rfl⟩
  rw [← hw1] at hconv hB
  have HO1 : Hid (Onl non w w1) := Lib.hid (by rw [hw1]; exact ((Onl.refl non w).drew).alloc _)
  clear hw1
  obtain ⟨x, hx⟩ : ∃ x, x = (bl s).getD i 0 := ⟨_, rfl⟩
  have hxl : x < 256 := by rw [hx]; exact (bl_bytes s).getD i
  have hcx : w1.cell? ⟨w.heap.size, i, none⟩ = some (.int .u8 (x : Int)) := hB.cell' (bs_get (by rw [List.getElem?_append_left (by rw [bl_length]; omega), get_getD (by rw [bl_length]; omega), hx]))
  have hfx : w1.frozen? ⟨w.heap.size, i, none⟩ = false := hB.free (by rw [bs_length, List.length_append, bl_length]; omega)
  have hw8 := u8w he
  have hX := bxor8 x e hxl he
  have hcv : (convert 57 9 (.slice (some ⟨w.heap.size, 0, none⟩) s.size c)).run Try.prog (w1.setCell ⟨w.heap.size, i, none⟩ (.int .u8 ((x ^^^ e : Nat) : Int))) = .ok (.string (sb (Rad.flip (bl s) (i, e)))) (w1.setCell ⟨w.heap.size, i, none⟩ (.int .u8 ((x ^^^ e : Nat) : Int))) := by
    have hb2 := hB.set i (.int .u8 ((x ^^^ e : Nat) : Int))
    rw [bs_set, List.set_append_left _ _ (by rw [bl_length]; omega)] at hb2
    have hfl : (Rad.flip (bl s) (i, e)).length = s.size := by rw [Rad.flip_length, bl_length]
    have h := conv_back (w1.setCell ⟨w.heap.size, i, none⟩ (.int .u8 ((x ^^^ e : Nat) : Int))) w.heap.size 0 c (Rad.flip (bl s) (i, e)) (Rad.flip_bytes (bl_bytes s) he) (by
      intro j hj
      rw [Nat.zero_add]
      refine hb2.cell' (bs_get ?_)
      rw [List.getElem?_append_left (by simpa [Rad.flip] using hj), hx]
      exact get_getD hj)
    rw [hfl] at h
    exact h
  have HX := Lib.hid hx
  clear hx hB
  go_enter Try.func153, Try.ntmps153
  go_wp2
  go_ret
  exact ⟨rfl, HO1.out.set ⟨w.heap.size, i, none⟩ _ (fun h => absurd h (by simp))⟩
end Go.Proofs.Ytenngchidlfaeaa
/- The reference's agrees, walked. -/
namespace Go.Proofs.Ytenngchidlfaeaa
open Go.RowKit

set_option maxRecDepth 100000 in
theorem agrees152 (v : List Nat) (l : List (Nat × Nat)) (m gv cv gp cp gw cw : Nat) (exv : List Value) (w : World) (hv : v.length = 6) (hm : m = l.length) (hm2 : m < 1000) (hl : Rad.Pairs l)
    (hV : Blk w gv 3 (is v ++ exv)) (hP : Blk w gp 3 (is (l.map (·.1)))) (hW : Blk w gw 3 (is (l.map (·.2)))) :
    Calls Try.prog 152 #[.slice (some ⟨gv, 0, none⟩) 6 cv, .slice (some ⟨gp, 0, none⟩) m cp, .slice (some ⟨gw, 0, none⟩) m cw] w fun e w' => e = .returned (.bool (Rad.expl l v)) ∧ w = w' := by
  have HV := Lib.hid hV
  have HP := Lib.hid hP
  have HW := Lib.hid hW
  have HM := Lib.hid hm
  have HL := Lib.hid hl
  have HVl := Lib.hid hv
  clear hV hP hW hm hl hv
  go_enter Try.func152, Try.ntmps152
  go_wp2
  go_loop [7] (fun x => ∃ j : Nat, j ≤ 6 ∧ x = .int .i64 j ∧ Hid (∀ i, i < j → Rad.syn l i = v.getD i 0)) (fun x => 6 - (intOf x).toNat)
  case atStart => exact ⟨0, by omega, rfl, Lib.hid (fun i hi => absurd hi (by omega))⟩
  case round =>
    obtain ⟨j, hj, rfl, HS⟩ := hrel
    by_cases hlt : j < 6
    · have hd6 : decide ((j : Int) < 6) = true := decide_eq_true (by omega)
      go_wp2
      go_loop [8, 9] (fun u x => ∃ k y : Nat, k ≤ m ∧ y < 256 ∧ u = .int .i64 y ∧ x = .int .i64 k ∧ Hid (y = Rad.syn (l.take k) j)) (fun _ x => m - (intOf x).toNat)
      case atStart => exact ⟨0, 0, by omega, by omega, rfl, rfl, Lib.hid rfl⟩
      case round =>
        obtain ⟨k, y, hk, hy, rfl, rfl, HY⟩ := hrel
        by_cases hlt2 : k < m
        · have hkl : k < l.length := by have := HM.out; omega
          obtain ⟨p, hp⟩ : ∃ p, l[k]? = some p := ⟨_, List.getElem?_eq_getElem hkl⟩
          have hpp := HL.out p (List.mem_of_getElem? hp)
          have hc1 : w.cell? ⟨gp, k, none⟩ = some (.int .i64 (p.1 : Int)) := HP.out.cell' (is_get (by rw [List.getElem?_map, hp]; rfl))
          have hc2 : w.cell? ⟨gw, k, none⟩ = some (.int .i64 (p.2 : Int)) := HW.out.cell' (is_get (by rw [List.getElem?_map, hp]; rfl))
          have HT : Hid (Rad.syn (l.take (k + 1)) j = y ^^^ Rad.gm p.2 (Rad.gpow p.1 j)) := Lib.hid (by
            have e : l.take (k + 1) = l.take k ++ [p] := by
              rw [List.take_succ_eq_append_getElem hkl]
              rw [List.getElem?_eq_getElem hkl] at hp
              rw [Option.some.inj hp]
            rw [e, syn_snoc, ← HY.out])
          obtain ⟨px, pe⟩ := p
          obtain ⟨g1, g2⟩ := hpp
          dsimp only at g1 g2 hc1 hc2 HT
          have hd2 : decide ((k : Int) < (m : Int)) = true := decide_eq_true (by omega)
          have HPk := Lib.hid hp
          clear hp hkl
          go_wp2
          go_loop [10, 11] (fun u x => ∃ q z : Nat, q ≤ j ∧ z < 256 ∧ u = .int .i64 z ∧ x = .int .i64 q ∧ Hid (z = Rad.gm pe (Rad.gpow px q))) (fun _ x => j - (intOf x).toNat)
          case atStart => exact ⟨0, pe, by omega, g2, rfl, rfl, Lib.hid (Rad.gm_one_right pe).symm⟩
          case round =>
            obtain ⟨q, z, hq, hz, rfl, rfl, HZ⟩ := hrel
            by_cases hlt3 : q < j
            · have hM := Rad.gm_lt hz px
              go_wp2_with (go_at_call 98; refine (rtimes98 z px _ (by omega) (by omega)).mono ?_; rintro e w' ⟨rfl, rfl⟩)
              go_round
              case rel =>
                refine ⟨q + 1, _, by omega, hM, rfl, by go_num, Lib.hid ?_⟩
                rw [HZ.out, Rad.gm_assoc g2 (Rad.gpow_lt g1 q) g1]; rfl
              case measure => simp [intOf]; omega
            · have hqj : q = j := by omega
              have hX := bxor y z (by omega) (by omega)
              have hYZ := Rad.xor_lt hy hz
              have HQ := Lib.hid hqj
              clear hqj
              go_wp2
              go_round
              case rel => exact ⟨k + 1, _, by omega, hYZ, rfl, by go_num, Lib.hid (by rw [HT.out, HZ.out, HQ.out])⟩
              case measure => simp [intOf]; omega
        · obtain ⟨z, hz⟩ : ∃ z, z = v.getD j 0 := ⟨_, rfl⟩
          have hcv : w.cell? ⟨gv, j, none⟩ = some (.int .i64 (z : Int)) := HV.out.cell_pre (is_get (by rw [hz]; exact get_getD (by rw [HVl.out]; omega)))
          have HZ := Lib.hid hz
          clear hz
          have hkm : k = m := by omega
          have HY2 : Hid (y = Rad.syn l j) := Lib.hid (by rw [HY.out, hkm, HM.out, List.take_length])
          by_cases hyz : y = z
          · have hb := eq_bne hyz
            have HYZ := Lib.hid hyz
            clear hyz hkm
            go_wp2
            go_round
            case rel =>
              refine ⟨j + 1, by omega, by go_num, Lib.hid ?_⟩
              intro i hi
              by_cases hij : i = j
              · rw [hij, ← HY2.out, HYZ.out, HZ.out]
              · exact HS.out i (by omega)
            case measure => simp [intOf]; omega
          · have hb := ne_bne hyz
            have HYZ := Lib.hid hyz
            clear hyz hkm
            go_wp2
            go_ret
            refine ⟨retBool (Eq.symm ?_), rfl⟩
            apply Bool.eq_false_iff.2
            intro hx
            have := (Rad.expl_iff _ _).1 hx j hlt
            rw [← HY2.out, ← HZ.out] at this
            exact HYZ.out this
    · go_wp2
      go_ret
      refine ⟨retBool (Eq.symm ?_), rfl⟩
      exact (Rad.expl_iff _ _).2 (fun i hi => HS.out i (by omega))
end Go.Proofs.Ytenngchidlfaeaa
/- The reference's word, walked. -/
namespace Go.Proofs.Ytenngchidlfaeaa
open Go.RowKit

theorem Blk.new2 (w : World) (a : Obj) (t : TypeId) (cs : List Value) : Blk ((w.alloc a).alloc (.cells cs.toArray t)) (w.heap.size + 1) t cs := by
  have h := Blk.new (w.alloc a) t cs
  rwa [World.size_alloc] at h
/-- what word hands back -/
def WordPost (L : List Nat) (e : Ending) : Prop := (∃ t, e = .returned (.tuple #[.string t, .bool true]) ∧ Rad.Near L (bl t)) ∨ (e = .returned (.tuple #[.string ⟨#[]⟩, .bool false]) ∧ ∀ x, ¬ Rad.Near L x)
/-- the places as powers -/
def xsOf (n : Nat) : List Nat := (List.range n).map fun i => Rad.gpow 2 (n - 1 - i)
theorem xsOf_length (n : Nat) : (xsOf n).length = n := by simp [xsOf]
theorem xsOf_getD {n i : Nat} (h : i < n) : (xsOf n).getD i 0 = Rad.gpow 2 (n - 1 - i) := by
  simp [xsOf, List.getD_eq_getElem?_getD, h]

set_option maxRecDepth 100000 in
set_option maxHeartbeats 3000000 in
theorem word92 (s : ByteArray) (w : World) (hs1 : 1 ≤ s.size) (hs : s.size ≤ 255) : Calls Try.prog 92 #[.string s] w fun e w' => WordPost (bl s) e ∧ Onl non w w' := by
  obtain ⟨L, hL⟩ : ∃ L, L = bl s := ⟨_, rfl⟩
  have HLb : Hid (Rad.Bytes L) := Lib.hid (by rw [hL]; exact bl_bytes s)
  have HLl : Hid (L.length = s.size) := Lib.hid (by rw [hL, bl_length])
  obtain ⟨V, hV⟩ : ∃ V, V = vals L 6 := ⟨_, rfl⟩
  have HVl : Hid (V.length = 6) := Lib.hid (by rw [hV, vals_length])
  have HVb : Hid (Rad.Bytes V) := Lib.hid (by rw [hV]; exact vals_bytes L HLb.out)
  have HVv : Hid (∀ j, j < 6 → V.getD j 0 = Rad.val L (Rad.gpow 2 j)) := Lib.hid (by rw [hV]; exact vals_val L HLb.out)
  have HVg : Hid (∀ j, j < 6 → V.getD j 0 = Rad.horner (Rad.gpow 2 j) 0 (bl s)) := Lib.hid (by intro j hj; rw [hV, vals_getD, if_pos ⟨hj, hj⟩, hL])
  have HL := Lib.hid hL
  rw [← hL]
  clear hV hL
  go_enter Try.func92, Try.ntmps92
  go_wp2
  go_loopw [5, 6] (fun u v wr => ∃ (o : Option Addr) (c j : Nat), j ≤ 6 ∧ u = .slice o j c ∧ v = .int .i64 j ∧ Hid (Own wr w.heap.size 3 1 o j c (is (V.take j))) ∧ Hid (Onl non w wr)) (fun _ v _ => 6 - (intOf v).toNat)
  case atStart => exact ⟨none, 0, 0, by omega, rfl, rfl, Lib.hid (Own.nil _ _ _ _), Lib.hid (Onl.refl _ _)⟩
  case round =>
    obtain ⟨o, cv, j, hj, rfl, rfl, HOw, HO⟩ := hrel
    have hw0 := HO.out.size
    by_cases hlt : j < 6
    · have hP := Rad.gpow_two_lt j
      go_wp2_with fail
      refine (rpower151 j _ (by omega)).mono ?_
      rintro e w' ⟨rfl, rfl⟩
      go_wp2_with fail
      refine (rvalue150 s (Rad.gpow 2 j) _ hP (by omega)).mono ?_
      rintro e w1 ⟨rfl, hD⟩
      have HO1 : Hid (Onl non w w1) := Lib.hid (HO.out.of_drw hD)
      have HOw1 : Hid (Own w1 w.heap.size 3 1 o j cv (is (V.take j))) := Lib.hid (HOw.out.drw hD)
      have hw1 := HO1.out.size
      obtain ⟨x, hx⟩ : ∃ x, x = Rad.horner (Rad.gpow 2 j) 0 (bl s) := ⟨_, rfl⟩
      rw [← hx]
      have HX : Hid (V.take (j + 1) = V.take j ++ [x]) := Lib.hid (by rw [take_succ_getD (by rw [HVl.out]; exact hlt), HVg.out j hlt, hx])
      have hnb : ∀ i u, (is [x])[i]? = some u → (w1.alloc (.cells #[.int .i64 (x : Int)] 3)).cell? ((⟨w1.heap.size, 0, none⟩ : Addr).add i) = some u := (Blk.new w1 3 (is [x])).cells
      have HNB := Lib.hid hnb
      have HOx : Hid (Own (w1.alloc (.cells #[.int .i64 (x : Int)] 3)) w.heap.size 3 1 o j cv (is (V.take j))) := Lib.hid (HOw1.out.alloc _)
      clear hnb hD hx hw0 HO HOw
      go_wp2_with (first | (at_builtin; refine wpList_app rfl (.tmp 21) (.tmp 26) 49 rfl w.heap.size 3 (.int .i64 0) 1 8 Try.underlying49 info3 rfl (by decide) _ _ _ _ rfl HOx.out ⟨w1.heap.size, 0, none⟩ 1 1 (is [x]) rfl rfl HNB.out (is_one _) (by omega) (by omega) (by simp; omega) ?_; intro o1 c1 wA hA1 hA2 hA3; have HA1 := Lib.hid hA1; have HA2 := Lib.hid hA2; clear hA1 hA2 hA3))
      go_roundw
      case rel =>
        refine ⟨o1, c1, j + 1, by omega, rfl, by go_num, Lib.hid ?_, Lib.hid ?_⟩
        · rw [HX.out]
          have h := HA1.out
          simpa [is] using h
        · exact (HO1.out.alloc _).trans HA2.out (fun k hk h => by have := HOw1.out.lt k h; omega)
      case measure => simp [intOf]; omega
    · obtain ⟨wa, rfl⟩ : ∃ wa : World, wa = wr := ⟨_, rfl⟩
      have hj6 : j = 6 := by omega
      subst hj6
      obtain ⟨gv, exv, rfl, hg1, hg2, _, _, _⟩ := HOw.out.shape (by omega)
      rw [List.take_of_length_le (by rw [HVl.out]; omega)] at hg2
      have HBV : Hid (Blk wa gv 3 (is V ++ exv)) := Lib.hid hg2
      clear hg1 hg2 HOw
      go_wp2
      go_loop [7, 8] (fun u v => ∃ (r : Bool) (j : Nat), j ≤ 6 ∧ u = .bool r ∧ v = .int .i64 j ∧ Hid (r = true ↔ ∀ i, i < j → V.getD i 0 = 0)) (fun _ v => 6 - (intOf v).toNat)
      case atStart => exact ⟨true, 0, by omega, rfl, rfl, Lib.hid ⟨fun _ i hi => absurd hi (by omega), fun _ => rfl⟩⟩
      case round =>
        obtain ⟨r, j, hj, rfl, rfl, HR⟩ := hrel
        by_cases hlt : j < 6
        · cases r with
          | false =>
            go_wp2
            go_round
            case rel =>
              refine ⟨false, j + 1, by omega, rfl, by go_num, Lib.hid ⟨(fun h => by cases h), fun h => ?_⟩⟩
              have := HR.out.2 (fun i hi => h i (by omega))
              cases this
            case measure => simp [intOf]; omega
          | true =>
            obtain ⟨z, hz⟩ : ∃ z, z = V.getD j 0 := ⟨_, rfl⟩
            have hcz : wa.cell? ⟨gv, j, none⟩ = some (.int .i64 (z : Int)) := HBV.out.cell_pre (is_get (by rw [hz]; exact get_getD (by rw [HVl.out]; exact hlt)))
            have HZ := Lib.hid hz
            clear hz
            by_cases hz0 : z = 0
            · have hb : ((z : Int) == 0) = true := by rw [hz0]; rfl
              have HZ0 := Lib.hid hz0
              clear hz0
              go_wp2
              go_round
              case rel =>
                refine ⟨true, j + 1, by omega, rfl, by go_num, Lib.hid ⟨fun _ i hi => ?_, fun _ => rfl⟩⟩
                by_cases hij : i = j
                · rw [hij, ← HZ.out, HZ0.out]
                · exact HR.out.1 rfl i (by omega)
              case measure => simp [intOf]; omega
            · have hb : ((z : Int) == 0) = false := ne_beq (b := 0) hz0
              have HZ0 := Lib.hid hz0
              clear hz0
              go_wp2
              go_round
              case rel =>
                refine ⟨false, j + 1, by omega, rfl, by go_num, Lib.hid ⟨(fun h => by cases h), fun h => ?_⟩⟩
                have := h j (by omega)
                rw [← HZ.out] at this
                exact absurd this HZ0.out
              case measure => simp [intOf]; omega
        · have hj6 : j = 6 := by omega
          subst hj6
          cases r with
          | true =>
            go_wp2
            go_ret2
            refine ⟨.inl ⟨s, rfl, ?_⟩, HO.out⟩
            rw [← HL.out]
            exact Rad.near_self HLb.out HVv.out (HR.out.1 (by first | rfl | trivial))
          | false =>
            have HNZ : Hid (∃ i, i < 6 ∧ V.getD i 0 ≠ 0) := Lib.hid (by
              apply Classical.byContradiction
              intro hc
              have : ∀ i, i < 6 → V.getD i 0 = 0 := fun i hi => Classical.byContradiction (fun h => hc ⟨i, hi, h⟩)
              have := HR.out.2 this
              cases this)
            clear HR
            have HGv : Hid (gv < wa.heap.size) := Lib.hid HBV.out.lt
            go_wp2
            go_loopw [9, 10] (fun u v wr => ∃ (o : Option Addr) (c i : Nat), i ≤ s.size ∧ u = .slice o i c ∧ v = .int .i64 i ∧ Hid (Own wr wa.heap.size 3 1 o i c (is ((xsOf s.size).take i))) ∧ Hid (Onl non wa wr)) (fun _ v _ => s.size - (intOf v).toNat)
            case atStart => exact ⟨none, 0, 0, by omega, rfl, rfl, Lib.hid (Own.nil _ _ _ _), Lib.hid (Onl.refl _ _)⟩
            case round =>
              obtain ⟨o, cx, i, hi, rfl, rfl, HOw, HO2⟩ := hrel
              have hw2 := HO2.out.size
              by_cases hlt2 : i < s.size
              · have hpi := Rad.gpow_two_lt (s.size - 1 - i)
                obtain ⟨x, hx⟩ : ∃ x, x = Rad.gpow 2 (s.size - 1 - i) := ⟨_, rfl⟩
                rw [← hx] at hpi
                have HX : Hid ((xsOf s.size).take (i + 1) = (xsOf s.size).take i ++ [x]) := Lib.hid (by rw [take_succ_getD (by rw [xsOf_length]; exact hlt2), xsOf_getD hlt2, hx])
                have hnb : ∀ k u, (is [x])[k]? = some u → (wr.alloc (.cells #[.int .i64 (x : Int)] 3)).cell? ((⟨wr.heap.size, 0, none⟩ : Addr).add k) = some u := (Blk.new wr 3 (is [x])).cells
                have HNB := Lib.hid hnb
                have HOx : Hid (Own (wr.alloc (.cells #[.int .i64 (x : Int)] 3)) wa.heap.size 3 1 o i cx (is ((xsOf s.size).take i))) := Lib.hid (HOw.out.alloc _)
                have hcp : Calls Try.prog 151 #[.int .i64 ((s.size : Int) - 1 - (i : Int))] wr fun e w' => e = .returned (.int .i64 (x : Int)) ∧ wr = w' := by
                  have e : ((s.size : Int) - 1 - (i : Int)) = ((s.size - 1 - i : Nat) : Int) := by omega
                  rw [e, hx]
                  exact rpower151 (s.size - 1 - i) wr (by omega)
                have HCp := Lib.hid hcp
                clear hnb hx hcp
                go_wp2_with (first | (go_at_call 151; refine HCp.out.mono ?_; rintro e w' ⟨rfl, rfl⟩) | (at_builtin; refine wpList_app rfl (.tmp 47) (.tmp 53) 49 rfl wa.heap.size 3 (.int .i64 0) 1 8 Try.underlying49 info3 rfl (by decide) _ _ _ _ rfl HOx.out ⟨wr.heap.size, 0, none⟩ 1 1 (is [x]) rfl rfl HNB.out (is_one _) (by omega) (by omega) (by simp; omega) ?_; intro o1 c1 wA hA1 hA2 hA3; have HA1 := Lib.hid hA1; have HA2 := Lib.hid hA2; clear hA1 hA2 hA3))
                go_roundw
                case rel =>
                  refine ⟨o1, c1, i + 1, by omega, rfl, by go_num, Lib.hid ?_, Lib.hid ?_⟩
                  · rw [HX.out]
                    have h := HA1.out
                    simpa [is] using h
                  · exact (HO2.out.alloc _).trans HA2.out (fun k hk h => by have := HOw.out.lt k h; omega)
                case measure => simp [intOf]; omega
              · obtain ⟨wb, rfl⟩ : ∃ wb : World, wb = wr := ⟨_, rfl⟩
                have hin : i = s.size := by omega
                obtain ⟨gx, exx, rfl, hx1, hx2, _, _, _⟩ := HOw.out.shape (by omega)
                rw [hin, List.take_of_length_le (by rw [xsOf_length]; omega)] at hx2
                have HBX : Hid (Blk wb gx 3 (is (xsOf s.size) ++ exx)) := Lib.hid hx2
                have HBV2 : Hid (Blk wb gv 3 (is V ++ exv)) := Lib.hid (HBV.out.onl HO2.out (fun h => h))
                have HO3 : Hid (Onl non w wb) := Lib.hid (HO.out.trans HO2.out (fun _ _ h => h))
                obtain ⟨v0, hv0⟩ : ∃ v0, v0 = V.getD 0 0 := ⟨_, rfl⟩
                obtain ⟨v1, hv1⟩ : ∃ v1, v1 = V.getD 1 0 := ⟨_, rfl⟩
                have l0 : v0 < 256 := by rw [hv0]; exact HVb.out.getD 0
                have l1 : v1 < 256 := by rw [hv1]; exact HVb.out.getD 1
                have HV0 := Lib.hid hv0
                have HV1 := Lib.hid hv1
                have hi6 : 6 ≤ 6 := Nat.le_refl _
                subst hin
                clear hx1 hx2 HOw hv0 hv1 HBV HO HO2
                go_wp2
                go_loopw [11] (fun x wr => ∃ i : Nat, i ≤ s.size ∧ x = .int .i64 i ∧ Hid (Blk wr gx 3 (is (xsOf s.size) ++ exx)) ∧ Hid (Blk wr gv 3 (is V ++ exv)) ∧ Hid (Onl non w wr) ∧ Hid (∀ i', i' < i → Rad.expl [(Rad.gpow 2 (s.size - 1 - i'), v0)] V ≠ true) ∧ Hid (∀ i', i' < i → ∀ k, i' < k → k < s.size → Rad.expl [(Rad.gpow 2 (s.size - 1 - i'), v0 ^^^ Rad.other s.size v0 v1 i' k), (Rad.gpow 2 (s.size - 1 - k), Rad.other s.size v0 v1 i' k)] V ≠ true)) (fun x _ => s.size - (intOf x).toNat)
                case atStart => exact ⟨0, by omega, rfl, HBX, HBV2, HO3, Lib.hid (fun i' h => absurd h (by omega)), Lib.hid (fun i' h => absurd h (by omega))⟩
                case round =>
                  clear HBX HBV2 HO3 hi hw2 hlt2
                  obtain ⟨wo, rfl⟩ : ∃ wo : World, wo = wr := ⟨_, rfl⟩
                  obtain ⟨i, hi, rfl, HX, HV, HO, HE1, HE2⟩ := hrel
                  by_cases hlt2 : i < s.size
                  · have hd1 : decide ((i : Int) < (s.size : Int)) = true := decide_eq_true (by omega)
                    obtain ⟨x, hx⟩ : ∃ x, x = Rad.gpow 2 (s.size - 1 - i) := ⟨_, rfl⟩
                    have hxl : x < 256 := by rw [hx]; exact Rad.gpow_two_lt _
                    have HXx := Lib.hid hx
                    have hcx : wo.cell? ⟨gx, i, none⟩ = some (.int .i64 (x : Int)) := HX.out.cell_pre (is_get (by rw [get_getD (by rw [xsOf_length]; exact hlt2), xsOf_getD hlt2, hx]))
                    have hcv : wo.cell? ⟨gv, 0, none⟩ = some (.int .i64 (v0 : Int)) := HV.out.cell_pre (is_get (by rw [get_getD (by rw [HVl.out]; omega), HV0.out]))
                    have hcv1 : wo.cell? ⟨gv, 1, none⟩ = some (.int .i64 (v1 : Int)) := HV.out.cell_pre (is_get (by rw [get_getD (by rw [HVl.out]; omega), HV1.out]))
                    have hlx : gx < wo.heap.size := HX.out.lt
                    have hlv : gv < wo.heap.size := HV.out.lt
                    have hA : ∀ wx, Onl non wo wx → ∀ b1 b2 c1 c2, Blk wx b1 3 (is [x]) → Blk wx b2 3 (is [v0]) → Calls Try.prog 152 #[.slice (some ⟨gv, 0, none⟩) 6 cv, .slice (some ⟨b1, 0, none⟩) 1 c1, .slice (some ⟨b2, 0, none⟩) 1 c2] wx fun e w' => e = .returned (.bool (Rad.expl [(x, v0)] V)) ∧ wx = w' := by
                      intro wx h b1 b2 c1 c2 h1 h2
                      exact agrees152 V [(x, v0)] 1 gv cv b1 c1 b2 c2 exv wx HVl.out rfl (by omega) (fun p hp => by simp at hp; subst hp; exact ⟨hxl, l0⟩) (HV.out.onl h (fun h => h)) h1 h2
                    have HC1 : Hid (Calls Try.prog 152 #[.slice (some ⟨gv, 0, none⟩) 6 cv, .slice (some ⟨wo.heap.size, 0, none⟩) 1 1, .slice (some ⟨wo.heap.size + 1, 0, none⟩) 1 1] ((wo.alloc (.cells #[.int .i64 (x : Int)] 3)).alloc (.cells #[.int .i64 (v0 : Int)] 3)).drew fun e w' => e = .returned (.bool (Rad.expl [(x, v0)] V)) ∧ ((wo.alloc (.cells #[.int .i64 (x : Int)] 3)).alloc (.cells #[.int .i64 (v0 : Int)] 3)).drew = w') :=
                      Lib.hid (hA _ (((Onl.refl non wo).alloc _).alloc _).drew _ _ 1 1 ((Blk.new wo 3 (is [x])).alloc _).drew (Blk.new2 wo _ 3 (is [v0])).drew)
                    have HC2 : Hid (Calls Try.prog 152 #[.slice (some ⟨gv, 0, none⟩) 6 cv, .slice (some ⟨wo.heap.size + 1, 0, none⟩) 1 1, .slice (some ⟨wo.heap.size, 0, none⟩) 1 1] ((wo.alloc (.cells #[.int .i64 (v0 : Int)] 3)).alloc (.cells #[.int .i64 (x : Int)] 3)).drew fun e w' => e = .returned (.bool (Rad.expl [(x, v0)] V)) ∧ ((wo.alloc (.cells #[.int .i64 (v0 : Int)] 3)).alloc (.cells #[.int .i64 (x : Int)] 3)).drew = w') :=
                      Lib.hid (hA _ (((Onl.refl non wo).alloc _).alloc _).drew _ _ 1 1 (Blk.new2 wo _ 3 (is [x])).drew ((Blk.new wo 3 (is [v0])).alloc _).drew)
                    clear hA
                    clear hx
                    go_wp2
                    go_cut [70] from 60 to 70 (fun t wx => t = .bool (Rad.expl [(x, v0)] V) ∧ Hid (Onl non wo wx))
                    case first =>
                      go_region_held3 (fun w' => w'.cell? ⟨gx, i, none⟩ = some (.int .i64 (x : Int)) ∧ w'.cell? ⟨gv, 0, none⟩ = some (.int .i64 (v0 : Int))) (go_keep) (first | (go_at_call 152; ((with_reducible refine HC1.out.mono ?_); rintro e w' ⟨rfl, rfl⟩)) | (go_at_call 152; ((with_reducible refine HC2.out.mono ?_); rintro e w' ⟨rfl, rfl⟩)))
                      all_goals
                        go_wp2_with fail
                        go_meet
                        exact ⟨rfl, Lib.hid (((Onl.refl non wo).alloc _).alloc _).drew⟩
                    case rest =>
                      obtain ⟨rfl, HOc⟩ := hcut
                      have HXc : Hid (Blk wc gx 3 (is (xsOf s.size) ++ exx)) := Lib.hid (HX.out.onl HOc.out (fun h => h))
                      have HVc : Hid (Blk wc gv 3 (is V ++ exv)) := Lib.hid (HV.out.onl HOc.out (fun h => h))
                      have HO3 : Hid (Onl non w wc) := Lib.hid (HO.out.trans HOc.out (fun _ _ h => h))
                      clear hcx hcv hcv1 hlx hlv HC1 HC2 HX HV HO HOc
                      by_cases hE : Rad.expl [(x, v0)] V = true
                      · rw [hE]
                        have hcv : wc.cell? ⟨gv, 0, none⟩ = some (.int .i64 (v0 : Int)) := HVc.out.cell_pre (is_get (by rw [get_getD (by rw [HVl.out]; omega), HV0.out]))
                        have hlv : gv < wc.heap.size := HVc.out.lt
                        have HE := Lib.hid hE
                        clear hE
                        go_wp2_with fail
                        refine (rwith153 s i v0 wc hlt2 (by omega) l0).mono ?_
                        rintro e w4 ⟨rfl, hO4⟩
                        have HO4 := Lib.hid (HO3.out.trans hO4 (fun _ _ h => h))
                        clear hO4 hcv hlv
                        go_wp2
                        go_ret2
                        refine ⟨.inl ⟨_, rfl, ?_⟩, HO4.out⟩
                        rw [← HL.out, bl_sb (Rad.flip_bytes HLb.out l0)]
                        exact Rad.near_one HLb.out HVv.out (by rw [HLl.out]; exact hlt2) l0 (by rw [HLl.out, ← HXx.out]; exact HE.out)
                      · have hEf : Rad.expl [(x, v0)] V = false := Bool.eq_false_iff.2 hE
                        rw [hEf]
                        have HE := Lib.hid hE
                        clear hE hEf
                        go_wp2
                        go_loopw [12] (fun z wr => ∃ k : Nat, i < k ∧ k ≤ s.size ∧ z = .int .i64 k ∧ Hid (Blk wr gx 3 (is (xsOf s.size) ++ exx)) ∧ Hid (Blk wr gv 3 (is V ++ exv)) ∧ Hid (Onl non w wr) ∧ Hid (∀ k', i < k' → k' < k → Rad.expl [(Rad.gpow 2 (s.size - 1 - i), v0 ^^^ Rad.other s.size v0 v1 i k'), (Rad.gpow 2 (s.size - 1 - k'), Rad.other s.size v0 v1 i k')] V ≠ true)) (fun z _ => s.size - (intOf z).toNat)
                        case atStart => exact ⟨i + 1, by omega, by omega, by go_num, HXc, HVc, HO3, Lib.hid (fun k' h1 h2 => absurd h1 (by omega))⟩
                        case round =>
                          clear HXc HVc HO3
                          obtain ⟨wk, rfl⟩ : ∃ wk : World, wk = wr := ⟨_, rfl⟩
                          obtain ⟨k, hik, hk, rfl, HX, HV, HO, HK⟩ := hrel
                          by_cases hlk : k < s.size
                          · have hcx : wk.cell? ⟨gx, i, none⟩ = some (.int .i64 (x : Int)) := HX.out.cell_pre (is_get (by rw [get_getD (by rw [xsOf_length]; exact hlt2), xsOf_getD hlt2, HXx.out]))
                            have hcv : wk.cell? ⟨gv, 0, none⟩ = some (.int .i64 (v0 : Int)) := HV.out.cell_pre (is_get (by rw [get_getD (by rw [HVl.out]; omega), HV0.out]))
                            have hcv1 : wk.cell? ⟨gv, 1, none⟩ = some (.int .i64 (v1 : Int)) := HV.out.cell_pre (is_get (by rw [get_getD (by rw [HVl.out]; omega), HV1.out]))
                            obtain ⟨y, hy⟩ : ∃ y, y = Rad.gpow 2 (s.size - 1 - k) := ⟨_, rfl⟩
                            have hcy : wk.cell? ⟨gx, k, none⟩ = some (.int .i64 (y : Int)) := HX.out.cell_pre (is_get (by rw [get_getD (by rw [xsOf_length]; exact hlk), xsOf_getD hlk, hy]))
                            have hyl : y < 256 := by rw [hy]; exact Rad.gpow_two_lt _
                            have hlx : gx < wk.heap.size := HX.out.lt
                            have hlv : gv < wk.heap.size := HV.out.lt
                            obtain ⟨m0, hm0⟩ : ∃ m0, m0 = Rad.gm v0 x := ⟨_, rfl⟩
                            have hm0l : m0 < 256 := by rw [hm0]; exact Rad.gm_lt l0 x
                            obtain ⟨nu, hnu⟩ : ∃ nu, nu = v1 ^^^ m0 := ⟨_, rfl⟩
                            have hnul : nu < 256 := by rw [hnu]; exact Rad.xor_lt l1 hm0l
                            obtain ⟨xy, hxy⟩ : ∃ xy, xy = x ^^^ y := ⟨_, rfl⟩
                            have hxyl : xy < 256 := by rw [hxy]; exact Rad.xor_lt hxl hyl
                            have hne : 0 < xy := by rw [hxy]; exact Nat.pos_of_ne_zero (by rw [HXx.out, hy]; exact Rad.xor_ne (Rad.gpow_ne (by omega) hlt2 (by omega) (by omega)))
                            obtain ⟨iv, hiv⟩ : ∃ iv, iv = Rad.ginv xy := ⟨_, rfl⟩
                            have hivl : iv < 256 := by rw [hiv]; exact Rad.ginv_lt hxyl
                            obtain ⟨b, hb⟩ : ∃ b, b = Rad.gm nu iv := ⟨_, rfl⟩
                            have HOT : Hid (Rad.other s.size v0 v1 i k = b) := Lib.hid (by rw [hb, hnu, hiv, hxy, hm0, HXx.out, hy]; rfl)
                            have HYy := Lib.hid hy
                            have hbl : b < 256 := by rw [← HOT.out]; exact Rad.other_lt l0 l1
                            have x1 : bits .xor .i64 (v1 : Int) (m0 : Int) = (nu : Int) := by
                              have := bxor v1 m0 (by omega) (by omega)
                              rw [← hnu] at this
                              exact this
                            have x2 := bxor x y (by omega) (by omega)
                            rw [← hxy] at x2
                            have X3 := Lib.hid (bxor v0 b (by omega) (by omega))
                            have hA := fun wx => rtimes98 v0 x wx l0 hxl
                            rw [← hm0] at hA
                            have hB := fun wx => rinverse99 xy wx hxyl hne
                            rw [← hiv] at hB
                            have hC := fun wx => rtimes98 nu iv wx hnul hivl
                            rw [← hb] at hC
                            have HA := Lib.hid hA
                            have HB := Lib.hid hB
                            have HC := Lib.hid hC
                            clear hb hy hxy hiv hnu hm0 hA hB hC
                            go_wp2
                            go_quiet ((first | (go_at_call 98; with_reducible exact qsame (HA.out _)) | (go_at_call 99; with_reducible exact qsame (HB.out _)) | (go_at_call 98; with_reducible exact qsame (HC.out _))))
                            obtain ⟨wz, hq⟩ : ∃ wz, wz = wk.drewN nq := ⟨_, rfl⟩
                            rw [← hq]
                            have hD : Drw wk wz := ⟨nq, hq⟩
                            have HXz : Hid (Blk wz gx 3 (is (xsOf s.size) ++ exx)) := Lib.hid (HX.out.drw hD)
                            have HVz : Hid (Blk wz gv 3 (is V ++ exv)) := Lib.hid (HV.out.drw hD)
                            have HOz : Hid (Onl non w wz) := Lib.hid (HO.out.of_drw hD)
                            clear hq hcx hcv hcv1 hcy hlx hlv HX HV HO hD x1 x2 HA HB HC
                            obtain ⟨a, ha⟩ : ∃ a, a = v0 ^^^ b := ⟨_, rfl⟩
                            have hal : a < 256 := by rw [ha]; exact Rad.xor_lt l0 hbl
                            have hcx : wz.cell? ⟨gx, i, none⟩ = some (.int .i64 (x : Int)) := HXz.out.cell_pre (is_get (by rw [get_getD (by rw [xsOf_length]; exact hlt2), xsOf_getD hlt2, HXx.out]))
                            have hcy : wz.cell? ⟨gx, k, none⟩ = some (.int .i64 (y : Int)) := HXz.out.cell_pre (is_get (by rw [get_getD (by rw [xsOf_length]; exact hlk), xsOf_getD hlk, HYy.out]))
                            have hcv : wz.cell? ⟨gv, 0, none⟩ = some (.int .i64 (v0 : Int)) := HVz.out.cell_pre (is_get (by rw [get_getD (by rw [HVl.out]; omega), HV0.out]))
                            have hlx : gx < wz.heap.size := HXz.out.lt
                            have hlv : gv < wz.heap.size := HVz.out.lt
                            have hA : ∀ wx, Onl non wz wx → ∀ b1 b2 c1 c2, Blk wx b1 3 (is [x, y]) → Blk wx b2 3 (is [a, b]) → Calls Try.prog 152 #[.slice (some ⟨gv, 0, none⟩) 6 cv, .slice (some ⟨b1, 0, none⟩) 2 c1, .slice (some ⟨b2, 0, none⟩) 2 c2] wx fun e w' => e = .returned (.bool (Rad.expl [(x, a), (y, b)] V)) ∧ wx = w' := by
                              intro wx h b1 b2 c1 c2 h1 h2
                              refine agrees152 V [(x, a), (y, b)] 2 gv cv b1 c1 b2 c2 exv wx HVl.out rfl (by omega) (fun p hp => ?_) (HVz.out.onl h (fun h => h)) h1 h2
                              simp only [List.mem_cons, List.not_mem_nil, or_false] at hp
                              rcases hp with rfl | rfl
                              · exact ⟨hxl, hal⟩
                              · exact ⟨hyl, hbl⟩
                            have HC1 : Hid (Calls Try.prog 152 #[.slice (some ⟨gv, 0, none⟩) 6 cv, .slice (some ⟨wz.heap.size, 0, none⟩) 2 2, .slice (some ⟨wz.heap.size + 1, 0, none⟩) 2 2] ((wz.alloc (.cells #[.int .i64 (x : Int), .int .i64 (y : Int)] 3)).alloc (.cells #[.int .i64 (a : Int), .int .i64 (b : Int)] 3)).drew fun e w' => e = .returned (.bool (Rad.expl [(x, a), (y, b)] V)) ∧ ((wz.alloc (.cells #[.int .i64 (x : Int), .int .i64 (y : Int)] 3)).alloc (.cells #[.int .i64 (a : Int), .int .i64 (b : Int)] 3)).drew = w') :=
                              Lib.hid (hA _ (((Onl.refl non wz).alloc _).alloc _).drew _ _ 2 2 ((Blk.new wz 3 (is [x, y])).alloc _).drew (Blk.new2 wz _ 3 (is [a, b])).drew)
                            have HC2 : Hid (Calls Try.prog 152 #[.slice (some ⟨gv, 0, none⟩) 6 cv, .slice (some ⟨wz.heap.size + 1, 0, none⟩) 2 2, .slice (some ⟨wz.heap.size, 0, none⟩) 2 2] ((wz.alloc (.cells #[.int .i64 (a : Int), .int .i64 (b : Int)] 3)).alloc (.cells #[.int .i64 (x : Int), .int .i64 (y : Int)] 3)).drew fun e w' => e = .returned (.bool (Rad.expl [(x, a), (y, b)] V)) ∧ ((wz.alloc (.cells #[.int .i64 (a : Int), .int .i64 (b : Int)] 3)).alloc (.cells #[.int .i64 (x : Int), .int .i64 (y : Int)] 3)).drew = w') :=
                              Lib.hid (hA _ (((Onl.refl non wz).alloc _).alloc _).drew _ _ 2 2 (Blk.new2 wz _ 3 (is [x, y])).drew ((Blk.new wz 3 (is [a, b])).alloc _).drew)
                            clear hA
                            have x3 := X3.out
                            rw [← ha] at x3
                            have HAa := Lib.hid ha
                            clear ha X3
                            go_wp2
                            go_cut [125] from 112 to 125 (fun t wx => t = .bool (Rad.expl [(x, a), (y, b)] V) ∧ Hid (Onl non wz wx))
                            case first =>
                              go_region_held3 (fun w' => w'.cell? ⟨gx, i, none⟩ = some (.int .i64 (x : Int)) ∧ w'.cell? ⟨gx, k, none⟩ = some (.int .i64 (y : Int))) (go_keep) (first | (go_at_call 152; ((with_reducible refine HC1.out.mono ?_); rintro e w' ⟨rfl, rfl⟩)) | (go_at_call 152; ((with_reducible refine HC2.out.mono ?_); rintro e w' ⟨rfl, rfl⟩)))
                              all_goals
                                go_wp2_with fail
                                go_meet
                                exact ⟨rfl, Lib.hid (((Onl.refl non wz).alloc _).alloc _).drew⟩
                            case rest =>
                              obtain ⟨rfl, HOc⟩ := hcut
                              have HXc : Hid (Blk wc gx 3 (is (xsOf s.size) ++ exx)) := Lib.hid (HXz.out.onl HOc.out (fun h => h))
                              have HVc : Hid (Blk wc gv 3 (is V ++ exv)) := Lib.hid (HVz.out.onl HOc.out (fun h => h))
                              have HO3 : Hid (Onl non w wc) := Lib.hid (HOz.out.trans HOc.out (fun _ _ h => h))
                              clear hcx hcv hcy hlx hlv HC1 HC2 HXz HVz HOz HOc x3
                              by_cases hE2 : Rad.expl [(x, a), (y, b)] V = true
                              · rw [hE2]
                                have HE2 := Lib.hid hE2
                                clear hE2
                                have hf1 : Hid (Rad.Bytes (Rad.flip (bl s) (i, a))) := Lib.hid (by rw [← HL.out]; exact Rad.flip_bytes HLb.out hal)
                                obtain ⟨s2, hs2⟩ : ∃ s2, s2 = sb (Rad.flip (bl s) (i, a)) := ⟨_, rfl⟩
                                have hz2 : s2.size = s.size := by rw [← bl_length, hs2, bl_sb hf1.out, Rad.flip_length, bl_length]
                                have HS2 := Lib.hid hs2
                                clear hs2
                                go_wp2_with fail
                                refine (rwith153 s i a wc hlt2 (by omega) hal).mono ?_
                                rintro e w4 ⟨rfl, hO4⟩
                                rw [← HS2.out]
                                have HO4 := Lib.hid (HO3.out.trans hO4 (fun _ _ h => h))
                                clear hO4
                                go_wp2_with fail
                                refine (rwith153 s2 k b w4 (by omega) (by omega) hbl).mono ?_
                                rintro e w5 ⟨rfl, hO5⟩
                                have HO5 := Lib.hid (HO4.out.trans hO5 (fun _ _ h => h))
                                clear hO5
                                go_wp2
                                go_ret2
                                refine ⟨.inl ⟨_, rfl, ?_⟩, HO5.out⟩
                                rw [HS2.out, bl_sb hf1.out, bl_sb (Rad.flip_bytes hf1.out hbl), ← HL.out]
                                exact Rad.near_two HLb.out HVv.out (by rw [HLl.out]; exact hlt2) (by rw [HLl.out]; exact hlk) hal hbl (by rw [HLl.out, ← HXx.out, ← HYy.out]; exact HE2.out)
                              · have hEf : Rad.expl [(x, a), (y, b)] V = false := Bool.eq_false_iff.2 hE2
                                rw [hEf]
                                have HE2 := Lib.hid hE2
                                clear hE2 hEf
                                go_wp2
                                go_roundw
                                case rel =>
                                  refine ⟨k + 1, by omega, by omega, by go_num, HXc, HVc, HO3, Lib.hid ?_⟩
                                  intro k' h1 h2
                                  by_cases hkk : k' = k
                                  · subst hkk
                                    rw [HOT.out, ← HXx.out, ← HYy.out, ← HAa.out]
                                    exact HE2.out
                                  · exact HK.out k' h1 (by omega)
                                case measure => simp [intOf]; omega
                          · go_wp2
                            go_roundw
                            case rel =>
                              refine ⟨i + 1, by omega, by go_num, HX, HV, HO, Lib.hid ?_, Lib.hid ?_⟩
                              · intro i' h1
                                by_cases hii : i' = i
                                · subst hii
                                  rw [← HXx.out]
                                  exact HE.out
                                · exact HE1.out i' (by omega)
                              · intro i' h1 k' h2 h3
                                by_cases hii : i' = i
                                · subst hii
                                  exact HK.out k' h2 (by omega)
                                · exact HE2.out i' (by omega) k' h2 h3
                            case measure => simp [intOf]; omega
                  · go_wp2
                    go_ret2
                    refine ⟨.inr ⟨rfl, ?_⟩, HO.out⟩
                    refine Rad.near_not HLb.out (by rw [HLl.out]; exact hs) HVv.out HNZ.out ?_ ?_
                    · intro i' h
                      rw [HLl.out] at h
                      rw [HLl.out, ← HV0.out]
                      exact HE1.out i' (by omega)
                    · intro i' h k' h2 h3
                      rw [HLl.out] at h h3
                      rw [HLl.out, ← HV0.out, ← HV1.out]
                      exact HE2.out i' (by omega) k' h2 h3
end Go.Proofs.Ytenngchidlfaeaa
/- Decode, of the reference, walked. -/
namespace Go.Proofs.Ytenngchidlfaeaa
open Go.RowKit

theorem str_index (t : ByteArray) (i : Nat) (w : World) (h : i < t.size) : (Instr.index 9 (.string t) (.int .i64 (i : Int))).run Try.prog w = .ok (.int .u8 (((bl t).getD i 0 : Nat) : Int)) w := by
  rw [run_index_string w 9 t .i64 _ Try.underlying9, dif_pos (by omega)]
  have e : (bl t).getD i 0 = t[i].toNat := by rw [List.getD_eq_getElem?_getD, List.getElem?_eq_getElem (by rw [bl_length]; exact h), bl_get t i h]; rfl
  rw [e]; rfl
theorem bl_getD (t : ByteArray) (i : Nat) (h : i < t.size) : (bl t).getD i 0 = t[i].toNat := by
  rw [List.getD_eq_getElem?_getD, List.getElem?_eq_getElem (by rw [bl_length]; exact h), bl_get t i h]; rfl
theorem bl_extract (t : ByteArray) (a b : Nat) : bl (t.extract a b) = ((bl t).drop a).take (b - a) := by
  simp [bl, ByteArray.data_extract, List.map_take, List.map_drop]
theorem str_slice (t : ByteArray) (a b n : Nat) (w : World) (h : a ≤ b) (h2 : b ≤ t.size) (hn : n = b - a) : (Instr.slice 9 (.string t) (some (.int .i64 (a : Int))) (some (.int .i64 (b : Int))) none).run Try.prog w = .ok (.string (sb (((bl t).drop a).take n))) w := by
  rw [run_slice_string_if w 9 t .i64 .i64 _ _ Try.underlying9, if_pos (by omega), if_pos (by omega), hn, ← bl_extract, sb_bl]
  rfl

set_option maxRecDepth 100000 in
theorem RDecode21_short (s : ByteArray) (w : World) (hs : s.size ≤ 9223372036854775807) (h : s.size < 10 ∨ 42 < s.size) : Calls Try.prog 21 #[.string s] w fun e w' => e = .returned (decV (dec (bl s))) ∧ Onl non w w' := by
  have hd : dec (bl s) = none := dec_short (by rw [bl_length]; exact h)
  have HD := Lib.hid hd
  clear hd
  rcases h with h | h
  · go_enter Try.func21, Try.ntmps21
    go_wp2
    refine bodyPost_ret (v := .tuple #[.agg #[.int .i64 0, .int .i64 0, .int .i64 0, .int .i64 0, .string ⟨#[]⟩], .int .i64 0, .int .i64 91]) (by simp [results, Try.results21, go_sem]) rfl ⟨?_, ?_⟩
    · rw [HD.out]; rfl
    · exact (Onl.refl non w).alloc _
  · have h2 : 10 ≤ s.size := by omega
    go_enter Try.func21, Try.ntmps21
    go_wp2
    refine bodyPost_ret (v := .tuple #[.agg #[.int .i64 0, .int .i64 0, .int .i64 0, .int .i64 0, .string ⟨#[]⟩], .int .i64 0, .int .i64 91]) (by simp [results, Try.results21, go_sem]) rfl ⟨?_, ?_⟩
    · rw [HD.out]; rfl
    · exact (Onl.refl non w).alloc _

set_option maxRecDepth 100000 in
set_option maxHeartbeats 1000000 in
theorem RDecode21_main (s : ByteArray) (w : World) (h1 : 10 ≤ s.size) (h2 : s.size ≤ 42) : Calls Try.prog 21 #[.string s] w fun e w' => e = .returned (decV (dec (bl s))) ∧ Onl non w w' := by
  obtain ⟨L, hL⟩ : ∃ L, L = bl s := ⟨_, rfl⟩
  have HLl : Hid (L.length = s.size) := Lib.hid (by rw [hL, bl_length])
  have HL := Lib.hid hL
  have HZ1 : Hid (Blk (w.alloc (.cells zfr.toArray 23)) w.heap.size 23 zfr) := Lib.hid (Blk.new w 23 zfr)
  rw [← hL]
  clear hL
  go_enter Try.func21, Try.ntmps21
  go_wp2_with fail
  refine (word92 s _ (by omega) (by omega)).mono ?_
  rintro e w2 ⟨hwp, hO2⟩
  have HZ2 : Hid (Blk w2 w.heap.size 23 zfr) := Lib.hid (HZ1.out.onl hO2 (fun h => h))
  have HO2 : Hid (Onl non w w2) := Lib.hid (((Onl.refl non w).alloc _).trans hO2 (fun _ _ h => h))
  clear hO2 HZ1
  rw [← HL.out] at hwp
  rcases hwp with ⟨t, rfl, hn⟩ | ⟨rfl, hno⟩
  · have hts : t.size = s.size := by rw [← bl_length t, hn.len, HLl.out]
    have hdec : dec L = decOf L (bl t) := dec_near (by rw [HLl.out]; exact h1) (by rw [HLl.out]; exact h2) hn
    have HTS := Lib.hid hts
    have HDec := Lib.hid hdec
    clear hdec hn hts
    obtain ⟨n, hn⟩ : ∃ n, n = s.size := ⟨_, rfl⟩
    rw [← hn] at h1 h2 HTS
    have HN := Lib.hid hn
    clear hn
    have hts := HTS.out
    obtain ⟨d, hd⟩ : ∃ d, d = t.size - 6 := ⟨_, rfl⟩
    have e1 : IntKind.i64.wrap ((t.size : Int) - 6) = (d : Int) := by rw [IntWalk.i64_in _ (by omega)]; omega
    have i0 : 0 < t.size := by omega
    have j1 : 1 < t.size := by omega
    have j2 : 2 < t.size := by omega
    have j3 : 3 < t.size := by omega
    have i1 : (0 : Int) < (t.size : Int) := by omega
    have i2 : (1 : Int) < (t.size : Int) := by omega
    have i3 : (2 : Int) < (t.size : Int) := by omega
    have i4 : (3 : Int) < (t.size : Int) := by omega
    have f1 : (d : Int) ≤ (t.size : Int) := by omega
    have f2 : (4 : Int) ≤ (d : Int) := by omega
    have f3 : d ≤ t.size := by omega
    have f4 : 4 ≤ d := by omega
    have HDd := Lib.hid hd
    have HTS2 : Hid (t.size = s.size) := Lib.hid (by rw [HTS.out, HN.out])
    have hl0 : (t[0]'i0).toNat < 256 := UInt8.toNat_lt _
    have HG0 : Hid ((bl t).getD 0 0 = (t[0]'i0).toNat) := Lib.hid (bl_getD t 0 i0)
    have y0 : wrap64 ((t[0]'i0).toNat : Int) = ((t[0]'i0).toNat : Int) := IntWalk.wrap64_in _ (by omega)
    have hl1 : (t[1]'j1).toNat < 256 := UInt8.toNat_lt _
    have HG1 : Hid ((bl t).getD 1 0 = (t[1]'j1).toNat) := Lib.hid (bl_getD t 1 j1)
    have y1 : wrap64 ((t[1]'j1).toNat : Int) = ((t[1]'j1).toNat : Int) := IntWalk.wrap64_in _ (by omega)
    have hl2 : (t[2]'j2).toNat < 256 := UInt8.toNat_lt _
    have HG2 : Hid ((bl t).getD 2 0 = (t[2]'j2).toNat) := Lib.hid (bl_getD t 2 j2)
    have y2 : wrap64 ((t[2]'j2).toNat : Int) = ((t[2]'j2).toNat : Int) := IntWalk.wrap64_in _ (by omega)
    have hl3 : (t[3]'j3).toNat < 256 := UInt8.toNat_lt _
    have HG3 : Hid ((bl t).getD 3 0 = (t[3]'j3).toNat) := Lib.hid (bl_getD t 3 j3)
    have y3 : wrap64 ((t[3]'j3).toNat : Int) = ((t[3]'j3).toNat : Int) := IntWalk.wrap64_in _ (by omega)
    have HBody : Hid (t.extract 4 d = sb (((bl t).drop 4).take (s.size - 10))) := Lib.hid (by rw [← HTS2.out, ← sb_bl (t.extract 4 d), bl_extract, HDd.out, Nat.sub_sub])
    have HBS : Hid ((t.extract 4 d).size = s.size - 10) := Lib.hid (by rw [HBody.out, sb_size, List.length_take, List.length_drop, bl_length, HTS2.out]; omega)
    clear hts hd
    go_wp2
    refine wp_region_noPanic ?_
    refine wp_region_held_drew (S := fun _ => True) (by kernel_rfl) trivial (fun _ => ?_)
    obtain ⟨wq, hq⟩ : ∃ wq, wq = w2.drew := ⟨_, rfl⟩
    have HZq : Hid (Blk wq w.heap.size 23 zfr) := Lib.hid (by rw [hq]; exact HZ2.out.drew)
    have HOq : Hid (Onl non w wq) := Lib.hid (by rw [hq]; exact HO2.out.drew)
    rw [← hq]
    clear hq HZ2 HO2
    refine wpAnyH_take (i := 0) (v := ?_) rfl (by kernel_rfl) (by kernel_rfl) (by kernel_rfl) (fun _ _ _ h => h) (Or.inl ⟨by rfl, ?_⟩) trivial ?_
    rotate_left
    · intro w hSw; go_simp <;> with_reducible rfl
    simp only [Act.put, List.setIfInBounds_toArray]
    refine wpAnyH_take (i := 1) (v := ?_) rfl (by kernel_rfl) (by kernel_rfl) (by kernel_rfl) (fun _ _ _ h => h) (Or.inl ⟨by rfl, ?_⟩) trivial ?_
    rotate_left
    · intro w hSw; go_simp <;> with_reducible rfl
    simp only [Act.put]
    refine wpAnyH_take (i := 2) (v := ?_) rfl (by kernel_rfl) (by kernel_rfl) (by kernel_rfl) (fun _ _ _ h => h) (Or.inl ⟨by rfl, ?_⟩) trivial ?_
    rotate_left
    · intro w hSw; go_simp <;> with_reducible rfl
    simp only [Act.put]
    refine wpAnyH_take (i := 3) (v := ?_) rfl (by kernel_rfl) (by kernel_rfl) (by kernel_rfl) (fun _ _ _ h => h) (Or.inl ⟨by rfl, ?_⟩) trivial ?_
    rotate_left
    · intro w hSw; go_simp <;> with_reducible rfl
    simp only [Act.put]
    refine wpAnyH_take (i := 4) (v := ?_) rfl (by kernel_rfl) (by kernel_rfl) (by kernel_rfl) (fun _ _ _ h => h) (Or.inl ⟨by rfl, ?_⟩) trivial ?_
    rotate_left
    · intro w hSw; go_simp <;> with_reducible rfl
    simp only [Act.put]
    refine wpAnyH_take (i := 5) (v := ?_) rfl (by kernel_rfl) (by kernel_rfl) (by kernel_rfl) (fun _ _ _ h => h) (Or.inl ⟨by rfl, ?_⟩) trivial ?_
    rotate_left
    · intro w hSw; go_simp <;> with_reducible rfl
    simp only [Act.put]
    refine wpAnyH_take (i := 6) (v := ?_) rfl (by kernel_rfl) (by kernel_rfl) (by kernel_rfl) (fun _ _ _ h => h) (Or.inl ⟨by rfl, ?_⟩) trivial ?_
    rotate_left
    · intro w hSw; go_simp <;> with_reducible rfl
    simp only [Act.put]
    refine wpAnyH_take (i := 7) (v := ?_) rfl (by kernel_rfl) (by kernel_rfl) (by kernel_rfl) (fun _ _ _ h => h) (Or.inl ⟨by rfl, ?_⟩) trivial ?_
    rotate_left
    · intro w hSw; go_simp <;> with_reducible rfl
    simp only [Act.put]
    refine wpAnyH_take (i := 8) (v := ?_) rfl (by kernel_rfl) (by kernel_rfl) (by kernel_rfl) (fun _ _ _ h => h) (Or.inl ⟨by rfl, ?_⟩) trivial ?_
    rotate_left
    · intro w hSw; go_simp <;> with_reducible rfl
    simp only [Act.put]
    refine wpAnyH_take (i := 9) (v := ?_) rfl (by kernel_rfl) (by kernel_rfl) (by kernel_rfl) (fun _ _ _ h => h) (Or.inl ⟨by rfl, ?_⟩) trivial ?_
    rotate_left
    · intro w hSw; go_simp <;> with_reducible rfl
    simp only [Act.put]
    refine wpAnyH_take (i := 10) (v := ?_) rfl (by kernel_rfl) (by kernel_rfl) (by kernel_rfl) (fun _ _ _ h => h) (Or.inl ⟨by rfl, ?_⟩) trivial ?_
    rotate_left
    · intro w hSw; go_simp <;> with_reducible rfl
    simp only [Act.put]
    refine wpAnyH_take (i := 11) (v := ?_) rfl (by kernel_rfl) (by kernel_rfl) (by kernel_rfl) (fun _ _ _ h => h) (Or.inl ⟨by rfl, ?_⟩) trivial ?_
    rotate_left
    · intro w hSw; go_simp <;> with_reducible rfl
    simp only [Act.put]
    refine wpAnyH_take (i := 12) (v := ?_) rfl (by kernel_rfl) (by kernel_rfl) (by kernel_rfl) (fun _ _ _ h => h) (Or.inl ⟨by rfl, ?_⟩) trivial ?_
    rotate_left
    · intro w hSw; go_simp <;> with_reducible rfl
    simp only [Act.put]
    refine wpAnyH_take (i := 13) (v := ?_) rfl (by kernel_rfl) (by kernel_rfl) (by kernel_rfl) (fun _ _ _ h => h) (Or.inl ⟨by rfl, ?_⟩) trivial ?_
    rotate_left
    · intro w hSw; go_simp <;> with_reducible rfl
    simp only [Act.put]
    refine wpAnyH_take (i := 14) (v := ?_) rfl (by kernel_rfl) (by kernel_rfl) (by kernel_rfl) (fun _ _ _ h => h) (Or.inl ⟨by rfl, ?_⟩) trivial ?_
    rotate_left
    · intro w hSw; go_simp <;> with_reducible rfl
    simp only [Act.put]
    refine wpAnyH_take (i := 15) (v := ?_) rfl (by kernel_rfl) (by kernel_rfl) (by kernel_rfl) (fun _ _ _ h => h) (Or.inl ⟨by rfl, ?_⟩) trivial ?_
    rotate_left
    · intro w hSw; go_simp <;> with_reducible rfl
    simp only [Act.put]
    refine wpAnyH_take (i := 16) (v := ?_) rfl (by kernel_rfl) (by kernel_rfl) (by kernel_rfl) (fun _ _ _ h => h) (Or.inl ⟨by rfl, ?_⟩) trivial ?_
    rotate_left
    · intro w hSw; go_simp <;> with_reducible rfl
    simp only [Act.put]
    refine wpAnyH_take (i := 17) (v := ?_) rfl (by kernel_rfl) (by kernel_rfl) (by kernel_rfl) (fun _ _ _ h => h) (Or.inl ⟨by rfl, ?_⟩) trivial ?_
    rotate_left
    · intro w hSw; go_simp <;> with_reducible rfl
    simp only [Act.put]
    clear e1 y0 y1 y2 y3
    refine wpAnyH_ready (rs := [18]) (by kernel_rfl) (by simp) ?_
    refine AllReadyH.cons rfl (fun K hK => ?_) AllReadyH.nil
    go_simp
    refine hK.out _ _ trivial (fun _ => ?_)
    clear hK K
    try simp only [Act.put, List.setIfInBounds_toArray, List.set_cons_zero, List.set_cons_succ]
    refine wpAnyH_ready (rs := [19]) (by kernel_rfl) (by simp) ?_
    refine AllReadyH.cons rfl (fun K hK => ?_) AllReadyH.nil
    go_simp
    refine hK.out _ _ trivial (fun _ => ?_)
    clear hK K
    try simp only [Act.put, List.setIfInBounds_toArray, List.set_cons_zero, List.set_cons_succ]
    refine wpAnyH_done (by kernel_rfl) ?_ _
    refine NoPanic.normal ?_
    go_wp2_with fail
    have hF4 : Blk (wq.alloc (.cells #[.int .i64 ((t[0]'i0).toNat : Int), .int .i64 ((t[1]'j1).toNat : Int), .int .i64 ((t[2]'j2).toNat : Int), .int .i64 ((t[3]'j3).toNat : Int), .string (t.extract 4 d)] 23)) wq.heap.size 23 [.int .i64 ((t[0]'i0).toNat : Int), .int .i64 ((t[1]'j1).toNat : Int), .int .i64 ((t[2]'j2).toNat : Int), .int .i64 ((t[3]'j3).toNat : Int), .string (t.extract 4 d)] := Blk.new wq 23 _
    have hZ4 : Blk (wq.alloc (.cells #[.int .i64 ((t[0]'i0).toNat : Int), .int .i64 ((t[1]'j1).toNat : Int), .int .i64 ((t[2]'j2).toNat : Int), .int .i64 ((t[3]'j3).toNat : Int), .string (t.extract 4 d)] 23)) w.heap.size 23 zfr := HZq.out.alloc _
    have hO4 : Onl non w (wq.alloc (.cells #[.int .i64 ((t[0]'i0).toNat : Int), .int .i64 ((t[1]'j1).toNat : Int), .int .i64 ((t[2]'j2).toNat : Int), .int .i64 ((t[3]'j3).toNat : Int), .string (t.extract 4 d)] 23)) := HOq.out.alloc _
    have HF4 := Lib.hid hF4
    have HZ4 := Lib.hid hZ4
    have HO4 := Lib.hid hO4
    clear hF4 hZ4 hO4
    have hdec := HDec.out
    rw [decOf, bl_length, HTS2.out, HG0.out, HG1.out, HG2.out, HG3.out] at hdec
    by_cases hok : OkF (t[0]'i0).toNat (t[1]'j1).toNat (t[2]'j2).toNat (t[3]'j3).toNat (s.size - 10)
    · rw [if_pos hok] at hdec
      have HDec2 := Lib.hid hdec
      have HOk := Lib.hid hok
      clear hdec hok
      refine (RCheckFrame_ok _ _ _ _ _ _ (by rw [HBS.out]; exact HOk.out)).mono ?_
      rintro e w5 ⟨rfl, h5⟩
      have hF5 := HF4.out.onl h5 (fun h => h)
      have hZ5 := HZ4.out.onl h5 (fun h => h)
      have HO5 : Hid (Onl non w w5) := Lib.hid (HO4.out.trans h5 (fun _ _ h => h))
      clear h5 HF4 HZ4 HO4
      have HF5 := Lib.hid hF5
      have HZ5 := Lib.hid hZ5
      have HO5a := HO5
      clear hF5 hZ5 HO5
      go_wp2_with fail
      refine (RApart32_eq t s _ HTS2.out (by rw [HTS2.out]; omega)).mono ?_
      rintro e w6 ⟨rfl, hD⟩
      have hF5 := HF5.out.drw hD
      have hZ5 := HZ5.out.drw hD
      have HO5 : Hid (Onl non w w6) := Lib.hid (HO5a.out.of_drw hD)
      clear hD HF5 HZ5 HO5a
      have hc0 := hF5.cell' (i := 0) rfl
      have hc1 := hF5.cell' (i := 1) rfl
      have hc2 := hF5.cell' (i := 2) rfl
      have hc3 := hF5.cell' (i := 3) rfl
      have hc4 := hF5.cell' (i := 4) rfl
      have hz0 := hZ5.cell' (i := 0) rfl
      have hz1 := hZ5.cell' (i := 1) rfl
      have hz2 := hZ5.cell' (i := 2) rfl
      have hz3 := hZ5.cell' (i := 3) rfl
      have hz4 := hZ5.cell' (i := 4) rfl
      have hf0 := hZ5.free 0
      have hf1 := hZ5.free 1
      have hf2 := hZ5.free 2
      have hf3 := hZ5.free 3
      have hf4 := hZ5.free 4
      clear hF5 hZ5
      go_wp2
      refine bodyPost_ret (v := .tuple #[.agg #[.int .i64 ((t[0]'i0).toNat : Int), .int .i64 ((t[1]'j1).toNat : Int), .int .i64 ((t[2]'j2).toNat : Int), .int .i64 ((t[3]'j3).toNat : Int), .string (t.extract 4 d)], .int .i64 (Rad.dist (bl t) (bl s) : Int), .int .i64 0]) (by simp [results, Try.results21, go_sem, hz0, hz1, hz2, hz3, hz4]) rfl ⟨?_, ?_⟩
      · rw [HDec2.out, HBody.out, HL.out]; rfl
      · exact ((((HO5.out.set _ _ (fun h => absurd h (by simp))).set _ _ (fun h => absurd h (by simp))).set _ _ (fun h => absurd h (by simp))).set _ _ (fun h => absurd h (by simp))).set _ _ (fun h => absurd h (by simp))
    · rw [if_neg hok] at hdec
      have HDec2 := Lib.hid hdec
      have HOk := Lib.hid hok
      clear hdec hok
      refine (RCheckFrame_no _ _ _ _ _ _ (by rw [HBS.out]; omega) (by rw [HBS.out]; exact HOk.out)).mono ?_
      rintro e w5 ⟨rfl, h5⟩
      have hZ5 := HZ4.out.onl h5 (fun h => h)
      have HO5 : Hid (Onl non w w5) := Lib.hid (HO4.out.trans h5 (fun _ _ h => h))
      clear h5 HF4 HZ4 HO4
      have hz0 := hZ5.cell' (i := 0) rfl
      have hz1 := hZ5.cell' (i := 1) rfl
      have hz2 := hZ5.cell' (i := 2) rfl
      have hz3 := hZ5.cell' (i := 3) rfl
      have hz4 := hZ5.cell' (i := 4) rfl
      have hf0 := hZ5.free 0
      have hf1 := hZ5.free 1
      have hf2 := hZ5.free 2
      have hf3 := hZ5.free 3
      have hf4 := hZ5.free 4
      clear hZ5
      go_wp2
      refine bodyPost_ret (v := .tuple #[.agg #[.int .i64 0, .int .i64 0, .int .i64 0, .int .i64 0, .string ⟨#[]⟩], .int .i64 0, .int .i64 91]) (by simp [results, Try.results21, go_sem, hz0, hz1, hz2, hz3, hz4]) rfl ⟨?_, ?_⟩
      · rw [HDec2.out]; rfl
      · exact ((((HO5.out.set _ _ (fun h => absurd h (by simp))).set _ _ (fun h => absurd h (by simp))).set _ _ (fun h => absurd h (by simp))).set _ _ (fun h => absurd h (by simp))).set _ _ (fun h => absurd h (by simp))
  · have hdec : dec L = none := dec_none hno
    have HDec := Lib.hid hdec
    clear hdec hno
    have hZ5 := HZ2.out
    have hz0 := hZ5.cell' (i := 0) rfl
    have hz1 := hZ5.cell' (i := 1) rfl
    have hz2 := hZ5.cell' (i := 2) rfl
    have hz3 := hZ5.cell' (i := 3) rfl
    have hz4 := hZ5.cell' (i := 4) rfl
    have hf0 := hZ5.free 0
    have hf1 := hZ5.free 1
    have hf2 := hZ5.free 2
    have hf3 := hZ5.free 3
    have hf4 := hZ5.free 4
    clear hZ5
    go_wp2
    refine bodyPost_ret (v := .tuple #[.agg #[.int .i64 0, .int .i64 0, .int .i64 0, .int .i64 0, .string ⟨#[]⟩], .int .i64 0, .int .i64 91]) (by simp [results, Try.results21, go_sem, hz0, hz1, hz2, hz3, hz4]) rfl ⟨?_, ?_⟩
    · rw [HDec.out]; rfl
    · exact ((((HO2.out.set _ _ (fun h => absurd h (by simp))).set _ _ (fun h => absurd h (by simp))).set _ _ (fun h => absurd h (by simp))).set _ _ (fun h => absurd h (by simp))).set _ _ (fun h => absurd h (by simp))
theorem RDecode21 (s : ByteArray) (w : World) (hs : s.size ≤ 9223372036854775807) : Calls Try.prog 21 #[.string s] w fun e w' => e = .returned (decV (dec (bl s))) ∧ Onl non w w' := by
  by_cases h1 : 10 ≤ s.size
  · by_cases h2 : s.size ≤ 42
    · exact RDecode21_main s w h1 h2
    · exact RDecode21_short s w hs (by omega)
  · exact RDecode21_short s w hs (by omega)
end Go.Proofs.Ytenngchidlfaeaa
