/- B5: texts C23 T55 C24 C25 T56 T57 P9 P10 P11 P12, joined. -/
import Derived.Test.YtenngchidlfaeaaB2
import Derived.Test.YtenngchidlfaeaaA7
import Derived.Test.YtenngchidlfaeaaA5
import Derived.Test.YtenngchidlfaeaaB3
import Derived.Test.YtenngchidlfaeaaB4
import Derived.Deep.AppendSrc
import Derived.Deep.DeepCutAuto
/- Words for a row of bytes that strings are appended to. -/
namespace Go.Proofs.Ytenngchidlfaeaa
open Go.RowKit

/-- block g begins with the bytes l, c cells in all, whatever made it -/
def ByR (w : World) (g c : Nat) (l : List Nat) : Prop := ∃ ex, (Blk w g 5 (bs (l ++ ex)) ∨ BlkM w g 5 (bs (l ++ ex))) ∧ (l ++ ex).length = c
theorem ByR.lt {w : World} {g c : Nat} {l : List Nat} (h : ByR w g c l) : g < w.heap.size := by
  obtain ⟨ex, h | h, _⟩ := h
  · exact h.lt
  · exact h.lt
theorem ByR.le {w : World} {g c : Nat} {l : List Nat} (h : ByR w g c l) : l.length ≤ c := by
  obtain ⟨ex, _, h⟩ := h; rw [List.length_append] at h; omega
theorem ByR.onl {S : Nat → Prop} {w w' : World} {g c : Nat} {l : List Nat} (h : ByR w g c l) (ho : Onl S w w') (hs : ¬ S g) : ByR w' g c l := by
  obtain ⟨ex, h | h, hl⟩ := h
  · exact ⟨ex, .inl (h.onl ho hs), hl⟩
  · exact ⟨ex, .inr (h.onl ho hs), hl⟩
theorem ByR.rd {w : World} {g c : Nat} {l : List Nat} (h : ByR w g c l) : Rd w g 0 l := by
  obtain ⟨ex, h | h, _⟩ := h
  · intro k hk
    rw [Nat.zero_add]
    refine h.cell' (bs_get ?_)
    rw [List.getElem?_append_left hk]; exact get_getD hk
  · exact Rd.of_blkM h
theorem ByR.spare {w : World} {g c : Nat} {l : List Nat} (h : ByR w g c l) {j : Nat} (hj : j < c) : (w.cell? ⟨g, j, none⟩).isSome = true ∧ w.frozen? ⟨g, j, none⟩ = false := by
  obtain ⟨ex, h | h, hl⟩ := h
  · exact ⟨by rw [h.cell, List.getElem?_eq_getElem (by rw [bs_length, hl]; exact hj)]; rfl, h.free j⟩
  · exact ⟨by rw [h.cell, List.getElem?_eq_getElem (by rw [bs_length, hl]; exact hj)]; rfl, h.free (by rw [bs_length, hl]; exact hj)⟩
theorem byteCells_eq (s : ByteArray) : byteCells s = bs (bl s) := by simp [byteCells, bs, bl]
theorem set_mid (l ex : List Nat) (s : List Nat) (_h : s.length ≤ ex.length) : (bs (l ++ ex)).take l.length ++ bs s ++ (bs (l ++ ex)).drop (l.length + s.length) = bs (l ++ s ++ ex.drop s.length) := by
  unfold bs
  rw [← List.map_take, ← List.map_drop, List.take_left', ← List.map_append, List.drop_append, List.drop_of_length_le (by omega), List.nil_append, Nat.add_sub_cancel_left, ← List.map_append]
  rfl
/-- 'append(all, s...)' -/
theorem run_app_bytes (w : World) (g c : Nat) (l : List Nat) (s : ByteArray) (h : ByR w g c l) (hb : l.length + s.size ≤ 100000000) :
    ∃ g' c' w', (Builtin.append_ #[57, 9] 57 #[.slice (some ⟨g, 0, none⟩) l.length c, .string s]).run Try.prog w = .ok (.slice (some ⟨g', 0, none⟩) (l.length + s.size) c') w' ∧ ByR w' g' c' (l ++ bl s) ∧ Onl (one g) w w' ∧ (g' = g ∨ w.heap.size ≤ g') := by
  obtain ⟨i, hi, hz0, hz1, hz2⟩ := info_parts info5
  have hsrc := Src.ofString (P := Try.prog) w Try.underlying9 s
  rw [byteCells_eq] at hsrc
  by_cases hroom : l.length + s.size ≤ c
  · have hr := run_append_room_src (P := Try.prog) w 57 9 57 5 i Try.underlying57 hi g 0 l.length c (.string s) s.size (bs (bl s)) (by rw [hz1]; exact hsrc) hroom (fun j hj => by
      rw [hz1, Nat.mul_one, Nat.zero_add]
      rw [bs_length, bl_length] at hj
      exact (h.spare (by omega)).1) (fun j hj => by
      rw [hz1, Nat.mul_one, Nat.zero_add]
      rw [bs_length, bl_length] at hj
      exact (h.spare (by omega)).2)
    rw [hz1, Nat.mul_one, Nat.zero_add] at hr
    refine ⟨g, c, _, hr, ?_, onl_setCells (S := one g) rfl _ _ (Onl.refl _ _), .inl rfl⟩
    obtain ⟨ex, h2, hl⟩ := h
    have hsx : (bl s).length ≤ ex.length := by rw [bl_length]; rw [List.length_append] at hl; omega
    have hlen : l.length + (bs (bl s)).length ≤ (bs (l ++ ex)).length := by rw [bs_length, bs_length, bl_length, hl]; exact hroom
    have e := set_mid l ex (bl s) hsx
    refine ⟨ex.drop (bl s).length, ?_, ?_⟩
    · rcases h2 with h2 | h2
      · have h3 := h2.setCells_all (bs (bl s)) l.length hlen
        rw [bs_length, e] at h3
        exact .inl h3
      · have h3 := h2.setCells_all (bs (bl s)) l.length hlen
        rw [bs_length, e] at h3
        exact .inr h3
    · rw [List.length_append, List.length_append, List.length_drop]; rw [List.length_append] at hl; omega
  · have hold : (Builtin.firstCells i.size l.length (.slice (some ⟨g, 0, none⟩) l.length c)).run Try.prog w.drew = .ok (bs l).toArray w.drew := by
      rw [hz1]
      refine run_firstCells_some w.drew 1 l.length _ l.length c (bs l) (by rw [bs_length, Nat.mul_one]) (fun j u hu => ?_)
      have hj : j < l.length := by have := (List.getElem?_eq_some_iff.1 hu).1; rwa [bs_length] at this
      rw [add0]
      have h1 := h.rd j hj
      rw [Nat.zero_add] at h1
      rw [bs_get (get_getD hj)] at hu
      rw [← Option.some.inj hu]; exact h1
    have hfit : Builtin.nextslicecap (l.length + s.size) c * i.bytes ≤ 281474976710656 := by
      rw [hz2]
      exact growslice_fits (by omega) (by omega)
    have hr := run_append_grow_src (P := Try.prog) w 57 9 57 5 i (.int .u8 0) Try.underlying57 hi hz0 (some ⟨g, 0, none⟩) l.length c (bs l) hold (.string s) s.size (bs (bl s)) (by rw [hz1]; exact hsrc) (by omega) (by omega) hfit
    refine ⟨w.heap.size, grownCap w (l.length + s.size) c 5, _, hr, ?_, ((Onl.refl (one g) w).drew.alloc _), .inr (Nat.le_refl _)⟩
    have hge := grownCap_ge w (l.length + s.size) c 5
    refine ⟨List.replicate (grownCap w (l.length + s.size) c 5 - (l.length + s.size)) 0, .inl ?_, ?_⟩
    · have e : ((bs l ++ bs (bl s)).toArray ++ Builtin.zeroCells (Value.int .u8 0).cells (grownCap w (l.length + s.size) c 5 - (l.length + s.size))) = (bs (l ++ bl s ++ List.replicate (grownCap w (l.length + s.size) c 5 - (l.length + s.size)) 0)).toArray := by
        apply Array.toList_inj.1
        simp [bs, Builtin.zeroCells, Value.cells]
        rw [List.eq_replicate_iff]
        refine ⟨by simp, fun u hu => ?_⟩
        obtain ⟨j, _, rfl⟩ := List.mem_map.1 hu
        rw [Nat.mod_one]; rfl
      rw [e]
      exact heap_alloc_new w.drew _
    · rw [List.length_append, List.length_append, bl_length, List.length_replicate]; omega
end Go.Proofs.Ytenngchidlfaeaa
/- The program's book: record, walked. -/
namespace Rad
open Go.Proofs.Ytenngchidlfaeaa
/-- what a sector contains after all writes -/
def Dsk.eff (D : Dsk) (i : Nat) : ByteArray := wait i (D.safe.getD i ⟨#[]⟩) D.waits
/-- four bytes as a number -/
def le4 (l : List Nat) : Nat := l.getD 0 0 + 256 * l.getD 1 0 + 65536 * l.getD 2 0 + 16777216 * l.getD 3 0
/-- the sectors behind a record's first one -/
def Dsk.more (D : Dsk) (p : Nat) : Nat → List Nat
  | 0 => []
  | k + 1 => D.more p k ++ bl (D.eff (p + 1 + k))
/-- can there be a record at a sector, and of how many bytes -/
def Dsk.recN (D : Dsk) (p : Nat) : Option Nat :=
  if p < D.safe.length ∧ (bl (D.eff p)).getD 63 0 = 1 ∧ 1 ≤ le4 (bl (D.eff p)) ∧ le4 (bl (D.eff p)) ≤ 4096 ∧ p + sectorsOf (le4 (bl (D.eff p))) ≤ D.safe.length then some (le4 (bl (D.eff p))) else none
/-- the payload of the record at a sector -/
def Dsk.recP (D : Dsk) (p n : Nat) : List Nat := (((bl (D.eff p)).drop 4).take 59 ++ D.more p (sectorsOf n - 1)).take n
theorem Dsk.get_eff {D : Dsk} (ho : D.off = false) {i : Nat} (hi : i < D.safe.length) : D.get (i : Int) = D.eff i ∧ D.getE (i : Int) = 0 := by
  have h : 0 ≤ (i : Int) ∧ (i : Int) < (D.safe.length : Int) := by omega
  unfold Dsk.get Dsk.getE Dsk.eff
  rw [ho, if_pos h, if_pos h]
  simp
theorem wait_full {l : List (Nat × ByteArray)} {i : Nat} : ∀ {s : ByteArray}, s.size = 64 → (∀ p ∈ l, p.2.size = 64) → (wait i s l).size = 64 := by
  induction l with
  | nil => intro s h _; exact h
  | cons p l ih =>
    intro s h hl
    refine ih (s := if p.1 = i then p.2 else s) ?_ (fun q hq => hl q (List.mem_cons_of_mem _ hq))
    split
    · exact hl p (by simp)
    · exact h
theorem Dsk.eff_full {D : Dsk} (h : D.Full) {i : Nat} (hi : i < D.safe.length) : (D.eff i).size = 64 := wait_full (h.2 _ (getD_mem hi)) h.1
theorem Dsk.more_length {D : Dsk} (h : D.Full) {p : Nat} : ∀ {k : Nat}, p + k < D.safe.length → (D.more p k).length = 64 * k
  | 0, _ => rfl
  | k + 1, hk => by rw [Dsk.more, List.length_append, Dsk.more_length h (by omega), bl_length, Dsk.eff_full h (by omega)]; omega
theorem le4_lt {l : List Nat} (h : Bytes l) : le4 l < 4294967296 := by
  have hb : ∀ i, l.getD i 0 < 256 := fun i => by
    rw [List.getD_eq_getElem?_getD]
    cases hi : l[i]? with
    | none => simp
    | some x => exact h x (List.mem_of_getElem? hi)
  have := hb 0; have := hb 1; have := hb 2; have := hb 3
  unfold le4; omega
end Rad
namespace Go.Proofs.Ytenngchidlfaeaa
open Go.RowKit
open Rad (Dsk)

def RecPost (D : Dsk) (p : Nat) (w : World) (e : Ending) (w' : World) : Prop :=
  (match D.recN p with
    | none => e = .returned (.tuple #[.string ⟨#[]⟩, .bool false])
    | some n => e = .returned (.tuple #[.string (sb (D.recP p n)), .bool true])) ∧ Onl non w w'
theorem bor64 (a b : Nat) (ha : a < 9223372036854775808) (hb : b < 9223372036854775808) : bits .or .i64 (a : Int) (b : Int) = ((a ||| b : Nat) : Int) := by
  have hx : a ||| b < 2 ^ 63 := Nat.or_lt_two_pow (by omega) (by omega)
  have h1 : (BitVec.ofInt 64 (a : Int)).toNat = a := by
    rw [BitVec.ofInt_natCast, BitVec.toNat_ofNat]; exact Nat.mod_eq_of_lt (by omega)
  have h2 : (BitVec.ofInt 64 (b : Int)).toNat = b := by
    rw [BitVec.ofInt_natCast, BitVec.toNat_ofNat]; exact Nat.mod_eq_of_lt (by omega)
  show IntKind.i64.wrap ((BitVec.ofInt 64 (a : Int) ||| BitVec.ofInt 64 (b : Int)).toNat : Int) = _
  rw [BitVec.toNat_or, h1, h2, IntKind.wrap_i64]
  omega
theorem or_add (a x k : Nat) (h : a < 2 ^ k) : a ||| (x <<< k) = a + x * 2 ^ k := by
  rw [Nat.or_comm, ← Nat.shiftLeft_add_eq_or_of_lt h, Nat.shiftLeft_eq]; omega
/-- the first k bytes as a number -/
def leN (l : List Nat) : Nat → Nat
  | 0 => 0
  | k + 1 => leN l k + l.getD k 0 * 2 ^ (8 * k)
theorem leN4 (l : List Nat) : leN l 4 = Rad.le4 l := by
  unfold leN Rad.le4
  simp [leN]
  omega
theorem leN_lt {l : List Nat} (h : Rad.Bytes l) : ∀ k, leN l k < 2 ^ (8 * k)
  | 0 => by simp [leN]
  | k + 1 => by
    have ih := leN_lt h k
    have hb : l.getD k 0 < 256 := by
      rw [List.getD_eq_getElem?_getD]
      cases hi : l[k]? with
      | none => simp
      | some x => exact h x (List.mem_of_getElem? hi)
    rw [leN, show 8 * (k + 1) = 8 * k + 8 from by omega, Nat.pow_add]
    have : l.getD k 0 * 2 ^ (8 * k) ≤ 255 * 2 ^ (8 * k) := Nat.mul_le_mul_right _ (by omega)
    omega
/-- append, its run given -/
theorem wpList_appR {P : Program} {w : World} {ops : Array Oper} {rest : List Oper} {o : Oper} {a : Act} {Q : Exit → Act → World → Prop} (hgd : o.guard = none) (s x : Operand) (t t' : TypeId) (ho : o.op = .call { callee := .builtin .append, args := #[s, x], argTypes := #[t, t'] })
    (v u : Value) (hs : a.eval s = v) (hx : a.eval x = u) {v' : Value} {w' : World} (hr : (Builtin.append_ #[t, t'] o.type #[v, u]).run P w = .ok v' w') (h : wpList P ops Q rest (a.put o.dst v') w') : wpList P ops Q (o :: rest) a w := by
  refine wpList_plain hgd fun K hK => ?_
  unfold Oper.wp execOp
  simp only [ho, resolve, invoke, builtin, Sem.run_bind, Sem.run_pure, Result.andThen_ok, List.map_toArray, List.map_cons, List.map_nil, hs, hx, hr]
  exact hK _ _ h
theorem run_slice57_to (w : World) (g n c hi : Nat) (h2 : hi ≤ c) (h3 : 0 < c) :
    (Instr.slice 57 (.slice (some ⟨g, 0, none⟩) n c) none (some (.int .i64 (hi : Int))) none).run Try.prog w = .ok (.slice (some ⟨g, 0, none⟩) hi c) w := by
  have e3 : c ≠ 0 := by omega
  have e4 : (⟨g, 0, none⟩ : Addr).add 0 = ⟨g, 0, none⟩ := by unfold Addr.add; split <;> simp_all
  have s5 := size5 w
  simp [Instr.slice, run_underlying Try.underlying57, Instr.sliceBounds, Instr.sliceBound, asIntOf, e3, e4, h2, s5]
set_option maxRecDepth 100000 in
set_option maxHeartbeats 2000000 in
/-- told of the blocks: b.d and b.at alone -/
theorem record127 (g gd : Nat) (cs0 : List Value) (D : Dsk) (p N : Nat) (W : World) (l : List Rs) (w : World) (hS : St W w (dskR gd D :: l)) (hB : Blk w g 165 cs0) (h1 : cs0[1]? = some (.pointer (some ⟨gd, 0, none⟩))) (h2 : cs0[2]? = some (.int .i64 (p : Int)))
    (ho : D.off = false) (hF : D.Full) (hf : Fits D N) (hN : N ≤ 30000000) (hp : p < D.safe.length) (hl4 : D.safe.length ≤ 4096) :
    Calls Try.prog 127 #[.pointer (some ⟨g, 0, none⟩)] w fun e w' => RecPost D p w e w' := by
  have HFu := Lib.hid hF
  have HOff := Lib.hid ho
  have HPl := Lib.hid hp
  have HB := Lib.hid hB
  have HC1 := Lib.hid h1
  have HC2 := Lib.hid h2
  have hge := Rad.Dsk.get_eff ho hp
  obtain ⟨m, hm⟩ : ∃ m, m = D.safe.length := ⟨_, rfl⟩
  have HM := Lib.hid hm
  have hm4 : m ≤ 4096 := by omega
  have hpm : p < m := by omega
  obtain ⟨s, hs⟩ : ∃ s, s = D.eff p := ⟨_, rfl⟩
  have hsz : s.size = 64 := by rw [hs]; exact Rad.Dsk.eff_full hF hp
  have HSs := Lib.hid hs
  have HSec := Lib.hid (fun wx (hx : Onl non w wx) => (hS.onl hx).sectors (l1 := []))
  have HRead := Lib.hid (fun wx (hx : Onl non w wx) (i : Nat) (hi : i < D.safe.length) => (hS.onl hx).read (l1 := []) hf hN (i : Int) (by omega))
  have HRd0 := Lib.hid (fun wx (hx : Onl non w wx) => (hS.onl hx).read (l1 := []) hf hN (p : Int) (by omega))
  rw [hge.1, hge.2, ← hs] at HRd0
  rw [← hm] at HSec HRead
  have x1 : ∀ x : Ext non w, x.val.cell? ⟨g, 1, none⟩ = some (.pointer (some ⟨gd, 0, none⟩)) := fun x => (hB.onl x.property (fun h => h)).cell' h1
  have x2 : ∀ x : Ext non w, x.val.cell? ⟨g, 2, none⟩ = some (.int .i64 (p : Int)) := fun x => (hB.onl x.property (fun h => h)).cell' h2
  clear hS hB h1 h2 ho hF hf hp hge hm hs hl4
  go_enter Try.func127, Try.ntmps127
  go_upto_region 1 with fail
  refine wp_region_quiet_class (fun w' => ∃ x : Ext non w, w' = x.val) (by kernel_rfl) (by kernel_rfl) ⟨⟨w.drew, (Onl.refl non w).drew⟩, rfl⟩ ?_
  repeat (go_big_quiet_step ((go_at_call 54; exact qext (HRd0.out _ (Subtype.property _)))))
  refine wpQuiet_nil ?_
  intro wz hw'
  obtain ⟨x, rfl⟩ := hw'
  obtain ⟨w1, hw1⟩ : ∃ w1, w1 = x.val := ⟨_, rfl⟩
  have HO1 : Hid (Onl non w w1) := Lib.hid (by rw [hw1]; exact x.property)
  rw [← hw1]
  clear hw1 x1 x2 HRd0
  have hs63 : (63 : Int) < (s.size : Int) := by omega
  have hbl63 : (bl s).getD 63 0 = s[63].toNat := bl_getD40 s 63 (by omega)
  by_cases hmk : s[63].toNat = 1
  rotate_left
  · have hb : ((s[63].toNat : Int) != 1) = true := ne_bne (b := 1) hmk
    have HR : Hid (D.recN p = none) := Lib.hid (by
      unfold Rad.Dsk.recN
      rw [if_neg]
      intro h
      rw [← HSs.out, hbl63] at h
      exact hmk h.2.1)
    clear hmk hbl63
    go_wp2
    go_ret2
    exact ⟨by rw [HR.out]; rfl, HO1.out⟩
  have hb : ((s[63].toNat : Int) != 1) = false := eq_bne (b := 1) hmk
  have HMk : Hid ((bl s).getD 63 0 = 1) := Lib.hid (by rw [hbl63, hmk])
  obtain ⟨B, hBl⟩ : ∃ B, B = bl s := ⟨_, rfl⟩
  have HBl := Lib.hid hBl
  have HBg : Hid (∀ k (h : k < s.size), B.getD k 0 = s[k].toNat) := Lib.hid (fun k h => by rw [hBl, bl_getD40])
  have HBb : Hid (Rad.Bytes B) := Lib.hid (by rw [hBl]; exact bl_bytes s)
  clear hmk hbl63 hBl
  go_wp2
  clear hb hs63
  go_loopw [6, 31] (fun x y wr => ∃ k : Nat, k ≤ 4 ∧ y = .int .i64 k ∧ x = .int .i64 ((leN B k : Nat) : Int) ∧ wr = w1) (fun _ y _ => 4 - (intOf y).toNat)
  case atStart => exact ⟨0, by omega, rfl, rfl, rfl⟩
  case round =>
    obtain ⟨k, hk, rfl, rfl, rfl⟩ := hrel
    by_cases hlt : k < 4
    · have hks : k < s.size := by omega
      have k0 : (0 : Int) ≤ (k : Int) := by omega
      have k1 : (k : Int) < (s.size : Int) := by omega
      have hg := HBg.out k hks
      obtain ⟨v, hv⟩ : ∃ v, v = s[k].toNat := ⟨_, rfl⟩
      rw [← hv] at hg
      have hv256 : v < 256 := by rw [hv]; exact s[k].toNat_lt
      obtain ⟨q, hq⟩ : ∃ q, q = leN B k := ⟨_, rfl⟩
      rw [← hq]
      have hql : q < 2 ^ (8 * k) := by rw [hq]; exact leN_lt HBb.out k
      have hp32 : (2 : Nat) ^ (8 * k) ≤ 16777216 := by
        have : (2 : Nat) ^ (8 * k) ≤ 2 ^ 24 := Nat.pow_le_pow_right (by omega) (by omega)
        simpa using this
      have hsh : v <<< (8 * k) ≤ 4294967296 := by
        rw [Nat.shiftLeft_eq]
        have : v * 2 ^ (8 * k) ≤ 255 * 16777216 := Nat.mul_le_mul (by omega) hp32
        omega
      have hnx : leN B (k + 1) = q ||| (v <<< (8 * k)) := by rw [leN, hg, ← hq, or_add _ _ _ hql]
      have HNx := Lib.hid hnx
      have hor := bor64 q (v <<< (8 * k)) (by omega) (by omega)
      obtain ⟨z, hz⟩ : ∃ z, z = v <<< (8 * k) := ⟨_, rfl⟩
      rw [← hz] at hor HNx
      have HZ := Lib.hid hz
      have hsc : wrap64 ((v : Int) * 2 ^ (8 * k)) = (z : Int) := by rw [hz]; exact shl_cast v (8 * k) (by rw [Nat.shiftLeft_eq] at hsh; omega)
      have hcv : IntKind.i64.wrap ((s[k].toNat : Nat) : Int) = (v : Int) := by rw [← hv, IntWalk.i64_in _ (by omega)]
      clear hg hv hq hql hp32 hsh hnx hz
      go_wp2
      go_roundw
      case rel => exact ⟨k + 1, by omega, by go_num, by rw [HNx.out], by trivial⟩
      case measure => simp [intOf]; omega
    · obtain rfl : k = 4 := by omega
      obtain ⟨n, hn⟩ : ∃ n, n = Rad.le4 B := ⟨_, rfl⟩
      rw [leN4, ← hn]
      have hn32 : n < 4294967296 := by rw [hn]; exact Rad.le4_lt HBb.out
      have HNn := Lib.hid hn
      have HE : Hid (Rad.le4 (bl (D.eff p)) = n) := Lib.hid (by rw [← HSs.out, ← HBl.out, hn])
      have HMk2 : Hid ((bl (D.eff p)).getD 63 0 = 1) := Lib.hid (by rw [← HSs.out]; exact HMk.out)
      obtain ⟨bad, hbad⟩ : ∃ bad, bad = decide (n < 1 ∨ 4096 < n ∨ m < p + sectorsOf n) := ⟨_, rfl⟩
      have HBad := Lib.hid hbad
      have x1 : ∀ x : Ext non wr, x.val.cell? ⟨g, 1, none⟩ = some (.pointer (some ⟨gd, 0, none⟩)) := fun x => (HB.out.onl (HO1.out.trans x.property (fun _ _ h => h)) (fun h => h)).cell' HC1.out
      have x2 : ∀ x : Ext non wr, x.val.cell? ⟨g, 2, none⟩ = some (.int .i64 (p : Int)) := fun x => (HB.out.onl (HO1.out.trans x.property (fun _ _ h => h)) (fun h => h)).cell' HC2.out
      clear hn hbad
      go_upto_region 10 with fail
      go_cut [64] (fun t wx => t = .bool bad ∧ Hid (Onl non wr wx))
      case first =>
        by_cases h1 : (n : Int) < 1
        · have d1 : decide ((n : Int) < 1) = true := decide_eq_true h1
          have hb : bad = true := by rw [HBad.out]; exact decide_eq_true (by omega)
          refine wp_region_quiet_class (fun w' => ∃ x : Ext non wr, w' = x.val) (by kernel_rfl) (by kernel_rfl) ⟨⟨wr.drew, (Onl.refl non wr).drew⟩, rfl⟩ ?_
          repeat (go_big_quiet_step (fail))
          refine wpQuiet_nil ?_
          intro wz hw'
          obtain ⟨x, rfl⟩ := hw'
          go_wp2_with fail
          go_meet
          exact ⟨by rw [hb], Lib.hid x.property⟩
        have d1 : decide ((n : Int) < 1) = false := decide_eq_false h1
        by_cases h2 : (4096 : Int) < (n : Int)
        · have d2 : decide ((4096 : Int) < (n : Int)) = true := decide_eq_true h2
          have hb : bad = true := by rw [HBad.out]; exact decide_eq_true (by omega)
          refine wp_region_quiet_class (fun w' => ∃ x : Ext non wr, w' = x.val) (by kernel_rfl) (by kernel_rfl) ⟨⟨wr.drew, (Onl.refl non wr).drew⟩, rfl⟩ ?_
          repeat (go_big_quiet_step (fail))
          refine wpQuiet_nil ?_
          intro wz hw'
          obtain ⟨x, rfl⟩ := hw'
          go_wp2_with fail
          go_meet
          exact ⟨by rw [hb], Lib.hid x.property⟩
        have d2 : decide ((4096 : Int) < (n : Int)) = false := decide_eq_false h2
        have hS := fun wx => sectors128 n wx (by omega)
        obtain ⟨sn, hsn⟩ : ∃ sn, sn = sectorsOf n := ⟨_, rfl⟩
        have hsn2 : sn ≤ 1000 := by rw [hsn]; unfold sectorsOf; omega
        rw [← hsn] at hS
        have HS := Lib.hid hS
        have hb : bad = decide (m < p + sn) := by rw [HBad.out, ← hsn]; exact decide_eq_decide.2 (by omega)
        have hwp : wrap64 ((p : Int) + (sn : Int)) = ((p + sn : Nat) : Int) := by rw [IntWalk.wrap64_in _ (by omega)]; omega
        clear hS hsn
        refine wp_region_quiet_class (fun w' => ∃ x : Ext non wr, w' = x.val) (by kernel_rfl) (by kernel_rfl) ⟨⟨wr.drew, (Onl.refl non wr).drew⟩, rfl⟩ ?_
        repeat (go_big_quiet_step ((first | (go_at_call 128; exact qcall_same (HS.out _)) | (go_at_call 62; exact qcall_same (HSec.out _ (HO1.out.trans (Subtype.property _) (fun _ _ h => h)))))))
        refine wpQuiet_nil ?_
        intro wz hw'
        obtain ⟨x, rfl⟩ := hw'
        go_wp2_with fail
        go_meet
        exact ⟨by rw [hb]; congr 1; exact decide_eq_decide.2 (by omega), Lib.hid x.property⟩
      case rest =>
        obtain ⟨rfl, HOc⟩ := hcut
        have HO2 := Lib.hid (HO1.out.trans HOc.out (fun _ _ h => h))
        clear HO1 HOc x1 x2
        cases bad with
        | true =>
          have HR : Hid (D.recN p = none) := Lib.hid (by
            have hb := of_decide_eq_true HBad.out.symm
            unfold Rad.Dsk.recN
            rw [HE.out, if_neg]
            intro h
            have := HM.out
            omega)
          go_wp2
          go_ret2
          exact ⟨by rw [HR.out]; rfl, HO2.out⟩
        | false =>
          have hb := of_decide_eq_false HBad.out.symm
          have hn1 : 1 ≤ n := by omega
          have hn4 : n ≤ 4096 := by omega
          obtain ⟨sn, hsn⟩ : ∃ sn, sn = sectorsOf n := ⟨_, rfl⟩
          have hpsn : p + sn ≤ m := by rw [hsn]; omega
          have hsn1 : 1 ≤ sn := by rw [hsn]; unfold sectorsOf; omega
          have hsnn : n ≤ 59 + 64 * (sn - 1) := by rw [hsn]; unfold sectorsOf; omega
          have HR : Hid (D.recN p = some n) := Lib.hid (by
            unfold Rad.Dsk.recN
            rw [HE.out, HMk2.out, if_pos ⟨HPl.out, rfl, hn1, hn4, by rw [← hsn, ← HM.out]; exact hpsn⟩])
          have HSc := Lib.hid (fun wx => sectors128 n wx (by omega))
          rw [← hsn] at HSc
          have HSn := Lib.hid hsn
          obtain ⟨t, ht⟩ : ∃ t, s.extract 4 63 = t := ⟨_, rfl⟩
          have htz : t.size = 59 := by rw [← ht, ByteArray.size_extract, hsz]; rfl
          have htb : bl t = ((bl s).drop 4).take 59 := by
            rw [← ht]
            simp [bl, ByteArray.data_extract, List.map_take, List.map_drop]
          obtain ⟨c0, ob, hc0, hconv, hbm⟩ := bytes_made wc t
          obtain ⟨w3, hw3⟩ : ∃ w3, w3 = wc.drew.alloc ob := ⟨_, rfl⟩
          obtain ⟨ga, hga⟩ : ∃ ga, ga = wc.heap.size := ⟨_, rfl⟩
          rw [← hw3, ← hga] at hconv hbm
          rw [htz] at hconv
          have HBy : Hid (ByR w3 ga c0 (bl t)) := Lib.hid ⟨List.replicate (c0 - t.size) 0, .inr hbm, by rw [List.length_append, bl_length, List.length_replicate]; omega⟩
          have HO3 : Hid (Onl non w w3) := Lib.hid (by rw [hw3]; exact HO2.out.drew.alloc _)
          have hgw : w.heap.size ≤ ga := by rw [hga]; exact HO2.out.size
          have HTb : Hid (bl t = ((bl (D.eff p)).drop 4).take 59) := Lib.hid (by rw [htb, HSs.out])
          have hs63 : (63 : Int) ≤ (s.size : Int) := by omega
          clear hb hsn htb hbm hw3 hga HO2 hc0
          go_wp2
          go_loopw [8, 9] (fun x y wr => ∃ (i ga c : Nat), 1 ≤ i ∧ i ≤ sn ∧ w.heap.size ≤ ga ∧ y = .int .i64 i ∧ x = .slice (some ⟨ga, 0, none⟩) (59 + 64 * (i - 1)) c ∧ Hid (ByR wr ga c (bl t ++ D.more p (i - 1))) ∧ Hid (Onl non w wr)) (fun _ y _ => sn - (intOf y).toNat)
          case atStart => exact ⟨1, ga, c0, by omega, hsn1, hgw, rfl, rfl, Lib.hid (by show ByR _ _ _ (bl t ++ []); rw [List.append_nil]; exact HBy.out), HO3⟩
          case round =>
            clear HBy HO3 hgw
            obtain ⟨wo, rfl⟩ : ∃ wo : World, wo = wr := ⟨_, rfl⟩
            obtain ⟨i, ga, c, hi1, hi2, hgw, rfl, rfl, HBy, HO⟩ := hrel
            have hTl : (bl t ++ D.more p (i - 1)).length = 59 + 64 * (i - 1) := by
              rw [List.length_append, bl_length, htz, Rad.Dsk.more_length HFu.out (by have := HM.out; omega)]
            obtain ⟨tl, htl⟩ : ∃ tl, tl = 59 + 64 * (i - 1) := ⟨_, rfl⟩
            rw [← htl] at hTl ⊢
            have htl4 : tl ≤ 300000 := by omega
            by_cases hlt : i < sn
            · have hge := Rad.Dsk.get_eff HOff.out (i := p + i) (by have := HM.out; omega)
              have HRd := Lib.hid (fun wx hx => HRead.out wx hx (p + i) (by omega))
              rw [hge.1, hge.2] at HRd
              obtain ⟨e, he⟩ : ∃ e, e = D.eff (p + i) := ⟨_, rfl⟩
              have hes : e.size = 64 := by rw [he]; exact Rad.Dsk.eff_full HFu.out (by have := HM.out; omega)
              rw [← he] at HRd
              have HMo : Hid (D.more p (i + 1 - 1) = D.more p (i - 1) ++ bl e) := Lib.hid (by
                rw [show i + 1 - 1 = (i - 1) + 1 from by omega, Rad.Dsk.more, show p + 1 + (i - 1) = p + i from by omega, he])
              have x1 : ∀ x : Ext non wo, x.val.cell? ⟨g, 1, none⟩ = some (.pointer (some ⟨gd, 0, none⟩)) := fun x => (HB.out.onl (HO.out.trans x.property (fun _ _ h => h)) (fun h => h)).cell' HC1.out
              have x2 : ∀ x : Ext non wo, x.val.cell? ⟨g, 2, none⟩ = some (.int .i64 (p : Int)) := fun x => (HB.out.onl (HO.out.trans x.property (fun _ _ h => h)) (fun h => h)).cell' HC2.out
              have hwp : IntKind.i64.wrap ((p : Int) + (i : Int)) = ((p + i : Nat) : Int) := by rw [IntWalk.i64_in _ (by omega)]; omega
              have hwp2 : wrap64 ((p : Int) + (i : Int)) = ((p + i : Nat) : Int) := by rw [IntWalk.wrap64_in _ (by omega)]; omega
              have HTl := Lib.hid hTl
              have HTl2 := Lib.hid htl
              clear hge he hTl htl
              go_wp2_with fail
              refine (HSc.out wo).mono ?_
              rintro e' w' ⟨rfl, rfl⟩
              go_upto_region 16 with fail
              refine wp_region_quiet_class (fun w' => ∃ x : Ext non wo, w' = x.val) (by kernel_rfl) (by kernel_rfl) ⟨⟨wo.drew, (Onl.refl non wo).drew⟩, rfl⟩ ?_
              repeat (go_big_quiet_step ((go_at_call 54; exact qext (HRd.out _ (HO.out.trans (Subtype.property _) (fun _ _ h => h))))))
              refine wpQuiet_nil ?_
              intro wz hw'
              obtain ⟨x, rfl⟩ := hw'
              obtain ⟨w4, hw4⟩ : ∃ w4, w4 = x.val := ⟨_, rfl⟩
              have HO4 : Hid (Onl non w w4) := Lib.hid (by rw [hw4]; exact HO.out.trans x.property (fun _ _ h => h))
              have HBy4 : Hid (ByR w4 ga c (bl t ++ D.more p (i - 1))) := Lib.hid (by rw [hw4]; exact HBy.out.onl x.property (fun h => h))
              rw [← hw4]
              clear hw4 x1 x2 hwp hwp2 HBy HO HRd
              obtain ⟨g5, c5, w5, hr5, hb5, ho5, hg5⟩ := run_app_bytes w4 ga c (bl t ++ D.more p (i - 1)) e HBy4.out (by rw [HTl.out, hes]; omega)
              rw [HTl.out, hes] at hr5
              have HR5 := Lib.hid hr5
              have HB5 := Lib.hid hb5
              have HO5 : Hid (Onl non w w5) := Lib.hid (HO4.out.trans ho5 (fun k hk h => by have e' : k = ga := h; omega))
              have hgw5 : w.heap.size ≤ g5 := by have := HO4.out.size; rcases hg5 with h | h <;> omega
              clear hr5 hb5 ho5 hg5 HBy4 HO4
              go_wp2_with (at_builtin; refine wpList_appR rfl (.tmp 88) (.tmp 89) 57 9 rfl _ _ rfl rfl HR5.out ?_)
              go_roundw
              case rel =>
                have e1 : tl + 64 = 59 + 64 * (i + 1 - 1) := by have := HTl2.out; omega
                rw [e1]
                (repeat apply Exists.intro)
                refine ⟨⟨i + 1, g5, c5, by omega, by omega, hgw5, by go_num, rfl, Lib.hid ?_, HO5⟩, rfl⟩
                rw [HMo.out, ← List.append_assoc]; exact HB5.out
              case measure => simp [intOf]; omega
            · obtain rfl : i = sn := by omega
              have hc := HBy.out.le
              rw [hTl] at hc
              have hnc : n ≤ c := by omega
              obtain ⟨T, hT⟩ : ∃ T, T = bl t ++ D.more p (i - 1) := ⟨_, rfl⟩
              rw [← hT] at HBy hTl
              have HRP : Hid (sb (D.recP p n) = sb (T.take n)) := Lib.hid (by
                unfold Rad.Dsk.recP
                rw [← HSn.out, ← HTb.out, hT])
              have hTb : Rad.Bytes T := by
                rw [hT]
                refine (bl_bytes t).append ?_
                have : ∀ k, Rad.Bytes (D.more p k) := by
                  intro k
                  induction k with
                  | zero => intro x hx; cases hx
                  | succ k ih => rw [Rad.Dsk.more]; exact ih.append (bl_bytes _)
                exact this _
              have hrd := HBy.out.rd
              have hTn : (T.take n).length = n := by rw [List.length_take, hTl]; omega
              have hconv2 := conv_back wo ga 0 c (T.take n) (fun x hx => hTb x (List.mem_of_mem_take hx)) (fun j hj => by
                have h := hrd j (by rw [hTn] at hj; omega)
                rw [List.getD_eq_getElem?_getD, List.getElem?_take_of_lt (by rw [hTn] at hj; exact hj), ← List.getD_eq_getElem?_getD]
                exact h)
              rw [hTn] at hconv2
              have hsl := fun wx => run_slice57_to wx ga tl c n hnc (by omega)
              obtain ⟨res, hres⟩ : ∃ res, res = sb (T.take n) := ⟨_, rfl⟩
              rw [← hres] at hconv2 HRP
              clear hT hTb hrd hTn hres hTl htl
              go_wp2_with fail
              refine (HSc.out wo).mono ?_
              rintro e' w' ⟨rfl, rfl⟩
              go_wp2
              go_ret2
              exact ⟨by rw [HR.out]; simp only []; rw [HRP.out]; rfl, HO.out⟩
end Go.Proofs.Ytenngchidlfaeaa
/- A book that is read again: its record, changes, change, told of things apart. -/
namespace Go.Proofs.Ytenngchidlfaeaa
open Go.RowKit
open Rad (Dsk)

section
variable {W w : World} {l l1 l2 : List Rs} {g gd : Nat} {D : Dsk} {B : Bk}
theorem St.bare {A : Nat → Prop} (h : DM w A gd D) : St { w with heap := #[] } w [dskR gd D] :=
  ⟨⟨rfl, rfl, rfl, Nat.zero_le _, fun i hi => absurd hi (Nat.not_lt_zero i)⟩, A, ⟨A, fun _ => False, h, fun _ h => h, fun _ _ h => h, fun k => by simp⟩, fun _ _ => Nat.zero_le _⟩
theorem St.rec127 {N : Nat} (h : St W w (l1 ++ machR g gd D B :: l2)) (ho : D.off = false) (hF : D.Full) (hf : Fits D N) (hN : N ≤ 30000000) (hp : B.pos < D.safe.length) (hl4 : D.safe.length ≤ 4096) :
    Calls Try.prog 127 #[.pointer (some ⟨g, 0, none⟩)] w fun e w' => RecPost D B.pos w e w' := by
  obtain ⟨A, ⟨gl, c, rows, gs, cs, o, cw, hd, hb, hA⟩, _⟩ := h.get
  exact record127 g gd (bcs gl c gd B) D B.pos N _ [] w (St.bare (A := dskOf gd gs o) ⟨gs, cs, o, cw, hd, fun _ => Iff.rfl⟩) hb.book rfl rfl ho hF hf hN hp hl4
theorem St.msectors (h : St W w (l1 ++ machR g gd D B :: l2)) : Calls Try.prog 62 #[.pointer (some ⟨gd, 0, none⟩)] w fun e w' => e = .returned (.int .i64 (D.safe.length : Int)) ∧ w = w' := by
  obtain ⟨A, ⟨gl, c, rows, gs, cs, o, cw, hd, hb, hA⟩, _⟩ := h.get
  exact (St.bare (A := dskOf gd gs o) ⟨gs, cs, o, cw, hd, fun _ => Iff.rfl⟩).sectors (l1 := [])
theorem St.changes (h : St W w (l1 ++ machR g gd D B :: l2)) (o n : Nat) (s : ByteArray) (hs : s.size ≤ 9223372036854775807) :
    Calls Try.prog 118 #[.pointer (some ⟨g, 0, none⟩), .agg #[.int .i64 (o : Int), .int .i64 (n : Int), .string s]] w fun e w' => e = .returned (.bool (B.changes ⟨o, n, s⟩)) ∧ Onl non w w' := by
  obtain ⟨A, ⟨gl, c, rows, gs, cs, oo, cw, hd, hb, hA⟩, _⟩ := h.get
  by_cases hk : OkE (o : Int) (n : Int) s.size
  · by_cases ho : o < B.logs.length
    · refine (changes118_near g gl c gd rows B o n s w hb hk ho).mono fun e w' ⟨he, hw⟩ => ⟨?_, hw⟩
      rw [he]
      unfold Bk.changes Ent.ok
      simp [hk]
    · refine (changes118_far g gl c gd rows B o n s w hb hk (by omega)).mono fun e w' ⟨he, hw⟩ => ⟨?_, hw⟩
      rw [he]
      unfold Bk.changes Bk.fresh
      simp [ho]
  · refine (changes118_no g gl c gd rows B o n s w hs hk).mono fun e w' ⟨he, hw⟩ => ⟨?_, hw⟩
    rw [he]
    unfold Bk.changes Ent.ok
    simp [hk]
theorem St.bchange (h : St W w (l1 ++ machR g gd D B :: l2)) (o n : Nat) (s : ByteArray) (hc : B.changes ⟨o, n, s⟩ = true) :
    Calls Try.prog 129 #[.pointer (some ⟨g, 0, none⟩), .agg #[.int .i64 (o : Int), .int .i64 (n : Int), .string s]] w fun e w' => e = .returned (.tuple #[]) ∧ St W w' (l1 ++ machR g gd D (B.change o n s) :: l2) := by
  unfold Bk.changes Ent.ok at hc
  simp only [Bool.and_eq_true, decide_eq_true_eq, Int.toNat_natCast] at hc
  refine h.call l1 fun A ⟨gl, c, rows, gs, cs, oo, cw, hd, hb, hA⟩ => ?_
  refine (change129 g gl c gd rows B o n s w hb hc.1 hc.2).mono fun e w' ⟨he, rows', hb', ho, hn⟩ => ⟨he, ?_⟩
  refine ⟨fun k => dskOf gd gs oo k ∨ bkOf g gl rows' k, ⟨gl, c, rows', gs, cs, oo, cw, hd.onl ho (fun k hk => dsk_bk hd hb hk), hb', fun _ => Iff.rfl⟩, fun k hk => ?_, ho.mono (fun k hk => (hA k).2 (.inr hk))⟩
  rcases hk with hk | hk
  · exact .inl ((hA k).2 (.inl hk))
  · rcases hn k hk with h | h
    · exact .inl ((hA k).2 (.inr h))
    · exact .inr h
theorem St.bcell1 (h : St W w (l1 ++ machR g gd D B :: l2)) : w.cell? ⟨g, 1, none⟩ = some (.pointer (some ⟨gd, 0, none⟩)) := by
  obtain ⟨A, ⟨gl, c, rows, gs, cs, o, cw, hd, hb, hA⟩, _⟩ := h.get; exact hb.c1
theorem St.bcell2 (h : St W w (l1 ++ machR g gd D B :: l2)) : w.cell? ⟨g, 2, none⟩ = some (.int .i64 (B.pos : Int)) := by
  obtain ⟨A, ⟨gl, c, rows, gs, cs, o, cw, hd, hb, hA⟩, _⟩ := h.get; exact hb.c2
theorem St.bcell3 (h : St W w (l1 ++ machR g gd D B :: l2)) : w.cell? ⟨g, 3, none⟩ = some (.int .i64 (B.falls : Int)) := by
  obtain ⟨A, ⟨gl, c, rows, gs, cs, o, cw, hd, hb, hA⟩, _⟩ := h.get; exact hb.c3
theorem St.bfree (h : St W w (l1 ++ machR g gd D B :: l2)) (j : Nat) : w.frozen? ⟨g, j, none⟩ = false := by
  obtain ⟨A, ⟨gl, c, rows, gs, cs, o, cw, hd, hb, hA⟩, _⟩ := h.get; exact hb.book.free j
theorem St.bpos (h : St W w (l1 ++ machR g gd D B :: l2)) (p : Nat) (hp : p ≤ 4096) : St W (w.setCell ⟨g, 2, none⟩ (.int .i64 (p : Int))) (l1 ++ machR g gd D { B with pos := p } :: l2) := by
  refine h.step l1 fun A ⟨gl, c, rows, gs, cs, o, cw, hd, hb, hA⟩ => ?_
  have ho : Onl (fun k => k = g ∨ dskOf gd gs o k) w (w.setCell ⟨g, 2, none⟩ (.int .i64 (p : Int))) := (Onl.refl _ w).set _ _ (fun _ => .inl rfl)
  have hgd : ¬ dskOf gd gs o g := fun hk => dsk_bk hd hb hk (.inl rfl)
  refine ⟨A, ⟨gl, c, rows, gs, cs, o, cw, hd.onl ((Onl.refl (fun k => k = g) w).set _ _ (fun _ => rfl)) (fun k hk hkg => hgd (by have e : k = g := hkg; rw [← e]; exact hk)), hb.setPos hd ho hp (hb.book.set 2 _), hA⟩, fun k hk => .inl hk, (Onl.refl A w).set _ _ (fun _ => (hA g).2 (.inr (.inl rfl)))⟩
/-- a new book -/
theorem St.mkBook {gl m : Nat} (h : St W w (blkR g 165 [.slice (some ⟨gl, 0, none⟩) m m, .pointer (some ⟨gd, 0, none⟩), .int .i64 1, .int .i64 (D.falls : Int)] :: blkR gl 46 (List.replicate m (.slice none 0 0)) :: dskR gd D :: l))
    (hm : m ≤ 8) (hf : D.falls ≤ 1000000000) : St W w (machR g gd D ⟨List.replicate m [], 1, D.falls⟩ :: l) := by
  obtain ⟨h1, F, ⟨A1, F1, ⟨hb, ha1⟩, ⟨A2, F2, ⟨hl, ha2⟩, ⟨A3, F3, ⟨gs, cs, o, cw, hd, ha3⟩, s4, d3, e3⟩, d2, e2⟩, d1, e1⟩, hW⟩ := h
  refine ⟨h1, F, ⟨fun k => dskOf gd gs o k ∨ bkOf g gl (List.replicate m (none, 0)) k, F3, ?_, s4, ?_, ?_⟩, hW⟩
  · refine ⟨gl, m, List.replicate m (none, 0), gs, cs, o, cw, hd, ?_, fun _ => Iff.rfl⟩
    refine ⟨?_, ?_, by simp, ?_, ?_, by simpa using hm, ?_, ?_, by show 1 ≤ 4096; omega, hf⟩
    · unfold bcs
      simp only [List.length_replicate]
      exact hb
    · rw [List.zipWith_replicate']
      exact hl
    · intro p l r hl hr
      have hl2 : l = [] := List.eq_of_mem_replicate (List.mem_of_getElem? hl)
      have hr2 : r = (none, 0) := List.eq_of_mem_replicate (List.mem_of_getElem? hr)
      subst hl2; subst hr2
      exact Own.nil _ _ _ _
    · intro p q r s _ hr _ k hk
      have hr2 : r = (none, 0) := List.eq_of_mem_replicate (List.mem_of_getElem? hr)
      subst hr2
      simp [ownOf] at hk
    · intro l hl
      have hl2 : l = [] := List.eq_of_mem_replicate hl
      subst hl2; simp
    · intro l hl b hb
      have hl2 : l = [] := List.eq_of_mem_replicate hl
      subst hl2; simp at hb
  · intro k hk hk3
    rcases hk with hk | rfl | rfl | ⟨r, hr, hk⟩
    · exact d3 k ((ha3 k).2 hk) hk3
    · exact d1 _ ((ha1 _).2 rfl) ((e2 _).2 (.inr ((e3 _).2 (.inr hk3))))
    · exact d2 _ ((ha2 _).2 rfl) ((e3 _).2 (.inr hk3))
    · have hr2 : r = (none, 0) := List.eq_of_mem_replicate hr
      subst hr2
      simp [ownOf] at hk
  · intro k
    rw [e1, e2, e3, ha1, ha2, ha3]
    constructor
    · rintro (rfl | rfl | h | h)
      · exact .inl (.inr (.inl rfl))
      · exact .inl (.inr (.inr (.inl rfl)))
      · exact .inl (.inl h)
      · exact .inr h
    · rintro ((h | rfl | rfl | ⟨r, hr, hk⟩) | h)
      · exact .inr (.inr (.inl h))
      · exact .inl rfl
      · exact .inr (.inl rfl)
      · have hr2 : r = (none, 0) := List.eq_of_mem_replicate hr
        subst hr2
        simp [ownOf] at hk
      · exact .inr (.inr (.inr h))
end
theorem sb_drop (s : ByteArray) (k : Nat) : sb ((bl s).drop k) = s.extract k s.size := by
  apply bl_inj
  rw [bl_sb (fun x hx => bl_bytes s x (List.mem_of_mem_drop hx))]
  have h : bl (s.extract k s.size) = ((bl s).drop k).take (s.size - k) := by simp [bl, ByteArray.data_extract, List.map_take, List.map_drop]
  rw [h, List.take_of_length_le (by rw [List.length_drop, bl_length]; omega)]
theorem wrap_pos (p q : Nat) (h : p + q ≤ 1000000) : wrap64 ((p : Int) + (q : Int)) = ((p + q : Nat) : Int) := by
  rw [IntWalk.wrap64_in _ (by omega)]; omega
theorem wrap_pos2 (p q : Nat) (h : p + q ≤ 1000000) : IntKind.i64.wrap ((p : Int) + (q : Int)) = ((p + q : Nat) : Int) := by
  rw [IntWalk.i64_in _ (by omega)]; omega
/-- a record as a message -/
def asEnt : List Nat → Option (Nat × Nat × List Nat)
  | k :: o :: n :: b => if k = 2 then some (o, n, b) else none
  | _ => none
/-- a book read on -/
def openB (D : Dsk) : Nat → Bk → Bk
  | 0, B => B
  | f + 1, B => match D.recN B.pos with
    | none => B
    | some m => match asEnt (D.recP B.pos m) with
      | none => B
      | some (o, n, b) => if B.changes ⟨o, n, sb b⟩ then openB D f { B.change o n (sb b) with pos := B.pos + sectorsOf m } else B
/-- a cell of a block of one's own is stored -/
theorem St.setB {W w : World} {l2 : List Rs} (l1 : List Rs) {g : Nat} {t : TypeId} {cs : List Value} (h : St W w (l1 ++ blkR g t cs :: l2)) (i : Nat) (v : Value) : St W (w.setCell ⟨g, i, none⟩ v) (l1 ++ blkR g t (cs.set i v) :: l2) :=
  h.step l1 (fun A ⟨hb, ha⟩ => ⟨A, ⟨hb.set i v, ha⟩, fun _ hk => .inl hk, (Onl.refl A w).set _ _ (fun _ => (ha g).2 rfl)⟩)
theorem Sep.swap {w : World} {r1 r2 : Rs} {l2 : List Rs} : ∀ {l1 : List Rs} {F : Nat → Prop}, Sep w (l1 ++ r1 :: r2 :: l2) F → Sep w (l1 ++ r2 :: r1 :: l2) F
  | [], F, ⟨A, B, h1, ⟨A2, B2, h2, h3, h4, h5⟩, h6, h7⟩ => by
    refine ⟨A2, fun k => A k ∨ B2 k, h2, ⟨A, B2, h1, h3, fun k ha hb => h6 k ha ((h5 k).2 (.inr hb)), fun _ => Iff.rfl⟩, fun k ha hb => ?_, fun k => ?_⟩
    · rcases hb with hb | hb
      · exact h6 k hb ((h5 k).2 (.inl ha))
      · exact h4 k ha hb
    · rw [h7, h5]
      constructor
      · rintro (h | h | h)
        · exact .inr (.inl h)
        · exact .inl h
        · exact .inr (.inr h)
      · rintro (h | h | h)
        · exact .inr (.inl h)
        · exact .inl h
        · exact .inr (.inr h)
  | _ :: _, _, ⟨A, B, h1, h2, h3, h4⟩ => ⟨A, B, h1, h2.swap, h3, h4⟩
theorem St.swap {W w : World} {r1 r2 : Rs} {l2 : List Rs} (l1 : List Rs) (h : St W w (l1 ++ r1 :: r2 :: l2)) : St W w (l1 ++ r2 :: r1 :: l2) := by
  obtain ⟨h1, F, h2, h3⟩ := h
  exact ⟨h1, F, h2.swap, h3⟩
/-- the first record -/
def asFirst : List Nat → Option Nat
  | [k, m] => if k = 1 ∧ 1 ≤ m ∧ m ≤ 8 then some m else none
  | _ => none
theorem asFirst_none {L : List Nat} (h : L.length ≠ 2) : asFirst L = none := by
  unfold asFirst
  split
  · simp at h
  · rfl
theorem asFirst_two {L : List Nat} (h : L.length = 2) : asFirst L = if L.getD 0 0 = 1 ∧ 1 ≤ L.getD 1 0 ∧ L.getD 1 0 ≤ 8 then some (L.getD 1 0) else none := by
  match L, h with
  | [a, b], _ => rfl
theorem asEnt_short {L : List Nat} (h : L.length < 3) : asEnt L = none := by
  unfold asEnt
  split
  · simp at h
    omega
  · rfl
theorem asEnt_long {L : List Nat} (h : 3 ≤ L.length) : asEnt L = if L.getD 0 0 = 2 then some (L.getD 1 0, L.getD 2 0, L.drop 3) else none := by
  match L, h with
  | a :: b :: c :: r, _ => rfl
def firstM (D : Dsk) : Option Nat := match D.recN 0 with
  | none => none
  | some m => asFirst (D.recP 0 m)
theorem openB_stop {D : Dsk} {B : Bk} (h : D.recN B.pos = none) (f : Nat) : openB D f B = B := by
  cases f with
  | zero => rfl
  | succ f => unfold openB; rw [h]
theorem recN_far {D : Dsk} {p : Nat} (h : D.safe.length ≤ p) : D.recN p = none := by
  unfold Dsk.recN
  rw [if_neg (by omega)]
theorem openB_some {D : Dsk} {B : Bk} {m : Nat} (h : D.recN B.pos = some m) (f : Nat) : openB D (f + 1) B = match asEnt (D.recP B.pos m) with
      | none => B
      | some (o, n, b) => if B.changes ⟨o, n, sb b⟩ then openB D f { B.change o n (sb b) with pos := B.pos + sectorsOf m } else B := by
  rw [openB, h]
/-- a book read from its disk -/
def openM (D : Dsk) : Option Bk := (firstM D).map fun m => openB D D.safe.length ⟨List.replicate m [], 1, D.falls⟩
theorem recN_some {D : Dsk} {p n : Nat} (h : D.recN p = some n) : 1 ≤ n ∧ n ≤ 4096 ∧ p < D.safe.length ∧ p + sectorsOf n ≤ D.safe.length := by
  unfold Dsk.recN at h
  split at h
  · rename_i hc
    obtain ⟨h1, h2, h3, h4, h5⟩ := hc
    simp only [Option.some.injEq] at h
    subst h
    exact ⟨h3, h4, h1, h5⟩
  · cases h
theorem recP_bytes (D : Dsk) (p n : Nat) : Rad.Bytes (D.recP p n) := by
  unfold Dsk.recP
  have hm : ∀ k, Rad.Bytes (D.more p k) := by
    intro k
    induction k with
    | zero => intro x hx; cases hx
    | succ k ih => rw [Dsk.more]; exact ih.append (bl_bytes _)
  intro x hx
  have hx := List.mem_of_mem_take hx
  rcases List.mem_append.1 hx with h | h
  · exact bl_bytes _ x (List.mem_of_mem_drop (List.mem_of_mem_take h))
  · exact hm _ x h
theorem recP_length {D : Dsk} (hF : D.Full) {p n : Nat} (h : D.recN p = some n) : (D.recP p n).length = n := by
  unfold Dsk.recN at h
  split at h
  · rename_i hc
    obtain ⟨h1, h2, h3, h4, h5⟩ := hc
    simp only [Option.some.injEq] at h
    subst h
    unfold Dsk.recP
    have hs : Rad.le4 (bl (D.eff p)) ≤ 59 + 64 * (sectorsOf (Rad.le4 (bl (D.eff p))) - 1) := by unfold sectorsOf; omega
    have hs1 : 1 ≤ sectorsOf (Rad.le4 (bl (D.eff p))) := by unfold sectorsOf; omega
    rw [List.length_take, List.length_append, List.length_take, List.length_drop, bl_length, Rad.Dsk.eff_full hF h1, Dsk.more_length hF (by omega)]
    omega
  · cases h
end Go.Proofs.Ytenngchidlfaeaa
/- A book alone, its disk told apart. -/
namespace Go.Proofs.Ytenngchidlfaeaa
open Go.RowKit
open Rad (Dsk)

/-- a book, without its disk -/
def bookR (g gd : Nat) (B : Bk) : Rs where
  at_ := fun w A => ∃ gl c rows, BkAt w g gl c gd rows B ∧ ∀ k, A k ↔ bkOf g gl rows k
  lt := fun ⟨_, _, _, h1, h2⟩ k hk => h1.lt ((h2 k).1 hk)
  onl := fun ⟨gl, c, rows, h1, h2⟩ ho hs => ⟨gl, c, rows, h1.onl ho (fun k hk => hs k ((h2 k).2 hk)), h2⟩
theorem DskAt.bare {w : World} {gd gs cs : Nat} {o : Option Addr} {cw : Nat} {D : Dsk} (hd : DskAt w gd gs cs o cw D) : St { w with heap := #[] } w [dskR gd D] :=
  St.bare (A := dskOf gd gs o) ⟨gs, cs, o, cw, hd, fun _ => Iff.rfl⟩
theorem St.bareM {w : World} {A : Nat → Prop} {g gd : Nat} {D : Dsk} {B : Bk} (h : Mach w A g gd D B) : St { w with heap := #[] } w [machR g gd D B] :=
  ⟨⟨rfl, rfl, rfl, Nat.zero_le _, fun i hi => absurd hi (Nat.not_lt_zero i)⟩, A, ⟨A, fun _ => False, h, fun _ h => h, fun _ _ h => h, fun k => by simp⟩, fun _ _ => Nat.zero_le _⟩
section
variable {W w : World} {l l1 l2 : List Rs} {g gd gs cs cw : Nat} {o : Option Addr} {D : Dsk} {B : Bk}
theorem St.krec {N : Nat} (h : St W w (l1 ++ bookR g gd B :: l2)) (hd : DskAt w gd gs cs o cw D) (ho : D.off = false) (hF : D.Full) (hf : Fits D N) (hN : N ≤ 30000000) (hp : B.pos < D.safe.length) (hl4 : D.safe.length ≤ 4096) :
    Calls Try.prog 127 #[.pointer (some ⟨g, 0, none⟩)] w fun e w' => RecPost D B.pos w e w' := by
  obtain ⟨A, ⟨gl, c, rows, hb, hA⟩, _⟩ := h.get
  exact record127 g gd (bcs gl c gd B) D B.pos N _ [] w hd.bare hb.book rfl rfl ho hF hf hN hp hl4
theorem St.kmach (h : St W w (l1 ++ bookR g gd B :: l2)) (hd : DskAt w gd gs cs o cw D) : ∃ A, Mach w A g gd D B := by
  obtain ⟨A, ⟨gl, c, rows, hb, hA⟩, _⟩ := h.get
  exact ⟨_, gl, c, rows, gs, cs, o, cw, hd, hb, fun _ => Iff.rfl⟩
theorem St.kchanges (h : St W w (l1 ++ bookR g gd B :: l2)) (hd : DskAt w gd gs cs o cw D) (p n : Nat) (s : ByteArray) (hs : s.size ≤ 9223372036854775807) :
    Calls Try.prog 118 #[.pointer (some ⟨g, 0, none⟩), .agg #[.int .i64 (p : Int), .int .i64 (n : Int), .string s]] w fun e w' => e = .returned (.bool (B.changes ⟨p, n, s⟩)) ∧ Onl non w w' := by
  obtain ⟨A, hm⟩ := h.kmach hd
  exact (St.bareM hm).changes (l1 := []) p n s hs
theorem St.kchange (h : St W w (l1 ++ bookR g gd B :: l2)) (p n : Nat) (s : ByteArray) (hc : B.changes ⟨p, n, s⟩ = true) :
    Calls Try.prog 129 #[.pointer (some ⟨g, 0, none⟩), .agg #[.int .i64 (p : Int), .int .i64 (n : Int), .string s]] w fun e w' => e = .returned (.tuple #[]) ∧ St W w' (l1 ++ bookR g gd (B.change p n s) :: l2) := by
  unfold Bk.changes Ent.ok at hc
  simp only [Bool.and_eq_true, decide_eq_true_eq, Int.toNat_natCast] at hc
  refine h.call l1 fun A ⟨gl, c, rows, hb, hA⟩ => ?_
  refine (change129 g gl c gd rows B p n s w hb hc.1 hc.2).mono fun e w' ⟨he, rows', hb', ho, hn⟩ => ⟨he, ?_⟩
  refine ⟨bkOf g gl rows', ⟨gl, c, rows', hb', fun _ => Iff.rfl⟩, fun k hk => ?_, ho.mono (fun k hk => (hA k).2 hk)⟩
  rcases hn k hk with h | h
  · exact .inl ((hA k).2 h)
  · exact .inr h
theorem St.kcell2 (h : St W w (l1 ++ bookR g gd B :: l2)) : w.cell? ⟨g, 2, none⟩ = some (.int .i64 (B.pos : Int)) := by
  obtain ⟨A, ⟨gl, c, rows, hb, hA⟩, _⟩ := h.get; exact hb.c2
theorem St.kfree (h : St W w (l1 ++ bookR g gd B :: l2)) (j : Nat) : w.frozen? ⟨g, j, none⟩ = false := by
  obtain ⟨A, ⟨gl, c, rows, hb, hA⟩, _⟩ := h.get; exact hb.book.free j
theorem St.kpos (h : St W w (l1 ++ bookR g gd B :: l2)) (hd : DskAt w gd gs cs o cw D) (p : Nat) (hp : p ≤ 4096) : St W (w.setCell ⟨g, 2, none⟩ (.int .i64 (p : Int))) (l1 ++ bookR g gd { B with pos := p } :: l2) := by
  refine h.step l1 fun A ⟨gl, c, rows, hb, hA⟩ => ?_
  have ho : Onl (fun k => k = g ∨ dskOf gd gs o k) w (w.setCell ⟨g, 2, none⟩ (.int .i64 (p : Int))) := (Onl.refl _ w).set _ _ (fun _ => .inl rfl)
  exact ⟨A, ⟨gl, c, rows, hb.setPos hd ho hp (hb.book.set 2 _), hA⟩, fun k hk => .inl hk, (Onl.refl A w).set _ _ (fun _ => (hA g).2 (.inl rfl))⟩
theorem St.mkBk {gl m f : Nat} (h : St W w (blkR g 165 [.slice (some ⟨gl, 0, none⟩) m m, .pointer (some ⟨gd, 0, none⟩), .int .i64 1, .int .i64 (f : Int)] :: blkR gl 46 (List.replicate m (.slice none 0 0)) :: l))
    (hm : m ≤ 8) (hf : f ≤ 1000000000) : St W w (bookR g gd ⟨List.replicate m [], 1, f⟩ :: l) := by
  obtain ⟨h1, F, ⟨A1, F1, ⟨hb, ha1⟩, ⟨A2, F2, ⟨hl, ha2⟩, s4, d2, e2⟩, d1, e1⟩, hW⟩ := h
  refine ⟨h1, F, ⟨bkOf g gl (List.replicate m (none, 0)), F2, ?_, s4, ?_, ?_⟩, hW⟩
  · refine ⟨gl, m, List.replicate m (none, 0), ?_, fun _ => Iff.rfl⟩
    refine ⟨?_, ?_, by simp, ?_, ?_, by simpa using hm, ?_, ?_, by show 1 ≤ 4096; omega, hf⟩
    · unfold bcs
      simp only [List.length_replicate]
      exact hb
    · rw [List.zipWith_replicate']
      exact hl
    · intro p l r hl hr
      have hl2 : l = [] := List.eq_of_mem_replicate (List.mem_of_getElem? hl)
      have hr2 : r = (none, 0) := List.eq_of_mem_replicate (List.mem_of_getElem? hr)
      subst hl2; subst hr2
      exact Own.nil _ _ _ _
    · intro p q r s _ hr _ k hk
      have hr2 : r = (none, 0) := List.eq_of_mem_replicate (List.mem_of_getElem? hr)
      subst hr2
      simp [ownOf] at hk
    · intro l hl
      have hl2 : l = [] := List.eq_of_mem_replicate hl
      subst hl2; simp
    · intro l hl b hb
      have hl2 : l = [] := List.eq_of_mem_replicate hl
      subst hl2; simp at hb
  · intro k hk hk3
    rcases hk with rfl | rfl | ⟨r, hr, hk⟩
    · exact d1 _ ((ha1 _).2 rfl) ((e2 _).2 (.inr hk3))
    · exact d2 _ ((ha2 _).2 rfl) hk3
    · have hr2 : r = (none, 0) := List.eq_of_mem_replicate hr
      subst hr2
      simp [ownOf] at hk
  · intro k
    rw [e1, e2, ha1, ha2]
    constructor
    · rintro (rfl | rfl | h)
      · exact .inl (.inl rfl)
      · exact .inl (.inr (.inl rfl))
      · exact .inr h
    · rintro ((rfl | rfl | ⟨r, hr, hk⟩) | h)
      · exact .inl rfl
      · exact .inr (.inl rfl)
      · have hr2 : r = (none, 0) := List.eq_of_mem_replicate hr
        subst hr2
        simp [ownOf] at hk
      · exact .inr (.inr h)
end
end Go.Proofs.Ytenngchidlfaeaa
/- The program's book: Open, walked. -/
namespace Go.Proofs.Ytenngchidlfaeaa
open Go.RowKit
open Rad (Dsk)

def OpenPost (gd : Nat) (D : Dsk) (w : World) (e : Ending) (w' : World) : Prop :=
  Onl non w w' ∧ (if D.off = true then e = .returned (.tuple #[.pointer none, .int .i64 93])
  else match openM D with
    | none => e = .returned (.tuple #[.pointer none, .int .i64 95])
    | some B => ∃ g A, e = .returned (.tuple #[.pointer (some ⟨g, 0, none⟩), .int .i64 0]) ∧ Mach w' A g gd D B)
set_option maxRecDepth 100000 in
set_option maxHeartbeats 2000000 in
theorem Open77 (gd gs cs cw : Nat) (o : Option Addr) (D : Dsk) (N : Nat) (w : World) (h : DskAt w gd gs cs o cw D) (hF : D.Full) (hf : Fits D N) (hN : N ≤ 30000000) (hl0 : 0 < D.safe.length) (hl4 : D.safe.length ≤ 4096) :
    Calls Try.prog 77 #[.pointer (some ⟨gd, 0, none⟩)] w fun e w' => OpenPost gd D w e w' := by
  have HU := Lib.hid (Up60 gd gs cs o cw D w h)
  have HDk := Lib.hid h
  have HS := Lib.hid (St.start w)
  have HFu := Lib.hid hF
  have HFi := Lib.hid hf
  have HL4 := Lib.hid hl4
  have HL0 := Lib.hid hl0
  have hfl : D.falls ≤ 1000000000 := by have := hf.1; omega
  have hc4 : w.cell? ⟨gd, 4, none⟩ = some (.int .i64 (D.falls : Int)) := h.c4
  clear h hF hf hl4 hl0
  obtain ⟨off, hoff⟩ : ∃ off, off = D.off := ⟨_, rfl⟩
  rw [← hoff] at HU
  have HOff := Lib.hid hoff
  clear hoff
  cases off with
  | true =>
    go_enter Try.func77, Try.ntmps77
    go_wp2_with fail
    refine HU.out.mono ?_
    rintro e w' ⟨rfl, rfl⟩
    go_wp2
    go_ret2
    unfold OpenPost
    rw [if_pos HOff.out.symm]
    exact ⟨Onl.refl _ _, rfl⟩
  | false =>
    have HP : Hid (∀ e w', Onl non w w' → (match openM D with
      | none => e = .returned (.tuple #[.pointer none, .int .i64 95])
      | some B => ∃ g A, e = .returned (.tuple #[.pointer (some ⟨g, 0, none⟩), .int .i64 0]) ∧ Mach w' A g gd D B) → OpenPost gd D w e w') := Lib.hid (fun e w' ho h => by
      unfold OpenPost
      rw [if_neg (by rw [← HOff.out]; simp)]
      exact ⟨ho, h⟩)
    have HPn : Hid (openM D = none → ∀ w', Onl non w w' → OpenPost gd D w (.returned (.tuple #[.pointer none, .int .i64 95])) w') := Lib.hid (fun hm w' ho => HP.out _ _ ho (by rw [hm]))
    have HPs : Hid (∀ B, openM D = some B → ∀ w' g, St w w' [bookR g gd B] → OpenPost gd D w (.returned (.tuple #[.pointer (some ⟨g, 0, none⟩), .int .i64 0])) w') := Lib.hid (fun B hm w' g hs => by
      obtain ⟨A, hA⟩ := hs.kmach (l1 := []) (HDk.out.onl hs.base (fun _ _ h => h))
      exact HP.out _ _ hs.base (by rw [hm]; exact ⟨g, A, rfl, hA⟩))
    clear HP
    go_enter Try.func77, Try.ntmps77
    go_wp2_with fail
    refine HU.out.mono ?_
    rintro e w' ⟨rfl, rfl⟩
    go_wp2_with fail
    obtain ⟨g, hg⟩ : ∃ g, g = w.heap.size := ⟨_, rfl⟩
    rw [← hg]
    obtain ⟨w1, hw1⟩ : ∃ w1, w1 = w.alloc (.cells #[.slice none 0 0, .pointer (some ⟨gd, 0, none⟩), .int .i64 0, .int .i64 (D.falls : Int)] 165) := ⟨_, rfl⟩
    rw [← hw1]
    have HT : Hid (St w w1 [blkR g 165 [.slice none 0 0, .pointer (some ⟨gd, 0, none⟩), .int .i64 ((0 : Nat) : Int), .int .i64 (D.falls : Int)]]) := Lib.hid (by rw [hw1, hg]; exact HS.out.newBlk 165 _)
    have hrec : Calls Try.prog 127 #[.pointer (some ⟨g, 0, none⟩)] w1 fun e w' => RecPost D 0 w1 e w' :=
      record127 g gd _ D 0 N _ [] w1 (HDk.out.onl HT.out.base (fun _ _ h => h)).bare (HT.out.blk (l1 := [])) rfl rfl HOff.out.symm HFu.out HFi.out hN HL0.out HL4.out
    clear hw1 hg hc4 HU HS
    refine hrec.mono ?_
    rintro e w2 ⟨he, ho2⟩
    have HT2 := Lib.hid (HT.out.onl ho2)
    clear hrec ho2 HT
    cases hrn : D.recN 0 with
    | none =>
      rw [hrn] at he
      have HM : Hid (openM D = none) := Lib.hid (by unfold openM firstM; rw [hrn]; rfl)
      clear hrn
      subst he
      go_wp2
      go_ret2
      exact HPn.out HM.out _ HT2.out.base
    | some n =>
    rw [hrn] at he
    obtain ⟨L, hL⟩ : ∃ L, L = D.recP 0 n := ⟨_, rfl⟩
    have HM : Hid (openM D = (asFirst L).map fun m => openB D D.safe.length ⟨List.replicate m [], 1, D.falls⟩) := Lib.hid (by unfold openM firstM; rw [hrn, hL])
    have hLn : L.length = n := by rw [hL]; exact recP_length HFu.out hrn
    have hLb : Rad.Bytes L := by rw [hL]; exact recP_bytes _ _ _
    obtain ⟨t, ht⟩ : ∃ t, t = sb L := ⟨_, rfl⟩
    have hts : t.size = n := by rw [ht, sb_size, hLn]
    have hbt : bl t = L := by rw [ht, bl_sb hLb]
    have hn4 := (recN_some hrn).2.1
    simp only [← hL, ← ht] at he
    subst he
    clear hrn hL ht hLb
    by_cases h2 : n = 2
    rotate_left
    · have HN : Hid (openM D = none) := Lib.hid (by rw [HM.out, asFirst_none (by omega)]; rfl)
      have hb : ((t.size : Int) != 2) = true := by rw [bne_iff_ne]; omega
      clear hLn hts hbt h2
      go_wp2
      go_ret2
      exact HPn.out HN.out _ HT2.out.base
    subst h2
    have hb : ((t.size : Int) != 2) = false := eq_bne (b := 2) (by omega)
    have i1 : (0 : Int) < (t.size : Int) := by omega
    have i2 : (1 : Int) < (t.size : Int) := by omega
    have p0 : 0 < t.size := by omega
    have p1 : 1 < t.size := by omega
    have HTs := Lib.hid hts
    have ha2 := asFirst_two hLn
    rw [← hbt, bl_getD40 t 0 p0, bl_getD40 t 1 p1] at ha2
    rw [← hbt, ha2] at HM
    obtain ⟨x0, hx0⟩ : ∃ x0, x0 = t[0].toNat := ⟨_, rfl⟩
    obtain ⟨x1, hx1⟩ : ∃ x1, x1 = t[1].toNat := ⟨_, rfl⟩
    rw [← hx0, ← hx1] at HM
    have hx2 : x1 < 256 := by rw [hx1]; exact t[1].toNat_lt
    clear ha2 hLn hbt hts
    by_cases h0 : x0 = 1
    rotate_left
    · have hb0 : ((t[0].toNat : Int) != 1) = true := ne_bne (b := 1) (by omega)
      have HN : Hid (openM D = none) := Lib.hid (by rw [HM.out, if_neg (by omega)]; rfl)
      clear hx0 hx1 h0
      go_wp2
      go_ret2
      exact HPn.out HN.out _ HT2.out.base
    have hb0 : ((t[0].toNat : Int) != 1) = false := eq_bne (b := 1) (by omega)
    by_cases h1 : x1 < 1
    · have hb1 : decide ((t[1].toNat : Int) < 1) = true := decide_eq_true (by omega)
      have HN : Hid (openM D = none) := Lib.hid (by rw [HM.out, if_neg (by omega)]; rfl)
      clear hx0 hx1 h0 h1
      go_wp2
      go_ret2
      exact HPn.out HN.out _ HT2.out.base
    have hb1 : decide ((t[1].toNat : Int) < 1) = false := decide_eq_false (by omega)
    have hcv : IntKind.i64.wrap ((t[1].toNat : Nat) : Int) = (x1 : Int) := by rw [← hx1, IntWalk.i64_in _ (by omega)]
    by_cases h8 : 8 < x1
    · have hb8 : decide ((8 : Int) < (x1 : Int)) = true := decide_eq_true (by omega)
      have HN : Hid (openM D = none) := Lib.hid (by rw [HM.out, if_neg (by omega)]; rfl)
      clear hx0 hx1 h0 h1 h8
      go_wp2
      go_ret2
      exact HPn.out HN.out _ HT2.out.base
    have hb8 : decide ((8 : Int) < (x1 : Int)) = false := decide_eq_false (by omega)
    rw [if_pos (by omega)] at HM
    have hmk := run_make_row' (P := Try.prog) 163 46 (.slice none 0 0) 24 Try.underlying163 info46 rfl .u8 .u8 x1 (by omega) (by omega) w2
    obtain ⟨gl, hgl⟩ : ∃ gl, gl = w2.heap.size := ⟨_, rfl⟩
    obtain ⟨w3, hw3⟩ : ∃ w3, w3 = w2.alloc (.cells (madeCells #[.slice none 0 0] x1) 46) := ⟨_, rfl⟩
    have HT3 : Hid (St w w3 [blkR gl 46 (List.replicate x1 (.slice none 0 0)), blkR g 165 [.slice none 0 0, .pointer (some ⟨gd, 0, none⟩), .int .i64 ((0 : Nat) : Int), .int .i64 (D.falls : Int)]]) := Lib.hid (by rw [hw3, hgl, made_replicate]; exact HT2.out.newBlk 46 _)
    rw [← hw3, ← hgl] at hmk
    clear hw3 hgl HT2
    have hc0 : w3.cell? ⟨g, 0, none⟩ = some (.slice none 0 0) := (HT3.out.blk (l1 := [_])).cell' rfl
    have hf0 : w3.frozen? ⟨g, 0, none⟩ = false := (HT3.out.blk (l1 := [_])).free 0
    obtain ⟨w4, hw4⟩ : ∃ w4, w4 = w3.setCell ⟨g, 0, none⟩ (.slice (some ⟨gl, 0, none⟩) x1 x1) := ⟨_, rfl⟩
    have HT4 := Lib.hid (HT3.out.setB [_] 0 (.slice (some ⟨gl, 0, none⟩) x1 x1))
    rw [← hw4] at HT4
    rw [hx1] at hmk
    have hmk2 : (Instr.makeSlice 163 (.int .u8 (t[1].toNat : Int)) (.int .u8 (t[1].toNat : Int))).run Try.prog w2 = .ok (.slice (some ⟨gl, 0, none⟩) x1 x1) w3 := by rw [hmk, hx1]
    have HX := Lib.hid hx1
    have HX8 : Hid (1 ≤ x1 ∧ x1 ≤ 8) := Lib.hid (by omega)
    clear hmk h1 h8 hx1 hx2 h0 hx0
    go_wp2_with fail
    rw [← hw4]
    clear hw4 hc0 hf0 hmk2 HT3
    have hsc := sectors128 t.size w4 (by have := HTs.out; omega)
    have hsc1 : (sectorsOf t.size : Int) = 1 := by rw [HTs.out]; rfl
    rw [hsc1] at hsc
    refine hsc.mono ?_
    rintro e w' ⟨rfl, rfl⟩
    clear hsc hsc1
    have hc2 : w4.cell? ⟨g, 2, none⟩ = some (.int .i64 ((0 : Nat) : Int)) := (HT4.out.blk (l1 := [_])).cell' rfl
    have hf2 : w4.frozen? ⟨g, 2, none⟩ = false := (HT4.out.blk (l1 := [_])).free 2
    obtain ⟨w5, hw5⟩ : ∃ w5, w5 = w4.setCell ⟨g, 2, none⟩ (.int .i64 1) := ⟨_, rfl⟩
    have HT5 : Hid (St w w5 [bookR g gd ⟨List.replicate x1 [], 1, D.falls⟩]) := Lib.hid (by
      have h := HT4.out.setB [_] 2 (.int .i64 1)
      rw [← hw5] at h
      exact (h.swap []).mkBk HX8.out.2 hfl)
    have HM2 : Hid (openM D = some (openB D D.safe.length ⟨List.replicate x1 [], 1, D.falls⟩)) := Lib.hid HM.out
    clear HM
    go_wp2_with fail
    rw [← hw5]
    clear hw5 hc2 hf2 HT4 hb hb0 hb1 hcv hb8
    obtain ⟨R, hR⟩ : ∃ R, R = openB D D.safe.length ⟨List.replicate x1 [], 1, D.falls⟩ := ⟨_, rfl⟩
    rw [← hR] at HM2
    have HR0 := Lib.hid hR
    obtain ⟨m, hm⟩ : ∃ m, m = D.safe.length := ⟨_, rfl⟩
    have HMl := Lib.hid hm
    have hm4 : m ≤ 4096 := by rw [hm]; exact HL4.out
    have HOf : Hid (D.off = false) := Lib.hid HOff.out.symm
    clear hR hm HOff HX
    go_loopw [7] (fun _ wr => ∃ (f : Nat) (B : Bk), Hid (St w wr [bookR g gd B]) ∧ Hid (openB D f B = R) ∧ m ≤ B.pos + f) (fun _ wr => match wr.cell? ⟨g, 2, none⟩ with | some v => m - (intOf v).toNat | none => 0)
    case atStart => exact ⟨m, _, HT5, Lib.hid (by rw [HR0.out, HMl.out]), by show m ≤ 1 + m; omega⟩
    case round =>
      clear HT5 HR0
      obtain ⟨wo, rfl⟩ : ∃ wo : World, wo = wr := ⟨_, rfl⟩
      obtain ⟨f, B, HT, HR, hf⟩ := hrel
      obtain ⟨p, hp⟩ : ∃ p, p = B.pos := ⟨_, rfl⟩
      rw [← hp] at hf
      have HPo := Lib.hid hp
      have hc2 : wo.cell? ⟨g, 2, none⟩ = some (.int .i64 (p : Int)) := by rw [hp]; exact HT.out.kcell2 (l1 := [])
      have HC2 := Lib.hid hc2
      have hx2 : ∀ x : Ext non wo, x.val.cell? ⟨g, 2, none⟩ = some (.int .i64 (p : Int)) := fun x => by rw [hp]; exact (HT.out.onl x.property).kcell2 (l1 := [])
      have HSec : Hid (∀ wx, Onl non wo wx → Calls Try.prog 62 #[.pointer (some ⟨gd, 0, none⟩)] wx fun e w' => e = .returned (.int .i64 (m : Int)) ∧ wx = w') := Lib.hid (fun wx hx => by rw [HMl.out]; exact (HDk.out.onl (HT.out.onl hx).base (fun _ _ h => h)).bare.sectors (l1 := []))
      clear hp hc2
      go_upto_region 11 with fail
      refine wp_region_quiet_class (fun w' => ∃ x : Ext non wo, w' = x.val) (by kernel_rfl) (by kernel_rfl) ⟨⟨wo.drew, (Onl.refl non wo).drew⟩, rfl⟩ ?_
      repeat (go_big_quiet_step ((go_at_call 62; exact qcall_same (HSec.out _ (Subtype.property _)))))
      refine wpQuiet_nil ?_
      intro wz hw'
      obtain ⟨x, rfl⟩ := hw'
      obtain ⟨w6, hw6⟩ : ∃ w6, w6 = x.val := ⟨_, rfl⟩
      have HT6 : Hid (St w w6 [bookR g gd B]) := Lib.hid (by rw [hw6]; exact HT.out.onl x.property)
      rw [← hw6]
      clear hw6 HT hx2 HSec
      by_cases hpm : p < m
      rotate_left
      · have HE : Hid (R = B) := Lib.hid (by rw [← HR.out]; exact openB_stop (recN_far (by rw [← HMl.out, ← HPo.out]; omega)) f)
        go_wp2
        go_ret2
        exact HPs.out _ (by rw [HM2.out, HE.out]) _ _ (HT6.out)
      obtain ⟨f, rfl⟩ : ∃ f', f = f' + 1 := ⟨f - 1, by omega⟩
      have hrec : Calls Try.prog 127 #[.pointer (some ⟨g, 0, none⟩)] w6 fun e w' => RecPost D B.pos w6 e w' :=
        HT6.out.krec (l1 := []) (HDk.out.onl HT6.out.base (fun _ _ h => h)) HOf.out HFu.out HFi.out hN (by rw [← HMl.out, ← HPo.out]; exact hpm) HL4.out
      go_wp2_with fail
      refine hrec.mono ?_
      rintro e w7 ⟨he, ho7⟩
      have HT7 := Lib.hid (HT6.out.onl ho7)
      clear hrec ho7 HT6
      cases hrn : D.recN B.pos with
      | none =>
        rw [hrn] at he
        have HE : Hid (R = B) := Lib.hid (by rw [← HR.out]; exact openB_stop hrn _)
        clear hrn
        subst he
        go_wp2
        go_ret2
        exact HPs.out _ (by rw [HM2.out, HE.out]) _ _ (HT7.out)
      | some n =>
      rw [hrn] at he
      rw [openB_some hrn] at HR
      obtain ⟨L, hL⟩ : ∃ L, L = D.recP B.pos n := ⟨_, rfl⟩
      have hLn : L.length = n := by rw [hL]; exact recP_length HFu.out hrn
      have hLb : Rad.Bytes L := by rw [hL]; exact recP_bytes _ _ _
      obtain ⟨s, ht⟩ : ∃ s, s = sb L := ⟨_, rfl⟩
      have hss : s.size = n := by rw [ht, sb_size, hLn]
      have hbs : bl s = L := by rw [ht, bl_sb hLb]
      obtain ⟨_, hn4, _, hpn⟩ := recN_some hrn
      rw [← HMl.out, ← HPo.out] at hpn
      simp only [← hL, ← ht] at he
      rw [← hL] at HR
      subst he
      clear hrn hL ht hLb
      by_cases h2 : n < 3
      · have HE : Hid (R = B) := Lib.hid (by rw [← HR.out, asEnt_short (by omega)])
        have d2 : decide ((s.size : Int) < 3) = true := decide_eq_true (by omega)
        clear hLn hss hbs h2
        go_wp2
        go_ret2
        exact HPs.out _ (by rw [HM2.out, HE.out]) _ _ (HT7.out)
      have d2 : decide ((s.size : Int) < 3) = false := decide_eq_false (by omega)
      have j0 : (0 : Int) < (s.size : Int) := by omega
      have j1 : (1 : Int) < (s.size : Int) := by omega
      have j2 : (2 : Int) < (s.size : Int) := by omega
      have j3 : (3 : Int) ≤ (s.size : Int) := by omega
      have q0 : 0 < s.size := by omega
      have q1 : 1 < s.size := by omega
      have q2 : 2 < s.size := by omega
      rw [asEnt_long (by omega), ← hbs, bl_getD40 s 0 q0, bl_getD40 s 1 q1, bl_getD40 s 2 q2] at HR
      obtain ⟨x0, hx0⟩ : ∃ x0, x0 = s[0].toNat := ⟨_, rfl⟩
      obtain ⟨xo, hxo⟩ : ∃ xo, xo = s[1].toNat := ⟨_, rfl⟩
      obtain ⟨xn, hxn⟩ : ∃ xn, xn = s[2].toNat := ⟨_, rfl⟩
      rw [← hx0, ← hxo, ← hxn] at HR
      have HTs2 := Lib.hid hss
      have hn4' : s.size ≤ 4096 := by omega
      have hdr := sb_drop s 3
      by_cases h0 : x0 = 2
      rotate_left
      · have d0 : ((s[0].toNat : Int) != 2) = true := ne_bne (b := 2) (by omega)
        have HE : Hid (R = B) := Lib.hid (by rw [← HR.out, if_neg h0])
        clear hx0 hxo hxn hLn hss hbs h2 h0 hdr
        go_wp2
        go_ret2
        exact HPs.out _ (by rw [HM2.out, HE.out]) _ _ (HT7.out)
      have d0 : ((s[0].toNat : Int) != 2) = false := eq_bne (b := 2) (by omega)
      rw [if_pos h0] at HR
      simp only [hdr] at HR
      obtain ⟨y, hy⟩ : ∃ y, y = s.extract 3 s.size := ⟨_, rfl⟩
      rw [← hy] at HR
      have hys : y.size ≤ 4096 := by rw [hy, ByteArray.size_extract]; omega
      have hco : IntKind.i64.wrap ((s[1].toNat : Nat) : Int) = (xo : Int) := by rw [← hxo, IntWalk.i64_in _ (by have := s[1].toNat_lt; omega)]
      have hcn : IntKind.i64.wrap ((s[2].toNat : Nat) : Int) = (xn : Int) := by rw [← hxn, IntWalk.i64_in _ (by have := s[2].toNat_lt; omega)]
      clear hx0 hxo hxn hLn hss hbs h2 h0 hdr
      go_wp2_with fail
      go_region
      rw [← hy]
      clear hy hco hcn d0 d2
      obtain ⟨ge, hge⟩ : ∃ ge, ge = w7.heap.size := ⟨_, rfl⟩
      obtain ⟨w8, hw8⟩ : ∃ w8, w8 = (w7.alloc (.cells #[.int .i64 (xo : Int), .int .i64 (xn : Int), .string y] 42)).drew := ⟨_, rfl⟩
      have HT8 : Hid (St w w8 [blkR ge 42 [.int .i64 (xo : Int), .int .i64 (xn : Int), .string y], bookR g gd B]) := Lib.hid (by rw [hw8, hge]; exact (HT7.out.newBlk 42 _).drewN 1)
      rw [← hw8, ← hge]
      clear hw8 hge HT7
      have e0 : w8.cell? ⟨ge, 0, none⟩ = some (.int .i64 (xo : Int)) := (HT8.out.blk (l1 := [])).cell' rfl
      have e1 : w8.cell? ⟨ge, 1, none⟩ = some (.int .i64 (xn : Int)) := (HT8.out.blk (l1 := [])).cell' rfl
      have e2 : w8.cell? ⟨ge, 2, none⟩ = some (.string y) := (HT8.out.blk (l1 := [])).cell' rfl
      have hch := HT8.out.kchanges (l1 := [_]) (HDk.out.onl HT8.out.base (fun _ _ h => h)) xo xn y (by omega)
      obtain ⟨q, hq⟩ : ∃ q, q = B.changes ⟨(xo : Int), (xn : Int), y⟩ := ⟨_, rfl⟩
      rw [← hq] at hch HR
      have HQ := Lib.hid hq
      clear hq
      go_wp2_with fail
      refine hch.mono ?_
      rintro e w9 ⟨rfl, ho9⟩
      have HT9 := Lib.hid (HT8.out.onl ho9)
      clear hch e0 e1 e2 HT8 ho9
      cases q with
      | false =>
        have HE : Hid (R = B) := Lib.hid (by rw [← HR.out]; rfl)
        go_wp2
        go_ret2
        exact HPs.out _ (by rw [HM2.out, HE.out]) _ _ (HT9.out.drop [])
      | true =>
        have e0 : w9.cell? ⟨ge, 0, none⟩ = some (.int .i64 (xo : Int)) := (HT9.out.blk (l1 := [])).cell' rfl
        have e1 : w9.cell? ⟨ge, 1, none⟩ = some (.int .i64 (xn : Int)) := (HT9.out.blk (l1 := [])).cell' rfl
        have e2 : w9.cell? ⟨ge, 2, none⟩ = some (.string y) := (HT9.out.blk (l1 := [])).cell' rfl
        have hch := HT9.out.kchange (l1 := [_]) xo xn y HQ.out.symm
        go_wp2_with fail
        refine hch.mono ?_
        rintro e w10 ⟨rfl, hT10⟩
        have HT10 : Hid (St w w10 [bookR g gd (B.change xo xn y)]) := Lib.hid (hT10.drop [])
        obtain ⟨B2, hB2⟩ : ∃ B2, B2 = B.change xo xn y := ⟨_, rfl⟩
        have hp2 : B2.pos = p := by rw [hB2]; exact HPo.out.symm
        rw [← hB2] at HT10 HR
        have hR2 := HR.out
        rw [if_pos trivial, ← HPo.out] at hR2
        have HR2 := Lib.hid hR2
        obtain ⟨sn, hsn⟩ : ∃ sn, sn = sectorsOf n := ⟨_, rfl⟩
        rw [← hsn] at HR2 hpn
        have hsn1 : 1 ≤ sn := by rw [hsn]; unfold sectorsOf; omega
        have HSec : Hid (∀ wx, Calls Try.prog 128 #[.int .i64 (s.size : Int)] wx fun e w' => e = .returned (.int .i64 (sn : Int)) ∧ wx = w') := Lib.hid (fun wx => by rw [hsn, ← HTs2.out]; exact sectors128 s.size wx (by omega))
        clear hch e0 e1 e2 HT9 hT10 hB2 hR2 HR hsn HQ
        have hx2 : ∀ x : Ext non w10, x.val.cell? ⟨g, 2, none⟩ = some (.int .i64 (p : Int)) := fun x => by have h := (HT10.out.onl x.property).kcell2 (l1 := []); rw [hp2] at h; exact h
        have hps : p + sn ≤ 1000000 := Nat.le_trans hpn (Nat.le_trans hm4 (by decide))
        have hwp := wrap_pos p sn hps
        have hwp2 := wrap_pos2 p sn hps
        go_wp2_with fail
        refine wp_region_quiet_tail (fun w' => ∃ x : Ext non w10, w' = x.val) 10 (by kernel_rfl) (by kernel_rfl) ⟨⟨w10.drew, (Onl.refl non w10).drew⟩, rfl⟩ ?_
        simp only [List.take_succ_cons, List.take_zero, List.drop_succ_cons, List.drop_zero]
        repeat (go_big_quiet_step ((go_at_call 128; exact qcall_same (HSec.out _))))
        refine wpQuiet_nil ?_
        intro wz hw'
        obtain ⟨x2, hx3⟩ := hw'
        have HT11 : Hid (St w wz [bookR g gd B2]) := Lib.hid (by rw [hx3]; exact HT10.out.onl x2.property)
        have hc2 : wz.cell? ⟨g, 2, none⟩ = some (.int .i64 (p : Int)) := by have h := HT11.out.kcell2 (l1 := []); rw [hp2] at h; exact h
        have hf2 : wz.frozen? ⟨g, 2, none⟩ = false := HT11.out.kfree (l1 := []) 2
        obtain ⟨w12, hw12⟩ : ∃ w12, w12 = wz.setCell ⟨g, 2, none⟩ (.int .i64 ((p : Int) + (sn : Int))) := ⟨_, rfl⟩
        have HT12 : Hid (St w w12 [bookR g gd { B2 with pos := p + sn }]) := Lib.hid (by rw [hw12, ← Int.natCast_add]; exact HT11.out.kpos (l1 := []) (HDk.out.onl HT11.out.base (fun _ _ h => h)) (p + sn) (Nat.le_trans hpn hm4))
        clear hx3 hx2 HT11 HT10
        go_wp2_with fail
        rw [← hw12]
        go_roundw
        case rel => exact ⟨f, { B2 with pos := p + sn }, HT12, HR2, Nat.le_trans hf (by show p + (f + 1) ≤ p + sn + f; rw [Nat.add_assoc]; exact Nat.add_le_add_left (by rw [Nat.add_comm f 1]; exact Nat.add_le_add_right hsn1 f) p)⟩
        case measure =>
          rw [HC2.out, HT12.out.kcell2 (l1 := [])]
          exact Nat.sub_lt_sub_left hpm (Nat.lt_add_of_pos_right hsn1)
end Go.Proofs.Ytenngchidlfaeaa
/- The law's better, walked. -/
namespace Go.Proofs.Ytenngchidlfaeaa
open Go.RowKit
open Rad (Dsk)

/-- the order of strings, or the same -/
def leB (a b : ByteArray) : Bool := Op.bytesLess a.toList b.toList || a.toList == b.toList
/-- a message that is as good as one, or better -/
def goodE (e x : Ent) : Bool := x.o == e.o && (x.n == e.n && leB x.b e.b)
theorem any_succ {α : Type} {A : List α} {k : Nat} {x : α} (q : α → Bool) (h : A[k]? = some x) : (A.take (k + 1)).any q = ((A.take k).any q || q x) := by
  obtain ⟨h1, h2⟩ := List.getElem?_eq_some_iff.1 h
  rw [List.take_succ_eq_append_getElem h1, h2, List.any_append]
  simp
set_option maxRecDepth 100000 in
set_option maxHeartbeats 1000000 in
theorem better76 {W w : World} {l1 l2 : List Rs} {g gd : Nat} {D : Dsk} {B : Bk} (h : St W w (l1 ++ machR g gd D B :: l2)) (L : List Ent) (ao : Option Addr) (n c : Nat) (hn : n = L.length) (hn2 : n ≤ 1000000) (hL : RdE w ao L)
    (hg : ∀ e ∈ L, (allOf 0 B.logs).any (goodE e) = true) :
    Calls Try.prog 76 #[.pointer (some ⟨g, 0, none⟩), .slice ao n c] w fun e w' => e = .returned (.bool true) ∧ Onl non w w' := by
  have hb := h.bounds
  have hal := allOf_length_le B.logs 0 hb.2.1
  have HA := Lib.hid h.ball
  have HL := Lib.hid hL
  have HN := Lib.hid hn
  obtain ⟨A, hA⟩ : ∃ A, A = allOf 0 B.logs := ⟨_, rfl⟩
  rw [← hA] at hg hal
  have hal2 : A.length ≤ 512 := by omega
  have HAe := Lib.hid hA
  have HG := Lib.hid hg
  clear h hL hn hA hb hal hg
  go_enter Try.func76, Try.ntmps76
  go_wp2_with fail
  refine HA.out.mono ?_
  rintro e w1 ⟨o1, c1, rfl, ow1, ho1⟩
  rw [← HAe.out] at ow1 ⊢
  obtain ⟨m, hm⟩ : ∃ m, m = A.length := ⟨_, rfl⟩
  rw [← hm] at ow1 ⊢
  have hm2 : m ≤ 512 := by omega
  have HM := Lib.hid hm
  have HR1 : Hid (RdE w1 o1 A) := Lib.hid (ow1.rdE hm)
  have HR2 : Hid (RdE w1 ao L) := Lib.hid (HL.out.onl ho1)
  have HO1 := Lib.hid ho1
  clear ow1 ho1 hm hal2
  go_wp2
  go_loopw [6] (fun x wr => ∃ i : Nat, i ≤ n ∧ x = .int .i64 i ∧ Hid (Drw w1 wr)) (fun x _ => n - (intOf x).toNat)
  case atStart => exact ⟨0, by omega, rfl, Lib.hid (Drw.refl _)⟩
  case round =>
    obtain ⟨wo, rfl⟩ : ∃ wo : World, wo = wr := ⟨_, rfl⟩
    obtain ⟨i, hi, rfl, HD⟩ := hrel
    by_cases hlt : i < n
    · obtain ⟨e, he⟩ : ∃ e, L[i]? = some e := ⟨_, List.getElem?_eq_getElem (by have := HN.out; omega)⟩
      have HGe := Lib.hid (HG.out e (List.mem_of_getElem? he))
      have HE := Lib.hid he
      have hdt : decide ((i : Int) < (n : Int)) = true := decide_eq_true (by omega)
      have i0 : (0 : Int) ≤ (i : Int) := by omega
      have i1 : (i : Int) < (n : Int) := by omega
      clear he
      go_wp2
      go_loopw [7, 8] (fun f x wr => ∃ k : Nat, k ≤ m ∧ x = .int .i64 k ∧ f = .bool ((A.take k).any (goodE e)) ∧ Hid (Drw w1 wr)) (fun _ x _ => m - (intOf x).toNat)
      case atStart => exact ⟨0, by omega, rfl, rfl, HD⟩
      case round =>
        clear HD
        obtain ⟨wo2, rfl⟩ : ∃ wo2 : World, wo2 = wr := ⟨_, rfl⟩
        obtain ⟨k, hk, rfl, rfl, HD⟩ := hrel
        by_cases hkm : k < m
        · obtain ⟨x, hx⟩ : ∃ x, A[k]? = some x := ⟨_, List.getElem?_eq_getElem (by have := HM.out; omega)⟩
          have HO : Onl non w1 wo2 := (Onl.refl _ _).of_drw HD.out
          obtain ⟨g1, o1, h1, x0, x1, x2⟩ := (HR1.out.onl HO) k _ hx
          obtain ⟨g2, o2, h2, y0, y1, y2⟩ := (HR2.out.onl HO) i _ HE.out
          subst h1
          subst h2
          have k0 : (0 : Int) ≤ (k : Int) := by omega
          have k1 : (k : Int) < (m : Int) := by omega
          have HS := Lib.hid (any_succ (goodE e) hx)
          obtain ⟨f, hf⟩ : ∃ f, f = (A.take k).any (goodE e) := ⟨_, rfl⟩
          rw [← hf] at HS ⊢
          obtain ⟨e_o, e_n, e_b⟩ := e
          obtain ⟨x_o, x_n, x_b⟩ := x
          simp only at x0 x1 x2 y0 y1 y2
          clear hx HO hf
          cases f with
          | true =>
            go_upto_region 9 with fail
            go_quiet (fail)
            go_wp2
            go_roundw
            case rel => exact ⟨k + 1, by omega, by go_num, by rw [HS.out]; rfl, Lib.hid (HD.out.drewN _)⟩
            case measure => simp [intOf]; omega
          | false =>
            by_cases q0 : x_o = e_o
            rotate_left
            · have d0 : (x_o == e_o) = false := by simp [q0]
              have HS2 : Hid ((A.take (k + 1)).any (goodE ⟨e_o, e_n, e_b⟩) = false) := Lib.hid (by rw [HS.out]; simp [goodE, q0])
              clear q0
              go_upto_region 9 with fail
              go_quiet (fail)
              go_wp2
              go_roundw
              case rel => exact ⟨k + 1, by omega, by go_num, by rw [HS2.out], Lib.hid (HD.out.drewN _)⟩
              case measure => simp [intOf]; omega
            have d0 : (x_o == e_o) = true := by simp [q0]
            by_cases q1 : x_n = e_n
            rotate_left
            · have d1 : (x_n == e_n) = false := by simp [q1]
              have HS2 : Hid ((A.take (k + 1)).any (goodE ⟨e_o, e_n, e_b⟩) = false) := Lib.hid (by rw [HS.out]; simp [goodE, q1])
              clear q0 q1
              go_upto_region 9 with fail
              go_quiet (fail)
              go_wp2
              go_roundw
              case rel => exact ⟨k + 1, by omega, by go_num, by rw [HS2.out], Lib.hid (HD.out.drewN _)⟩
              case measure => simp [intOf]; omega
            have d1 : (x_n == e_n) = true := by simp [q1]
            have HS2 : Hid ((A.take (k + 1)).any (goodE ⟨e_o, e_n, e_b⟩) = leB x_b e_b) := Lib.hid (by rw [HS.out]; simp [goodE, q0, q1])
            clear q0 q1
            go_upto_region 9 with fail
            go_quiet (fail)
            go_wp2
            go_roundw
            case rel => exact ⟨k + 1, by omega, by go_num, by rw [HS2.out]; rfl, Lib.hid (HD.out.drewN _)⟩
            case measure => simp [intOf]; omega
        · obtain rfl : k = m := by omega
          have hany : (A.take k).any (goodE e) = true := by rw [HM.out, List.take_length]; exact HGe.out
          rw [hany]
          clear hany
          go_wp2
          go_roundw
          case rel => exact ⟨i + 1, by omega, by go_num, HD⟩
          case measure => simp [intOf]; omega
    · obtain rfl : i = n := by omega
      go_wp2
      go_ret
      exact ⟨rfl, HO1.out.of_drw HD.out⟩
end Go.Proofs.Ytenngchidlfaeaa
/- Plain laws: a record that is written is read again. -/
namespace Rad
theorem part_eq (p : List Nat) (a n : Nat) : part p a n = (List.range n).map fun k => p.getD (a + k) 0 := by
  apply List.ext_getElem?
  intro k
  rw [List.getElem?_map]
  unfold part
  by_cases hk : k < n
  · rw [List.getElem?_range hk]
    by_cases h2 : a + k < p.length
    · rw [List.getElem?_append_left (by rw [List.length_take, List.length_drop]; omega), List.getElem?_take_of_lt hk, List.getElem?_drop, List.getElem?_eq_getElem h2]
      simp [List.getD_eq_getElem?_getD, h2]
    · rw [List.getElem?_append_right (by rw [List.length_take, List.length_drop]; omega), List.length_take, List.length_drop, List.getElem?_replicate, if_pos (by omega)]
      simp [List.getD_eq_getElem?_getD, List.getElem?_eq_none (Nat.le_of_not_lt h2)]
  · rw [List.getElem?_eq_none (by rw [List.length_append, List.length_take, List.length_drop, List.length_replicate]; omega), List.getElem?_eq_none (by simp; omega)]
    rfl
theorem part_add (p : List Nat) (a n m : Nat) : part p a n ++ part p (a + n) m = part p a (n + m) := by
  rw [part_eq, part_eq, part_eq, List.range_add, List.map_append, List.map_map]
  congr 1
  apply List.map_congr_left
  intro k _
  simp [Nat.add_assoc]
theorem part_all (p : List Nat) {n : Nat} (h : p.length ≤ n) : (part p 0 n).take p.length = p := by
  unfold part
  rw [List.drop_zero, List.take_append_of_le_length (by rw [List.length_take]; omega), List.take_of_length_le h, List.take_length]
end Rad
namespace Go.Proofs.Ytenngchidlfaeaa
open Go.RowKit
open Rad (Dsk)

/-- a sector behind a step -/
def effS (j : Nat) (v : ByteArray) : Stp → ByteArray
  | .wr i s => if i = j then s else v
  | .sy => v
theorem put_eff (D : Dsk) (i j : Nat) (s : ByteArray) : (D.put i s).eff j = if i = j then s else D.eff j := by
  unfold Dsk.eff
  exact Rad.wait_snoc j _ D.waits (i, s)
theorem settle_eff {D : Dsk} {j : Nat} (h : j < D.safe.length) : (D.settle D.waits).eff j = D.eff j := by
  unfold Dsk.eff
  exact (wait_lay j _ D.waits D.safe h).symm
theorem Calm.stp_eff {D : Dsk} (h : Calm D) {s : Stp} (hs : s.inD D.safe.length) {j : Nat} (hj : j < D.safe.length) : (Go.Proofs.Ytenngchidlfaeaa.stp D s).eff j = effS j (D.eff j) s := by
  cases s with
  | wr i s =>
    show (D.write _ _).eff j = _
    rw [(h.write hs.1 hs.2).2, put_eff]; rfl
  | sy =>
    show D.sync.eff j = _
    rw [h.sync.2, settle_eff hj]; rfl
theorem Calm.runs_eff {l : List Stp} {j : Nat} : ∀ {D : Dsk}, Calm D → (∀ s ∈ l, s.inD D.safe.length) → j < D.safe.length → (Go.Proofs.Ytenngchidlfaeaa.runs D l).eff j = l.foldl (effS j) (D.eff j) := by
  induction l with
  | nil => intro D _ _ _; rfl
  | cons s r ih =>
    intro D h hs hj
    have h1 := h.stp (hs s (by simp))
    have h2 := h.stp_eff (hs s (by simp)) hj
    have h3 := ih h1.2.1 (fun t ht => by rw [stp_len]; exact hs t (by simp [ht])) (by rw [stp_len]; exact hj)
    show (if stpE D s = 0 then Go.Proofs.Ytenngchidlfaeaa.runs (Go.Proofs.Ytenngchidlfaeaa.stp D s) r else Go.Proofs.Ytenngchidlfaeaa.stp D s).eff j = _
    rw [if_pos h1.1, h3, h2]; rfl
theorem foldl_wr (j b : Nat) (f : Nat → ByteArray) (v : ByteArray) : ∀ m, ((List.range m).map fun i => Stp.wr (b + i) (f i)).foldl (effS j) v = if b ≤ j ∧ j < b + m then f (j - b) else v
  | 0 => by rw [if_neg (by omega)]; rfl
  | m + 1 => by
    rw [List.range_succ, List.map_append, List.foldl_append, foldl_wr j b f v m]
    show (if b + m = j then f m else _) = _
    by_cases h : b + m = j
    · rw [if_pos h, if_pos (by omega)]; congr 1; omega
    · rw [if_neg h]
      by_cases h2 : b ≤ j ∧ j < b + m
      · rw [if_pos h2, if_pos (by omega)]
      · rw [if_neg h2, if_neg (by omega)]
theorem Calm.keep_eff {D : Dsk} (h : Calm D) {a j : Nat} {p : ByteArray} (hf : a + sectorsOf p.size ≤ D.safe.length) (hj : j < D.safe.length) :
    (keepD D a p).eff j = if a ≤ j ∧ j < a + sectorsOf p.size then sb (Rad.sect (bl p) (j - a)) else if j = a + sectorsOf p.size then zer 64 else D.eff j := by
  have hs : 1 ≤ sectorsOf p.size := by unfold sectorsOf; omega
  unfold keepD
  rw [if_neg (by omega), h.runs_eff (recS_inD hf) hj]
  unfold recS recW
  rw [List.foldl_append, List.foldl_append, foldl_wr j (a + 1) (fun i => sb (Rad.sect (bl p) (i + 1)))]
  show (if a = j then _ else _) = _
  by_cases h1 : a = j
  · rw [if_pos h1, if_pos (by omega)]; congr 2; omega
  rw [if_neg h1]
  unfold recZ
  by_cases h2 : a ≤ j ∧ j < a + sectorsOf p.size
  · rw [if_pos h2, if_pos (by omega)]
    have e : j - (a + 1) + 1 = j - a := by omega
    split
    · show (if a + sectorsOf p.size = j then _ else _) = _
      rw [if_neg (by omega), e]
    · show sb _ = _
      rw [e]
  · rw [if_neg h2, if_neg (by omega)]
    split
    · show (if a + sectorsOf p.size = j then _ else _) = _
      by_cases h3 : j = a + sectorsOf p.size
      · rw [if_pos h3.symm, if_pos h3]
      · rw [if_neg (fun e => h3 e.symm), if_neg h3]
    · rw [if_neg (by omega)]; rfl
theorem stp_full {D : Dsk} (h : D.Full) (s : Stp) : (stp D s).Full := by
  cases s with
  | wr i s => exact h.write _ _
  | sy => exact h.sync
theorem runs_full {l : List Stp} : ∀ {D : Dsk}, D.Full → (runs D l).Full := by
  induction l with
  | nil => intro D h; exact h
  | cons s r ih =>
    intro D h
    show (if stpE D s = 0 then runs (stp D s) r else stp D s).Full
    split
    · exact ih (stp_full h s)
    · exact stp_full h s
theorem keep_full {D : Dsk} (h : D.Full) (a : Nat) (p : ByteArray) : (keepD D a p).Full := by
  unfold keepD; split
  · exact h
  · exact runs_full h
theorem sect0_mark (p : ByteArray) : (Rad.sect (bl p) 0).getD 63 0 = 1 := by
  unfold Rad.sect
  rw [if_pos rfl, List.getD_eq_getElem?_getD, List.getElem?_append_right (by simp [Rad.part_length, Rad.four])]
  simp [Rad.part_length, Rad.four]
theorem sect0_le4 (p : ByteArray) (h : p.size ≤ 4096) : Rad.le4 (Rad.sect (bl p) 0) = p.size := by
  unfold Rad.sect Rad.le4
  rw [if_pos rfl]
  simp [Rad.four, bl_length]
  omega
theorem Calm.keep_more {D : Dsk} (h : Calm D) {a : Nat} {p : ByteArray} (hf : a + sectorsOf p.size ≤ D.safe.length) : ∀ k, k + 1 ≤ sectorsOf p.size → (keepD D a p).more a k = Rad.part (bl p) 59 (64 * k)
  | 0, _ => by
    show [] = _
    rw [Rad.part_eq]; rfl
  | k + 1, hk => by
    rw [Dsk.more, h.keep_more hf k (by omega), h.keep_eff hf (by omega), if_pos (by omega), bl_sb (sect_bytes _ _ (bl_bytes _))]
    have e : a + 1 + k - a = k + 1 := by omega
    unfold Rad.sect
    rw [e, if_neg (by omega), Nat.add_sub_cancel, Rad.part_add]; rfl
/-- what was written is read -/
theorem Calm.keep_rec {D : Dsk} (h : Calm D) {a : Nat} {p : ByteArray} (hf : a + sectorsOf p.size ≤ D.safe.length) (h1 : 1 ≤ p.size) (h2 : p.size ≤ 4096) :
    (keepD D a p).recN a = some p.size ∧ (keepD D a p).recP a p.size = bl p := by
  have hs : 1 ≤ sectorsOf p.size := by unfold sectorsOf; omega
  have he : (keepD D a p).eff a = sb (Rad.sect (bl p) 0) := by rw [h.keep_eff hf (by omega), if_pos (by omega), Nat.sub_self]
  have hb : bl ((keepD D a p).eff a) = Rad.sect (bl p) 0 := by rw [he, bl_sb (sect_bytes _ _ (bl_bytes _))]
  constructor
  · unfold Dsk.recN
    rw [hb, sect0_mark, sect0_le4 p h2, keep_len, if_pos ⟨by omega, rfl, h1, h2, hf⟩]
  · unfold Dsk.recP
    rw [hb, h.keep_more hf _ (by omega)]
    have e1 : ((Rad.sect (bl p) 0).drop 4).take 59 = Rad.part (bl p) 0 59 := by
      unfold Rad.sect
      rw [if_pos rfl, List.append_assoc, List.drop_append_of_le_length (by simp [Rad.four]), List.drop_of_length_le (by simp [Rad.four]), List.nil_append, List.take_append_of_le_length (Nat.le_of_eq (Rad.part_length _ _ _).symm), List.take_of_length_le (Nat.le_of_eq (Rad.part_length _ _ _))]
    have e2 : Rad.part (bl p) 0 59 ++ Rad.part (bl p) 59 (64 * (sectorsOf p.size - 1)) = Rad.part (bl p) 0 (59 + 64 * (sectorsOf p.size - 1)) := by
      have := Rad.part_add (bl p) 0 59 (64 * (sectorsOf p.size - 1))
      rwa [Nat.zero_add] at this
    rw [e1, e2]
    have e3 := Rad.part_all (bl p) (n := 59 + 64 * (sectorsOf p.size - 1)) (by rw [bl_length]; unfold sectorsOf; omega)
    rw [bl_length] at e3
    exact e3
end Go.Proofs.Ytenngchidlfaeaa
/- Plain laws: what a book has written is what is read again. -/
namespace Go.Proofs.Ytenngchidlfaeaa
open Go.RowKit
open Rad (Dsk)

theorem more_congr {D D' : Dsk} {p : Nat} : ∀ k, (∀ i, p + 1 ≤ i → i < p + 1 + k → D'.eff i = D.eff i) → D'.more p k = D.more p k
  | 0, _ => rfl
  | k + 1, h => by
    rw [Dsk.more, Dsk.more, more_congr k (fun i h1 h2 => h i h1 (by omega)), h (p + 1 + k) (by omega) (by omega)]
theorem rec_congr {D D' : Dsk} {p n : Nat} (hl : D'.safe.length = D.safe.length) (h : D.recN p = some n) (he : ∀ i, p ≤ i → i < p + sectorsOf n → D'.eff i = D.eff i) : D'.recN p = some n ∧ D'.recP p n = D.recP p n := by
  have hs : 1 ≤ sectorsOf n := by unfold sectorsOf; omega
  have h0 := he p (Nat.le_refl _) (by omega)
  constructor
  · unfold Dsk.recN at h ⊢
    rw [h0, hl]; exact h
  · unfold Dsk.recP
    rw [h0, more_congr _ (fun i h1 h2 => he i (by omega) (by omega))]
/-- a book that is read in so many records -/
inductive Reach (D : Dsk) (B0 : Bk) : Nat → Bk → Prop where
  | here : Reach D B0 0 B0
  | more {k n o m : Nat} {b : List Nat} {B : Bk} : Reach D B0 k B → D.recN B.pos = some n → asEnt (D.recP B.pos n) = some (o, m, b) → B.changes ⟨o, m, sb b⟩ = true → Reach D B0 (k + 1) { B.change o m (sb b) with pos := B.pos + sectorsOf n }
theorem Reach.open_ {D : Dsk} {B0 B : Bk} {k : Nat} (h : Reach D B0 k B) : ∀ f, openB D (k + f) B0 = openB D f B := by
  induction h with
  | here => intro f; rw [Nat.zero_add]
  | more _ h2 h3 h4 ih =>
    rename_i k n o m b B h1
    intro f
    rw [show k + 1 + f = k + (f + 1) from by omega, ih, openB_some h2, h3]
    simp only [h4, if_true]
theorem Reach.pos {D : Dsk} {B0 B : Bk} {k : Nat} (h : Reach D B0 k B) : B0.pos + k ≤ B.pos ∧ B.falls = B0.falls ∧ (B0.pos ≤ D.safe.length → B.pos ≤ D.safe.length) := by
  induction h with
  | here => exact ⟨Nat.le_refl _, rfl, fun h => h⟩
  | more _ h2 h3 h4 ih =>
    rename_i k n o m b B h1
    have := recN_some h2
    have hs : 1 ≤ sectorsOf n := by unfold sectorsOf; omega
    exact ⟨by show _ ≤ B.pos + sectorsOf n; omega, ih.2.1, fun _ => this.2.2.2⟩
theorem Reach.congr {D D' : Dsk} {B0 B : Bk} {k : Nat} (h : Reach D B0 k B) (hl : D'.safe.length = D.safe.length) : (∀ i, i < B.pos → D'.eff i = D.eff i) → Reach D' B0 k B := by
  induction h with
  | here => intro _; exact .here
  | more _ h2 h3 h4 ih =>
    rename_i k n o m b B h1
    intro he
    have he' : ∀ i, i < B.pos + sectorsOf n → D'.eff i = D.eff i := he
    have hc := rec_congr hl h2 (fun i _ h => he' i h)
    exact .more (ih (fun i hi => he' i (by omega))) hc.1 (by rw [hc.2]; exact h3) h4
/-- the disk holds the book -/
structure Holds (D : Dsk) (B : Bk) (m : Nat) : Prop where
  full : D.Full
  one : 1 ≤ m ∧ m ≤ 8
  first : D.recN 0 = some 2 ∧ D.recP 0 2 = [1, m]
  reach : ∃ k, Reach D ⟨List.replicate m [], 1, D.falls⟩ k B
  ends : D.recN B.pos = none
theorem Holds.open_ {D : Dsk} {B : Bk} {m : Nat} (h : Holds D B m) : openM D = some B := by
  obtain ⟨k, hk⟩ := h.reach
  have hp := hk.pos
  have h0 := recN_some h.first.1
  have h1 : 1 ≤ D.safe.length := by omega
  have h2 := hp.2.2 h1
  have hp1 : 1 + k ≤ B.pos := hp.1
  have e : D.safe.length = k + (D.safe.length - k) := by omega
  unfold openM firstM
  rw [h.first.1]
  show (asFirst (D.recP 0 2)).map _ = _
  rw [h.first.2]
  show (if 1 = 1 ∧ 1 ≤ m ∧ m ≤ 8 then some m else none).map _ = _
  rw [if_pos ⟨rfl, h.one.1, h.one.2⟩]
  show some (openB D D.safe.length _) = _
  rw [e, hk.open_, openB_stop h.ends]
theorem zer_mark : (bl (zer 64)).getD 63 0 = 0 := by
  unfold zer
  rw [bl_sb (fun x hx => by rw [List.eq_of_mem_replicate hx]; omega)]
  rfl
theorem no_rec {D : Dsk} {p : Nat} (h : p < D.safe.length → (bl (D.eff p)).getD 63 0 = 0) : D.recN p = none := by
  unfold Dsk.recN
  rw [if_neg]
  intro hc
  have := h hc.1
  rw [this] at hc
  exact absurd hc.2.1 (by decide)
theorem Calm.keep_ends {D : Dsk} (h : Calm D) {a : Nat} {p : ByteArray} (hf : a + sectorsOf p.size ≤ D.safe.length) : (keepD D a p).recN (a + sectorsOf p.size) = none :=
  no_rec (fun hlt => by rw [keep_len] at hlt; rw [h.keep_eff hf hlt, if_neg (by omega), if_pos rfl]; exact zer_mark)
theorem asEnt_epay (p n : Nat) (b : ByteArray) (hp : p < 256) (hn : n < 256) : asEnt (bl (epay p n b)) = some (p, n, bl b) := by
  have e : bl (epay p n b) = 2 :: p :: n :: bl b := by
    have hb : Rad.Bytes [2, p, n] := by intro x hx; simp at hx; omega
    have h1 := bl_sb hb
    have h2 : bl (epay p n b) = bl (sb [2, p, n]) ++ bl b := by unfold epay; simp [bl]
    rw [h2, h1]; rfl
  rw [e]; rfl
theorem Holds.put {D : Dsk} {B : Bk} {m p n : Nat} {b : ByteArray} (h : Holds D B m) (hc : Calm D) (hk : OkE p n b.size) (hf : B.fresh p n b = true) (hr : B.pos + sectorsOf (epay p n b).size ≤ D.safe.length) : Holds (putD D B p n b) (putB D B p n b) m := by
  have hkp := hc.keep hr
  have hsz : (epay p n b).size = 3 + b.size := epay_size p n b
  have hb : b.size ≤ 1024 := hk.2.2
  have hrec := hc.keep_rec hr (by omega) (by omega)
  have he : ∀ i, i < B.pos → (putD D B p n b).eff i = D.eff i := fun i hi => by
    show (keepD D B.pos (epay p n b)).eff i = _
    rw [hc.keep_eff hr (by omega), if_neg (by omega), if_neg (by omega)]
  obtain ⟨k, hR⟩ := h.reach
  have hpos := hR.pos
  have hp1 : 1 + k ≤ B.pos := hpos.1
  have hl : (putD D B p n b).safe.length = D.safe.length := keep_len _ _ _
  have hB : putB D B p n b = { B.change p n b with pos := B.pos + sectorsOf (epay p n b).size } := by
    unfold putB
    rw [if_pos (show putE D B p n b = 0 from hkp.1)]
  have hfl : (putD D B p n b).falls = D.falls := hkp.2.2
  refine ⟨keep_full h.full _ _, h.one, ?_, ⟨k + 1, ?_⟩, ?_⟩
  · have hc2 := rec_congr (n := 2) hl h.first.1 (fun i _ hi => he i (by have : sectorsOf 2 = 1 := rfl; omega))
    exact ⟨hc2.1, by rw [hc2.2]; exact h.first.2⟩
  · rw [hB, hfl]
    have hR2 := hR.congr hl he
    have hp8 : p < 256 := by have := hk.1; omega
    have hn8 : n < 256 := by have := hk.2.1; omega
    have hx := Reach.more (o := p) (m := n) (b := bl b) hR2 hrec.1 (by show asEnt ((keepD D B.pos (epay p n b)).recP B.pos _) = _; rw [hrec.2]; exact asEnt_epay p n b hp8 hn8) (by
      rw [sb_bl]
      unfold Bk.changes Ent.ok
      simp [hk, hf])
    rw [sb_bl] at hx
    exact hx
  · rw [hB]
    exact hc.keep_ends hr
/-- what each writing keeps, a Take keeps -/
theorem takes_ind {l : List Ent} (P : Dsk → Bk → Prop) (hput : ∀ D B (p n : Nat) b, P D B → bestOf l p n = some b → B.fresh p n b = true → putE D B p n b = 0 → P (putD D B p n b) (putB D B p n b)) :
    ∀ (ps : List (Nat × Nat)) {D : Dsk} {B : Bk} {c : Int}, P D B → (takes l D B c ps).e = 0 → P (takes l D B c ps).D (takes l D B c ps).B
  | [], _, _, _, h, _ => h
  | (p, n) :: r, D, B, c, h, he => by
    cases hb : bestOf l p n with
    | none =>
      rw [takes_none hb] at he ⊢
      exact takes_ind P hput r h he
    | some b =>
      cases hf : B.fresh p n b with
      | false =>
        rw [takes_old hb hf] at he ⊢
        exact takes_ind P hput r h he
      | true =>
        by_cases h0 : putE D B p n b = 0
        · rw [takes_put hb hf h0] at he ⊢
          exact takes_ind P hput r (hput D B p n b h hb hf h0) he
        · rw [takes_fail hb hf h0] at he
          exact absurd he h0
theorem takeOf_ind {l : List Ent} (P : Dsk → Bk → Prop) (hput : ∀ D B (p n : Nat) b, P D B → bestOf l p n = some b → B.fresh p n b = true → putE D B p n b = 0 → P (putD D B p n b) (putB D B p n b)) {D : Dsk} {B : Bk} (h : P D B) (he : (takeOf l D B).e = 0) :
    P (takeOf l D B).D (takeOf l D B).B := by
  unfold takeOf at he ⊢
  split
  · exact h
  · rename_i hf
    rw [if_neg hf] at he
    exact takes_ind P hput _ h he
theorem Holds.put' {D : Dsk} {B : Bk} {m p n : Nat} {b : ByteArray} (h : Holds D B m ∧ Calm D) (hk : OkE p n b.size) (hf : B.fresh p n b = true) (he : putE D B p n b = 0) : Holds (putD D B p n b) (putB D B p n b) m ∧ Calm (putD D B p n b) :=
  ⟨h.1.put h.2 hk hf (keepE_fit he), (h.2.keep (keepE_fit he)).2.1⟩
theorem Holds.take {D : Dsk} {B : Bk} {m : Nat} (h : Holds D B m) (hc : Calm D) {l : List Ent} (he : (takeOf l D B).e = 0) : Holds (takeOf l D B).D (takeOf l D B).B m :=
  (takeOf_ind (l := l) (fun D B => Holds D B m ∧ Calm D) (fun _ _ _ _ _ h hb hf h0 => Holds.put' h (bestOf_ok hb) hf h0) ⟨h, hc⟩ he).1
theorem Holds.add {D : Dsk} {B : Bk} {m : Nat} (h : Holds D B m) (hc : Calm D) {e : Ent} (he : addE D B e = 0) : Holds (addD D B e) (addB D B e) m := by
  unfold addD addB
  unfold addE at he
  by_cases hw : addW D B e = true
  · rw [if_pos hw] at he ⊢
    rw [if_pos hw]
    have hw2 := hw
    unfold addW at hw2
    simp only [Bool.and_eq_true, decide_eq_true_eq] at hw2
    have hk := of_decide_eq_true (show decide (OkE e.o e.n e.b.size) = true from hw2.1.2.1)
    have e1 : ((e.o.toNat : Nat) : Int) = e.o := Int.toNat_of_nonneg hk.1.1
    have e2 : ((e.n.toNat : Nat) : Int) = e.n := Int.toNat_of_nonneg hk.2.1.1
    refine (Holds.put' ⟨h, hc⟩ (by rw [e1, e2]; exact hk) ?_ he).1
    unfold Bk.fresh
    simp [hw2.1.2.2, hw2.2]
  · rw [if_neg hw, if_neg hw]; exact h
theorem holds_made {n a : Nat} (hn : 1 ≤ n) (h1 : 1 ≤ a) (h8 : a ≤ 8) : Holds (mD n a) (mB n a) a := by
  have hc : Calm (newD n) := ⟨rfl, rfl⟩
  have hz : (bpay a).size = 2 := by unfold bpay; rw [sb_size]; rfl
  have hr : 0 + sectorsOf (bpay a).size ≤ (newD n).safe.length := by rw [hz, newD_len]; exact hn
  have hD : mD n a = keepD (newD n) 0 (bpay a) := by
    unfold mD makeD
    rw [if_neg (by simp [newD])]
  have hm := mD_calm (n := n) (a := a) hn
  have hrec := hc.keep_rec hr (by rw [hz]; omega) (by rw [hz]; omega)
  have hb : bl (bpay a) = [1, a] := bl_sb (fun x hx => by simp at hx; omega)
  rw [hz, hb, ← hD] at hrec
  refine ⟨by rw [hD]; exact keep_full (newD_full n) _ _, ⟨h1, h8⟩, hrec, ⟨0, ?_⟩, ?_⟩
  · rw [hm.2.2.1, mB_eq]; exact .here
  · have h := hc.keep_ends hr
    rw [hz, ← hD] at h
    exact h
end Go.Proofs.Ytenngchidlfaeaa
/- Plain laws: what was added stays, or a lesser one. -/
namespace Go.Proofs.Ytenngchidlfaeaa
open Go.RowKit
open Rad (Dsk)

theorem leB_iff {a b : ByteArray} : leB a b = true ↔ blt b a = false := by
  unfold leB
  rw [Bool.or_eq_true]
  constructor
  · rintro (h | h)
    · exact blt_asymm h
    · rw [ba_toList_inj (eq_of_beq h)]; exact blt_irrefl _
  · intro h
    cases h2 : blt a b with
    | true => exact .inl h2
    | false => exact .inr (by rw [blt_total h2 h]; exact beq_self_eq_true _)
theorem leB_refl (a : ByteArray) : leB a a = true := leB_iff.2 (blt_irrefl a)
theorem leB_trans {a b c : ByteArray} (h : leB a b = true) (k : leB b c = true) : leB a c = true := leB_iff.2 (ble_trans (leB_iff.1 h) (leB_iff.1 k))
theorem log_change {B : Bk} {p n : Nat} {b : ByteArray} (hp : p < B.logs.length) (q : Nat) : (B.change p n b).log q = if q = p then (if n = (B.log p).length then B.log p ++ [b] else (B.log p).set n b) else B.log q := by
  show (B.logs.set p _).getD q [] = _
  rw [List.getD_eq_getElem?_getD, List.getElem?_set]
  by_cases h : q = p
  · rw [if_pos h.symm, if_pos (by omega), if_pos h]; rfl
  · rw [if_neg (fun e => h e.symm), if_neg h, ← List.getD_eq_getElem?_getD]; rfl
/-- each message stays, or a lesser one is in its place -/
def Lead (B B' : Bk) : Prop := B'.logs.length = B.logs.length ∧ ∀ (p n : Nat) (b : ByteArray), (B.log p)[n]? = some b → ∃ b' : ByteArray, (B'.log p)[n]? = some b' ∧ leB b' b = true
theorem Lead.refl (B : Bk) : Lead B B := ⟨rfl, fun _ _ b h => ⟨b, h, leB_refl b⟩⟩
theorem Lead.trans {A B C : Bk} (h : Lead A B) (k : Lead B C) : Lead A C :=
  ⟨k.1.trans h.1, fun p n b hb => by
    obtain ⟨b1, h1, h2⟩ := h.2 p n b hb
    obtain ⟨b2, h3, h4⟩ := k.2 p n b1 h1
    exact ⟨b2, h3, leB_trans h4 h2⟩⟩
theorem Lead.len {B B' : Bk} (h : Lead B B') (p : Nat) : (B.log p).length ≤ (B'.log p).length := by
  rcases Nat.lt_or_ge (B'.log p).length (B.log p).length with hlt | hge
  · obtain ⟨b', h1, _⟩ := h.2 p (B'.log p).length _ (List.getElem?_eq_getElem hlt)
    rw [List.getElem?_eq_none (Nat.le_refl _)] at h1
    cases h1
  · exact hge
/-- each message is one of the given ones -/
def Given (l : List Ent) (B : Bk) : Prop := ∀ (p n : Nat) b, (B.log p)[n]? = some b → (⟨p, n, b⟩ : Ent) ∈ l
theorem fresh_parts {B : Bk} {p n : Nat} {b : ByteArray} (h : B.fresh p n b = true) : p < B.logs.length ∧ (n = (B.log p).length ∨ (n < (B.log p).length ∧ blt b ((B.log p).getD n ⟨#[]⟩) = true)) := by
  unfold Bk.fresh at h
  simp only [Bool.and_eq_true, Bool.or_eq_true, decide_eq_true_eq] at h
  exact h
theorem change_lead {B : Bk} {p n : Nat} {b : ByteArray} (h : B.fresh p n b = true) : Lead B (B.change p n b) := by
  obtain ⟨hp, hn⟩ := fresh_parts h
  refine ⟨List.length_set, fun q i x hx => ?_⟩
  rw [log_change hp]
  by_cases hq : q = p
  · subst hq
    rw [if_pos rfl]
    have hi := (List.getElem?_eq_some_iff.1 hx).1
    split
    · exact ⟨x, by rw [List.getElem?_append_left hi]; exact hx, leB_refl x⟩
    · rename_i hne
      by_cases hni : n = i
      · subst hni
        refine ⟨b, by rw [List.getElem?_set, if_pos rfl, if_pos hi], ?_⟩
        rcases hn with hn | hn
        · exact absurd hn hne
        · have h2 := hn.2
          rw [List.getD_eq_getElem?_getD, hx] at h2
          exact leB_iff.2 (blt_asymm h2)
      · exact ⟨x, by rw [List.getElem?_set, if_neg hni]; exact hx, leB_refl x⟩
  · rw [if_neg hq]; exact ⟨x, hx, leB_refl x⟩
theorem change_has {B : Bk} {p n : Nat} {b : ByteArray} (h : B.fresh p n b = true) : ((B.change p n b).log p)[n]? = some b := by
  obtain ⟨hp, hn⟩ := fresh_parts h
  rw [log_change hp, if_pos rfl]
  split
  · rename_i he
    rw [he, List.getElem?_append_right (Nat.le_refl _), Nat.sub_self]; rfl
  · rename_i hne
    rw [List.getElem?_set, if_pos rfl, if_pos (by omega)]
theorem change_given {l : List Ent} {B : Bk} {p n : Nat} {b : ByteArray} (hg : Given l B) (h : B.fresh p n b = true) (hm : (⟨p, n, b⟩ : Ent) ∈ l) : Given l (B.change p n b) := by
  obtain ⟨hp, hn⟩ := fresh_parts h
  intro q i x hx
  rw [log_change hp] at hx
  by_cases hq : q = p
  · subst hq
    rw [if_pos rfl] at hx
    split at hx
    · rename_i he
      by_cases hi : i < (B.log q).length
      · rw [List.getElem?_append_left hi] at hx; exact hg q i x hx
      · rw [List.getElem?_append_right (by omega)] at hx
        have h0 := (List.getElem?_eq_some_iff.1 hx).1
        simp only [List.length_cons, List.length_nil] at h0
        have hi2 : i = n := by omega
        subst hi2
        rw [he, Nat.sub_self] at hx
        simp only [List.getElem?_cons_zero, Option.some.injEq] at hx
        subst hx; exact hm
    · rw [List.getElem?_set] at hx
      split at hx
      · rename_i hni
        subst hni
        split at hx
        · simp only [Option.some.injEq] at hx; subst hx; exact hm
        · cases hx
      · exact hg q i x hx
  · rw [if_neg hq] at hx; exact hg q i x hx
theorem putB_eq {D : Dsk} {B : Bk} {p n : Nat} {b : ByteArray} (h : putE D B p n b = 0) : putB D B p n b = { B.change p n b with pos := B.pos + sectorsOf (epay p n b).size } := by unfold putB; rw [if_pos h]
theorem put_lead {D : Dsk} {B : Bk} {p n : Nat} {b : ByteArray} (h : B.fresh p n b = true) (h0 : putE D B p n b = 0) : Lead B (putB D B p n b) := by rw [putB_eq h0]; exact change_lead h
theorem put_has {D : Dsk} {B : Bk} {p n : Nat} {b : ByteArray} (h : B.fresh p n b = true) (h0 : putE D B p n b = 0) : ((putB D B p n b).log p)[n]? = some b := by rw [putB_eq h0]; exact change_has h
theorem put_given {l : List Ent} {D : Dsk} {B : Bk} {p n : Nat} {b : ByteArray} (hg : Given l B) (h : B.fresh p n b = true) (h0 : putE D B p n b = 0) (hm : (⟨p, n, b⟩ : Ent) ∈ l) : Given l (putB D B p n b) := by rw [putB_eq h0]; exact change_given hg h hm
theorem bestOf_mem {l : List Ent} {p n : Nat} {b : ByteArray} (h : bestOf l p n = some b) : (⟨p, n, b⟩ : Ent) ∈ l := by
  obtain ⟨⟨e, he, h2, h3⟩, _⟩ := (bestOf_least l p n).some b h
  unfold Ent.at at h2
  simp only [Bool.and_eq_true, decide_eq_true_eq] at h2
  have e1 : e = ⟨p, n, b⟩ := by
    obtain ⟨eo, en, eb⟩ := e
    simp_all
  rw [← e1]; exact he
theorem Lead.take {D : Dsk} {B : Bk} {l : List Ent} (he : (takeOf l D B).e = 0) : Lead B (takeOf l D B).B :=
  takeOf_ind (l := l) (fun _ B' => Lead B B') (fun _ _ _ _ _ h _ hf h0 => h.trans (put_lead hf h0)) (Lead.refl B) he
theorem Given.take {D : Dsk} {B : Bk} {l L : List Ent} (h : Given L B) (hl : ∀ e ∈ l, e ∈ L) (he : (takeOf l D B).e = 0) : Given L (takeOf l D B).B :=
  takeOf_ind (l := l) (fun _ B' => Given L B') (fun _ _ _ _ _ h hb hf h0 => put_given h hf h0 (hl _ (bestOf_mem hb))) h he
end Go.Proofs.Ytenngchidlfaeaa
/- Plain laws: Add, and a Take of one, in the law Least. -/
namespace Go.Proofs.Ytenngchidlfaeaa
open Go.RowKit
open Rad (Dsk)

theorem change_tot {B : Bk} {p n : Nat} {b : ByteArray} (hp : p < B.logs.length) : ∀ m, tot (B.change p n b) m ≤ tot B m + (if p < m then 1 else 0)
  | 0 => Nat.zero_le _
  | m + 1 => by
    have ih := change_tot (n := n) (b := b) hp m
    have hl : ((B.change p n b).log m).length ≤ (B.log m).length + (if m = p then 1 else 0) := by
      rw [log_change hp]
      by_cases h : m = p
      · subst h
        rw [if_pos rfl, if_pos rfl]
        split
        · rw [List.length_append]; exact Nat.le_refl _
        · rw [List.length_set]; omega
      · rw [if_neg h, if_neg h]; exact Nat.le_refl _
    rw [tot_succ, tot_succ]
    by_cases h1 : p < m
    · rw [if_pos h1] at ih
      rw [if_pos (by omega)]
      rw [if_neg (by omega)] at hl
      omega
    · rw [if_neg h1] at ih
      by_cases h2 : m = p
      · rw [if_pos h2] at hl
        rw [if_pos (by omega)]
        omega
      · rw [if_neg h2] at hl
        rw [if_neg (by omega)]
        omega
theorem tot_pos (B : Bk) (x : Nat) (m : Nat) : tot { B with pos := x } m = tot B m := rfl
/-- Add on a disk with enough room whose power stays on -/
theorem Good.add {D : Dsk} {B : Bk} {a j : Nat} (h : Good D B a j) (hh : Holds D B a) (e : Ent) (hs : 17 * (j + 1) ≤ 4000) :
    Good (addD D B e) (addB D B e) a (j + 1) ∧ Holds (addD D B e) (addB D B e) a ∧ Lead B (addB D B e) ∧ (∀ L, Given L B → e ∈ L → Given L (addB D B e)) ∧
      ((addE D B e = 0 ∧ e.ok = true ∧ e.o.toNat < a ∧ ((addB D B e).log e.o.toNat)[e.n.toNat]? = some e.b) ∨ addE D B e = 92) := by
  have hpos := h.pos
  have hlen := h.len
  by_cases hw : addW D B e = true
  · have hw2 := hw
    unfold addW at hw2
    simp only [Bool.and_eq_true, decide_eq_true_eq] at hw2
    have hk := of_decide_eq_true (show decide (OkE e.o e.n e.b.size) = true from hw2.1.2.1)
    have e1 : ((e.o.toNat : Nat) : Int) = e.o := Int.toNat_of_nonneg hk.1.1
    have e2 : ((e.n.toNat : Nat) : Int) = e.n := Int.toNat_of_nonneg hk.2.1.1
    have hsz := epay_size e.o.toNat e.n.toNat e.b
    have hb : e.b.size ≤ 1024 := hk.2.2
    have hse : sectorsOf (epay e.o.toNat e.n.toNat e.b).size ≤ 17 := by rw [hsz]; unfold sectorsOf; omega
    have hr : B.pos + sectorsOf (epay e.o.toNat e.n.toNat e.b).size ≤ D.safe.length := by omega
    have hkp := h.calm.keep hr
    have h0 : putE D B e.o.toNat e.n.toNat e.b = 0 := hkp.1
    have hf : B.fresh e.o.toNat e.n.toNat e.b = true := by unfold Bk.fresh; simp [hw2.1.2.2, hw2.2]
    have hD : addD D B e = putD D B e.o.toNat e.n.toNat e.b := by unfold addD; rw [if_pos hw]
    have hB : addB D B e = putB D B e.o.toNat e.n.toNat e.b := by unfold addB; rw [if_pos hw]
    have hE : addE D B e = 0 := by unfold addE; rw [if_pos hw]; exact h0
    have hent : (⟨(e.o.toNat : Int), (e.n.toNat : Int), e.b⟩ : Ent) = e := by rw [e1, e2]
    rw [hD, hB, hE]
    refine ⟨⟨hkp.2.1, by rw [show (putD D B e.o.toNat e.n.toNat e.b).safe.length = D.safe.length from keep_len _ _ _, hlen], ?_, ?_, ?_, ?_⟩, ?_, put_lead hf h0, fun L hg hm => put_given hg hf h0 (by rw [hent]; exact hm), .inl ⟨rfl, hw2.1.2.1, by rw [← h.offs]; exact hw2.1.2.2, put_has hf h0⟩⟩
    · rw [putB_eq h0]; show B.falls = _; rw [h.falls]; exact hkp.2.2.symm
    · rw [putB_eq h0]; show B.pos + _ ≤ _; omega
    · rw [putB_eq h0]
      show Go.Proofs.Ytenngchidlfaeaa.tot (B.change _ _ _) a ≤ _
      have h1 := change_tot (n := e.n.toNat) (b := e.b) hw2.1.2.2 a
      have h2 := h.tot
      split at h1 <;> omega
    · rw [(put_lead hf h0).1, h.offs]
    · exact hh.put h.calm (by rw [e1, e2]; exact hk) hf hr
  · have hD : addD D B e = D := by unfold addD; rw [if_neg hw]
    have hB : addB D B e = B := by unfold addB; rw [if_neg hw]
    have hE : addE D B e = addX D B e := by unfold addE; rw [if_neg hw]
    rw [hD, hB, hE]
    have ht := h.tot
    refine ⟨⟨h.calm, h.len, h.falls, by omega, by omega, h.offs⟩, hh, Lead.refl B, fun L hg _ => hg, ?_⟩
    unfold addX
    rw [if_neg (by simp [h.falls])]
    by_cases h1 : (e.ok && decide (e.o.toNat < B.logs.length)) = true
    · rw [if_pos h1]
      simp only [Bool.and_eq_true, decide_eq_true_eq] at h1
      by_cases h2 : (B.log e.o.toNat)[e.n.toNat]? = some e.b
      · rw [if_pos h2]; exact .inl ⟨rfl, h1.1, by rw [← h.offs]; exact h1.2, h2⟩
      · rw [if_neg h2]; exact .inr rfl
    · rw [if_neg h1]; exact .inr rfl
/-- a Take of one -/
theorem Good.one {D : Dsk} {B : Bk} {a j : Nat} (h : Good D B a j) (hh : Holds D B a) (e : Ent) (hs : 17 * (j + 1) ≤ 4000) :
    (takeOf [e] D B).e = 0 ∧ Good (takeOf [e] D B).D (takeOf [e] D B).B a (j + 1) ∧ Holds (takeOf [e] D B).D (takeOf [e] D B).B a ∧ Lead B (takeOf [e] D B).B ∧ (∀ L, Given L B → e ∈ L → Given L (takeOf [e] D B).B) := by
  obtain ⟨D', B', n', h1, h2, _⟩ := h.take [e] hs
  have he : (takeOf [e] D B).e = 0 := by rw [h1]
  refine ⟨he, by rw [h1]; exact h2, hh.take h.calm he, Lead.take he, fun L hg hm => hg.take (fun x hx => ?_) he⟩
  rw [List.mem_singleton.1 hx]; exact hm
/-- what was added is there, or a lesser one -/
def Has (B : Bk) (e : Ent) : Prop := e.ok = true ∧ e.o.toNat < B.logs.length ∧ ∃ b, (B.log e.o.toNat)[e.n.toNat]? = some b ∧ leB b e.b = true
theorem Has.lead {B B' : Bk} {e : Ent} (h : Has B e) (hl : Lead B B') : Has B' e := by
  obtain ⟨h1, h2, b, h3, h4⟩ := h
  obtain ⟨b', h5, h6⟩ := hl.2 _ _ _ h3
  exact ⟨h1, by rw [hl.1]; exact h2, b', h5, leB_trans h6 h4⟩
theorem get_ents {p : Nat} {b : ByteArray} {l : List ByteArray} {j : Nat} (h : l[j]? = some b) : (⟨(p : Int), (j : Int), b⟩ : Ent) ∈ ents p 0 l := by
  have := ents_get p (i := 0) h
  rw [Nat.zero_add] at this
  exact List.mem_of_getElem? this
theorem allOf_mem {b : ByteArray} : ∀ {L : List (List ByteArray)} {p q j : Nat} {l : List ByteArray}, L[q]? = some l → l[j]? = some b → (⟨((p + q : Nat) : Int), (j : Int), b⟩ : Ent) ∈ allOf p L
  | [], _, q, _, _, h, _ => by simp at h
  | c :: r, p, 0, j, l, h, hb => by
    simp only [List.getElem?_cons_zero, Option.some.injEq] at h
    subst h
    exact List.mem_append.2 (.inl (get_ents hb))
  | c :: r, p, q + 1, j, l, h, hb => by
    have h' : r[q]? = some l := by simpa using h
    have := allOf_mem (p := p + 1) h' hb
    rw [show p + (q + 1) = p + 1 + q from by omega]
    exact List.mem_append.2 (.inr this)
theorem Has.any {B : Bk} {e : Ent} (h : Has B e) : (allOf 0 B.logs).any (goodE e) = true := by
  obtain ⟨h1, h2, b, h3, h4⟩ := h
  have hk := of_decide_eq_true (show decide (OkE e.o e.n e.b.size) = true from h1)
  have e1 : ((e.o.toNat : Nat) : Int) = e.o := Int.toNat_of_nonneg hk.1.1
  have e2 : ((e.n.toNat : Nat) : Int) = e.n := Int.toNat_of_nonneg hk.2.1.1
  have hl : B.logs[e.o.toNat]? = some (B.log e.o.toNat) := by
    unfold Bk.log
    rw [List.getD_eq_getElem?_getD, List.getElem?_eq_getElem h2]; rfl
  have hm := allOf_mem (p := 0) hl h3
  rw [Nat.zero_add] at hm
  refine List.any_eq_true.2 ⟨_, hm, ?_⟩
  unfold goodE
  simp [e1, e2, h4]
theorem Given.all {l : List Ent} {B : Bk} (h : Given l B) {e : Ent} (he : e ∈ allOf 0 B.logs) : e ∈ l := by
  obtain ⟨q, j, r, h1, h2, h3, h4⟩ := mem_allOf he
  rw [Nat.zero_add] at h2
  have := h q j e.b (by rw [log_of h1]; exact h4)
  obtain ⟨o, n, b⟩ := e
  simp only at h2 h3
  subst h2; subst h3
  exact this
theorem given_made (l : List Ent) (n a : Nat) : Given l (mB n a) := by
  intro p i b h
  rw [mB_eq] at h
  have : (⟨List.replicate a [], 1, 0⟩ : Bk).log p = [] := by
    unfold Bk.log
    rw [List.getD_eq_getElem?_getD, List.getElem?_replicate]
    split <;> rfl
  rw [this] at h
  simp at h
end Go.Proofs.Ytenngchidlfaeaa
