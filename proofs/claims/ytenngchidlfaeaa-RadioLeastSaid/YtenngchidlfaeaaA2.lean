/- A2: texts Tail C3 C4 C5 C6 C7 C8, joined. -/
import Derived.Test.YtenngchidlfaeaaA1
import Derived.StillTail
import Derived.Deep.Quiet
import Derived.Below
import Derived.Deep.OwnRows
import Derived.Test.YtenngchidlfaeaaRows
import Derived.Lib.BufferWrite
import Derived.Lib.SlBuf
import Derived.Laws.IdiomCopy
/- A region that draws its order, whose first operations are quiet in a class of worlds and whose last ones stand in one forced order: one walk serves every order. -/
namespace Go
open Go.RowKit
section
variable {P : Program} {ops : Array Oper} {md : Region.Mode} {C : World → Prop}

def wpAnyLQ (P : Program) (md : Region.Mode) (ops : Array Oper) (C : World → Prop) (n : Nat) (L : Array Bool → Act → Prop) : Nat → Array Bool → Act → Prop
  | 0, listed, a => L listed a
  | f + 1, listed, a =>
    Region.ready md ops listed ≠ [] ∧ ∀ i ∈ Region.ready md ops listed, i < n ∧ qOp P ops C i (wpAnyLQ P md ops C n L f (listed.setIfInBounds i true)) a

theorem wpAny_of_headQ {n g : Nat} {L : Array Bool → Act → Prop} {Q' : Exit → Act → World → Prop} (hL : ∀ listed a w, C w → L listed a → wpAny P md ops Q' g listed a w) :
    ∀ (f : Nat) (listed : Array Bool) (a : Act) (w : World), C w → wpAnyLQ P md ops C n L f listed a → wpAny P md ops Q' (f + g) listed a w
  | 0, listed, a, w, hw, h => by rw [Nat.zero_add]; exact hL _ _ _ hw h
  | f + 1, listed, a, w, hw, h => by
    rw [show f + 1 + g = (f + g) + 1 by omega]
    exact ⟨fun h0 => absurd h0 h.1, fun i hi => wpOp_of_qOp hw (fun a' w' hw' h' => wpAny_of_headQ hL f _ a' w' hw' h') (h.2 i hi).2⟩

theorem wpAnyLQ_first {n i : Nat} {oi : Oper} {v : Value} {L : Array Bool → Act → Prop} (hi : ops[i]? = some oi) (hsel : ∀ (j : Nat) (o : Oper) cs b, ops[j]? = some o → o.op ≠ .select cs b)
    (hs : Region.sinkB md ops n = true) (hc : Region.chainB md ops n = true) (hn : n < ops.size) (hin : i < n)
    (hdone : ∀ listed a, L listed a → ∀ j ∈ Region.ready md ops listed, n ≤ j) :
    ∀ (f : Nat) (listed : Array Bool) (a : Act), HeadInv md ops n listed →
      (∀ j oj, ops[j]? = some oj → j ≠ i → listed.getD j true = false → (∀ e ∈ oj.after, Region.binds md e = true → e.on ≠ i) → oi.apart ops oj = true) →
      i ∈ Region.ready md ops listed → YieldsIn P ops C oi v a →
      wpAnyLQ P md ops C n L f (listed.setIfInBounds i true) (a.put oi.dst v) → wpAnyLQ P md ops C n L (f + 1) listed a := by
  intro f
  induction f with
  | zero =>
    intro listed a inv _ hr hy H
    have hun := (mem_ready.1 hr).1
    refine ⟨fun h => (by rw [h] at hr; cases hr), fun j hj => ?_⟩
    have hjn : j < n := by
      rcases Nat.lt_or_ge j n with h | h
      · exact h
      · exact absurd hj (tail_waits hs hc hn inv _ i rfl hin hun j h)
    refine ⟨hjn, ?_⟩
    by_cases hji : j = i
    · subst hji; exact hy.qOp hi H
    · have := hdone _ _ H j (ready_mono hj hji)
      omega
  | succ f ih =>
    intro listed a inv hfree hr hy H
    have hun := (mem_ready.1 hr).1
    refine ⟨fun h => (by rw [h] at hr; cases hr), fun j hj => ?_⟩
    have hjn : j < n := by
      rcases Nat.lt_or_ge j n with h | h
      · exact h
      · exact absurd hj (tail_waits hs hc hn inv _ i rfl hin hun j h)
    refine ⟨hjn, ?_⟩
    by_cases hji : j = i
    · subst hji; exact hy.qOp hi H
    · have h1 := (H.2 j (ready_mono hj hji)).2
      obtain ⟨hjun, oj, hoj, hall⟩ := mem_ready.1 hj
      have hnot : ∀ e ∈ oj.after, Region.binds md e = true → e.on ≠ i := fun e he hb heq => by
        have h1 := hall e he hb
        rw [heq, getD_both hun] at h1
        cases h1
      have h2 := qOp_put hoj (hfree j oj hoj hji hjun hnot) (fun cs b => hsel i oi cs b hi) (fun cs b => hsel j oj cs b hoj) hy h1
      have hfree' : ∀ k ok, ops[k]? = some ok → k ≠ i → (listed.setIfInBounds j true).getD k true = false →
          (∀ e ∈ ok.after, Region.binds md e = true → e.on ≠ i) → oi.apart ops ok = true := fun k ok hk hki hun hno => by
        refine hfree k ok hk hki ?_ hno
        by_cases hjk : j = k
        · subst hjk; exact hjun
        · rw [getD_set_ne true hjk] at hun; exact hun
      refine qOp_mono (fun a' h3 => ih (listed.setIfInBounds j true) a' (inv.set hj hjn) hfree' (ready_mono hr (Ne.symm hji)) h3.1 ?_) h2
      rw [Array.setIfInBounds_comm _ _ hji]
      exact h3.2

theorem wpAnyLQ_lex {n g : Nat} {Lq : Act → Prop} (hsel : Region.noSelect ops = true) (hs : Region.sinkB md ops n = true) (hc : Region.chainB md ops n = true) (hn : n < ops.size) :
    ∀ (l : List Oper) (k : Nat) (listed : Array Bool) (a : Act), (∀ j, j < l.length → l[j]? = ops[k + j]?) → k + l.length = n → HeadInv md ops n listed →
    Region.lexHead md ops g l.length k listed = true → wpQuiet P ops C Lq l a →
    wpAnyLQ P md ops C n (fun listed' a' => Region.seqB md ops g n listed' = true ∧ Lq a') l.length listed a
  | [], k, listed, a, _, hk, _, hB, h => by
    have : k = n := by simpa using hk
    subst this
    exact ⟨by simpa [Region.lexHead] using hB, h⟩
  | o :: l, k, listed, a, hl, hk, inv, hB, h => by
    have h0 : ops[k]? = some o := by simpa using (hl 0 (by simp)).symm
    simp only [List.length_cons, Region.lexHead, Bool.and_eq_true] at hB
    obtain ⟨⟨hr, hf⟩, hB'⟩ := hB
    have hkn : k < n := by simp only [List.length_cons] at hk; omega
    have hr' : k ∈ Region.ready md ops listed := by simpa using hr
    have hst : qOp P ops C k (wpQuiet P ops C Lq l) a := by unfold qOp; simp only [h0]; exact h
    obtain ⟨v, hy, hK⟩ := yieldsIn_of_qOp h0 hst
    exact wpAnyLQ_first h0 (Region.noSelect_spec hsel) hs hc hn hkn (fun listed' a' hL => seqB_ready hL.1) l.length listed a inv (Region.free_spec h0 hf) hr' hy
      (wpAnyLQ_lex hsel hs hc hn l (k + 1) _ _ (fun j hj => by have := hl (j + 1) (by simp; omega); simpa [Nat.add_assoc, Nat.add_comm 1 j] using this) (by simp only [List.length_cons] at hk; omega) (inv.set hr' hkn) hB' hK)

/-- Quiet operations in the class, then a forced tail: the lexical walk serves every order. -/
theorem wp_region_quiet_tail {id : Nat} {Q : Exit → Act → World → Prop} {a : Act} {w : World} {l : List Oper} (C : World → Prop) (n : Nat) (hm : P.follows .mixedOrders = true)
    (hB : Region.lexTailB .any l.toArray n = true) (hC : C w.drew)
    (h : wpQuiet P l.toArray C (fun a' => ∀ w', C w' → wpList P l.toArray Q (l.drop n) a' w') (l.take n) a) : (Code.region id l.toArray true).wp P Q a w := by
  simp only [Region.lexTailB, Bool.and_eq_true, decide_eq_true_eq] at hB
  obtain ⟨⟨⟨⟨hsel, hn⟩, hs⟩, hc⟩, hlex⟩ := hB
  have hn' : n < l.length := by simpa using hn
  have htl : (l.take n).length = n := by simp; omega
  have hdl : (l.drop n).length = l.toArray.size - n := by simp
  have inv0 : HeadInv .any l.toArray n (Array.replicate l.toArray.size false) :=
    ⟨by simp, fun j oj _ hl => (by rw [getD_replicate_false] at hl; cases hl), fun t _ ht => getD_in (by simpa using ht) (getD_replicate_false _ _)⟩
  have H := wpAnyLQ_lex (md := .any) (C := C) (g := l.toArray.size - n) hsel hs hc hn (l.take n) 0 _ a (fun j hj => by
    have hj' : j < n := by rw [htl] at hj; exact hj
    simp [hj']) (by simpa using htl) inv0 (by rw [htl]; exact hlex) h
  refine wp_region_any hm ?_
  have := wpAny_of_headQ (Q' := Q) (g := l.toArray.size - n) (fun listed a' w' hw' hL => by
    have := wpAny_of_seq (md := .any) (Q' := Q) (l.drop n) n listed a' w' (fun j => by simp [List.getElem?_drop]) (by rw [hdl]; exact hL.1) (hL.2 w' hw')
    rwa [hdl] at this) _ _ _ w.drew hC H
  rw [htl, show n + (l.toArray.size - n) = l.toArray.size by omega] at this
  exact this
/-- at the class 'w after some draws' -/
theorem wp_region_qt {id : Nat} {Q : Exit → Act → World → Prop} {a : Act} {w : World} {l : List Oper} (n : Nat) (hm : P.follows .mixedOrders = true)
    (hB : Region.lexTailB .any l.toArray n = true)
    (h : wpQuiet P l.toArray (fun w' => ∃ m, w' = w.drewN m) (fun a' => ∀ w', (∃ m, w' = w.drewN m) → wpList P l.toArray Q (l.drop n) a' w') (l.take n) a) : (Code.region id l.toArray true).wp P Q a w :=
  wp_region_quiet_tail _ n hm hB ⟨1, rfl⟩ h
/-- the same, the region written out, all of it quiet in a class -/
theorem wp_region_quiet_class {id : Nat} {Q : Exit → Act → World → Prop} {a : Act} {w : World} {l : List Oper} (C : World → Prop) (hm : P.follows .mixedOrders = true) (hB : Region.lexB .any l.toArray = true) (hC : C w.drew)
    (h : wpQuiet P l.toArray C (fun a' => ∀ w', C w' → Q .normal a' w') l a) : (Code.region id l.toArray true).wp P Q a w :=
  wp_region_quiet (C := C) hm hB hC (by simpa using h)
end
end Go
/- Words for memory: a block known whole, frames, classes of worlds. -/
namespace Go.Proofs.Ytenngchidlfaeaa
open Go.RowKit

/-- a block of cells, known whole, none of it frozen -/
def Blk (w : World) (g : Nat) (t : TypeId) (cs : List Value) : Prop := w.heap[g]? = some (.cells cs.toArray t (0, 0))
/-- w' is w but for the blocks of S and new ones -/
structure Onl (S : Nat → Prop) (w w' : World) : Prop where
  os : w'.os = w.os
  tape : w'.tape = w.tape
  output : w'.output = w.output
  size : w.heap.size ≤ w'.heap.size
  block : ∀ k, k < w.heap.size → ¬ S k → w'.heap[k]? = w.heap[k]?
def non : Nat → Prop := fun _ => False
def one (g : Nat) : Nat → Prop := fun k => k = g

theorem Onl.refl (S : Nat → Prop) (w : World) : Onl S w w := ⟨rfl, rfl, rfl, Nat.le_refl _, fun _ _ _ => rfl⟩
theorem Onl.trans {S T : Nat → Prop} {a b c : World} (h : Onl S a b) (k : Onl T b c) (hT : ∀ i, i < a.heap.size → T i → S i) : Onl S a c :=
  ⟨k.os.trans h.os, k.tape.trans h.tape, k.output.trans h.output, Nat.le_trans h.size k.size, fun i hi hs =>
    (k.block i (Nat.lt_of_lt_of_le hi h.size) (fun ht => hs (hT i hi ht))).trans (h.block i hi hs)⟩
theorem Onl.mono {S T : Nat → Prop} {a b : World} (h : Onl S a b) (hT : ∀ i, S i → T i) : Onl T a b :=
  ⟨h.os, h.tape, h.output, h.size, fun i hi ht => h.block i hi (fun hs => ht (hT i hs))⟩
theorem Onl.drewN {S : Nat → Prop} {a w : World} (h : Onl S a w) (n : Nat) : Onl S a (w.drewN n) := ⟨h.os, h.tape, h.output, h.size, h.block⟩
theorem Onl.drew {S : Nat → Prop} {a w : World} (h : Onl S a w) : Onl S a w.drew := h.drewN 1
theorem Onl.of_drw {S : Nat → Prop} {a w w' : World} (h : Onl S a w) (hd : Drw w w') : Onl S a w' := by obtain ⟨n, rfl⟩ := hd; exact h.drewN n
theorem Onl.alloc {S : Nat → Prop} {a w : World} (h : Onl S a w) (o : Obj) : Onl S a (w.alloc o) :=
  ⟨h.os, h.tape, h.output, Nat.le_trans h.size (by simp), fun k hk hs => (Below.heap_alloc _ _ _ (Nat.lt_of_lt_of_le hk h.size)).trans (h.block k hk hs)⟩
theorem Onl.set {S : Nat → Prop} {a w : World} (h : Onl S a w) (p : Addr) (u : Value) (hp : p.block < a.heap.size → S p.block) : Onl S a (w.setCell p u) :=
  ⟨h.os, h.tape, h.output, Nat.le_trans h.size (by simp [World.setCell]), fun k hk hs => (Below.heap_setCell _ _ _ _ (fun e => hs (by subst e; exact hp hk))).trans (h.block k hk hs)⟩
theorem Onl.grown {S : Nat → Prop} {a w w' : World} {row : Option Nat} (h : Onl S a w) (hg : w.grownBy w' row) (hr : ∀ k, row = some k → k < a.heap.size → S k) : Onl S a w' :=
  ⟨hg.os.trans h.os, hg.tape.trans h.tape, hg.output.trans h.output, Nat.le_trans h.size hg.size, fun k hk hs =>
    (hg.block k (Nat.lt_of_lt_of_le hk h.size) (fun e => hs (hr k e.symm hk))).trans (h.block k hk hs)⟩
theorem Onl.below {a b : World} (h : Onl non a b) : Below a.heap.size a b := ⟨h.os, h.tape, h.output, h.size, fun k hk => h.block k hk (fun h => h)⟩
theorem Onl.of_below {S : Nat → Prop} {a b : World} (h : Below a.heap.size a b) : Onl S a b := ⟨h.os, h.tape, h.output, h.size, fun k hk _ => h.block k hk⟩
theorem Onl.cell {S : Nat → Prop} {a b : World} (h : Onl S a b) {p : Addr} {v : Value} (hc : a.cell? p = some v) (hs : ¬ S p.block) : b.cell? p = some v :=
  (World.cell?_of_block (w := a) (h.block p.block (World.block_lt_of_cell? a p hc) hs)).trans hc

theorem Blk.lt {w : World} {g : Nat} {t : TypeId} {cs : List Value} (h : Blk w g t cs) : g < w.heap.size := (Array.getElem?_eq_some_iff.1 h).1
theorem Blk.cell {w : World} {g : Nat} {t : TypeId} {cs : List Value} (h : Blk w g t cs) (i : Nat) : w.cell? ⟨g, i, none⟩ = cs[i]? := by
  unfold Blk at h; simp [World.cell?, h]
theorem Blk.cell' {w : World} {g : Nat} {t : TypeId} {cs : List Value} (h : Blk w g t cs) {i : Nat} {v : Value} (hv : cs[i]? = some v) : w.cell? ⟨g, i, none⟩ = some v := (h.cell i).trans hv
theorem Blk.free {w : World} {g : Nat} {t : TypeId} {cs : List Value} (h : Blk w g t cs) (i : Nat) : w.frozen? ⟨g, i, none⟩ = false := by
  unfold Blk at h; simp [World.frozen?, h]
theorem Blk.onl {S : Nat → Prop} {w w' : World} {g : Nat} {t : TypeId} {cs : List Value} (h : Blk w g t cs) (ho : Onl S w w') (hs : ¬ S g) : Blk w' g t cs := (ho.block g h.lt hs).trans h
theorem Blk.drewN {w : World} {g : Nat} {t : TypeId} {cs : List Value} (h : Blk w g t cs) (n : Nat) : Blk (w.drewN n) g t cs := h
theorem Blk.drew {w : World} {g : Nat} {t : TypeId} {cs : List Value} (h : Blk w g t cs) : Blk w.drew g t cs := h
theorem Blk.drw {w w' : World} {g : Nat} {t : TypeId} {cs : List Value} (h : Blk w g t cs) (hd : Drw w w') : Blk w' g t cs := by obtain ⟨n, rfl⟩ := hd; exact h
theorem Blk.alloc {w : World} {g : Nat} {t : TypeId} {cs : List Value} (h : Blk w g t cs) (o : Obj) : Blk (w.alloc o) g t cs := h.onl ((Onl.refl non w).alloc o) (fun h => h)
theorem Blk.new (w : World) (t : TypeId) (cs : List Value) : Blk (w.alloc (.cells cs.toArray t)) w.heap.size t cs := heap_alloc_new w _
theorem Blk.set {w : World} {g : Nat} {t : TypeId} {cs : List Value} (h : Blk w g t cs) (i : Nat) (v : Value) : Blk (w.setCell ⟨g, i, none⟩ v) g t (cs.set i v) := by
  unfold Blk at h ⊢
  simp only [World.setCell, Array.getElem?_modify, if_true, h]
  simp [List.setIfInBounds_toArray]
theorem Blk.set_ne {w : World} {g : Nat} {t : TypeId} {cs : List Value} (h : Blk w g t cs) {p : Addr} (hp : g ≠ p.block) (v : Value) : Blk (w.setCell p v) g t cs := (Below.heap_setCell _ _ _ _ hp).trans h

/-- the worlds that are w but for S and new blocks, as a type: a class for regions that draw -/
def Ext (S : Nat → Prop) (w : World) : Type := { w' : World // Onl S w w' }
def InExt (S : Nat → Prop) (w w' : World) : Prop := ∃ x : Ext S w, w' = x.val
theorem InExt.mk {S : Nat → Prop} {w w' : World} (h : Onl S w w') : InExt S w w' := ⟨⟨w', h⟩, rfl⟩
theorem InExt.onl {S : Nat → Prop} {w w' : World} (h : InExt S w w') : Onl S w w' := by obtain ⟨x, rfl⟩ := h; exact x.property

theorem made_replicate (z : Value) (n : Nat) : (madeCells #[z] n) = (List.replicate n z).toArray := by
  apply Array.toList_inj.1
  rw [toList_madeCells_one]

/-- numbers as cells -/
def is (l : List Nat) : List Value := l.map fun (x : Nat) => Value.int .i64 (x : Int)
def bs (l : List Nat) : List Value := l.map fun (x : Nat) => Value.int .u8 (x : Int)
theorem is_length (l : List Nat) : (is l).length = l.length := by simp [is]
theorem bs_length (l : List Nat) : (bs l).length = l.length := by simp [bs]
theorem is_get {l : List Nat} {i x : Nat} (h : l[i]? = some x) : (is l)[i]? = some (.int .i64 (x : Int)) := by simp [is, h]
theorem bs_get {l : List Nat} {i x : Nat} (h : l[i]? = some x) : (bs l)[i]? = some (.int .u8 (x : Int)) := by simp [bs, h]
theorem is_set (l : List Nat) (i x : Nat) : (is l).set i (.int .i64 (x : Int)) = is (l.set i x) := by simp [is, List.map_set]
theorem bs_set (l : List Nat) (i x : Nat) : (bs l).set i (.int .u8 (x : Int)) = bs (l.set i x) := by simp [bs, List.map_set]
theorem get_getD {l : List Nat} {i : Nat} (h : i < l.length) : l[i]? = some (l.getD i 0) := by
  rw [List.getElem?_eq_getElem h, List.getD_eq_getElem?_getD, List.getElem?_eq_getElem h]; rfl
end Go.Proofs.Ytenngchidlfaeaa
/- Words for bytes: copies, conversions. -/
namespace Go.Proofs.Ytenngchidlfaeaa
open Go.RowKit

theorem info3 : (Try.prog.info? 3).map (fun i => (i.zero, i.size, i.bytes)) = some (some (.int .i64 0), 1, 8) := by kernel_rfl
theorem info5 : (Try.prog.info? 5).map (fun i => (i.zero, i.size, i.bytes)) = some (some (.int .u8 0), 1, 1) := by kernel_rfl
theorem info5s : (Try.prog.info? 5).map (·.size) = some 1 := by kernel_rfl

/-- numbers as a string -/
def sb (l : List Nat) : ByteArray := ⟨(l.map UInt8.ofNat).toArray⟩
theorem sb_size (l : List Nat) : (sb l).size = l.length := by simp [sb, ByteArray.size]
theorem bl_sb {l : List Nat} (h : Rad.Bytes l) : bl (sb l) = l := by
  unfold bl sb
  simp only [List.map_map]
  conv => rhs; rw [← List.map_id l]
  apply List.map_congr_left
  intro x hx
  have := h x hx
  simp [Nat.mod_eq_of_lt this]
theorem sb_bl (s : ByteArray) : sb (bl s) = s := bl_inj (bl_sb (bl_bytes s))
theorem sb_inj {l m : List Nat} (hl : Rad.Bytes l) (hm : Rad.Bytes m) (h : sb l = sb m) : l = m := by rw [← bl_sb hl, h, bl_sb hm]
theorem byteCells_bs (s : ByteArray) : Lib.byteCells s.data.toList = bs (bl s) := by simp [Lib.byteCells, bs, bl]
theorem bxor8 (a b : Nat) (ha : a < 256) (hb : b < 256) : bits .xor .u8 (a : Int) (b : Int) = ((a ^^^ b : Nat) : Int) := by
  have hx := Rad.xor_lt ha hb
  have h1 : (BitVec.ofInt 8 (a : Int)).toNat = a := by
    rw [BitVec.ofInt_natCast, BitVec.toNat_ofNat]; exact Nat.mod_eq_of_lt (by omega)
  have h2 : (BitVec.ofInt 8 (b : Int)).toNat = b := by
    rw [BitVec.ofInt_natCast, BitVec.toNat_ofNat]; exact Nat.mod_eq_of_lt (by omega)
  show IntKind.u8.wrap ((BitVec.ofInt 8 (a : Int) ^^^ BitVec.ofInt 8 (b : Int)).toNat : Int) = _
  rw [BitVec.toNat_xor, h1, h2, IntKind.wrap_u8]
  omega
theorem u8w {a : Nat} (h : a < 256) : IntKind.u8.wrap (a : Int) = (a : Int) := IntWalk.u8_in _ (by omega)

/-- copy of a string into a block's head -/
theorem Blk.copy_string {w : World} {g : Nat} {t : TypeId} {cs : List Value} (h : Blk w g t cs) (dT sT ty : TypeId) (hu : Try.prog.underlying dT = some (.slice 5)) (n c : Nat) (s : ByteArray) (hn : s.size ≤ n) (hc : s.size ≤ cs.length) :
    ∃ w', (Builtin.copy_ #[dT, sT] ty #[.slice (some ⟨g, 0, none⟩) n c, .string s]).run Try.prog w = .ok (goInt s.size) w' ∧ Blk w' g t (bs (bl s) ++ cs.drop s.size) ∧ Onl (one g) w w' := by
  refine ⟨_, Lib.run_copy_row_string w dT sT ty 5 g 0 n c s cs.toArray t hu info5s h hn (by simpa using hc), ?_, ?_⟩
  · unfold Blk
    rw [byteCells_bs]
    simp only [Nat.zero_add]
    have hl := h.lt
    simp [World.setRow, Array.getElem?_modify, show w.heap[g]? = _ from h]
  · refine ⟨rfl, rfl, rfl, by simp [World.setRow], fun k _ hk => ?_⟩
    simp only [World.setRow, Array.getElem?_modify]
    rw [if_neg (fun e => hk e.symm)]

/-- a string made of bytes in memory -/
theorem conv_back (w : World) (b o : Nat) (cap : Nat) (l : List Nat) (hl : Rad.Bytes l) (hc : ∀ j, j < l.length → w.cell? ⟨b, o + j, none⟩ = some (.int .u8 ((l.getD j 0 : Nat) : Int))) :
    (convert 57 9 (.slice (some ⟨b, o, none⟩) l.length cap)).run Try.prog w = .ok (.string (sb l)) w := by
  have h := run_convert_bytes_back (P := Try.prog) w 57 9 5 ⟨b, o, none⟩ cap (l.map UInt8.ofNat) Try.underlying57 Try.underlying5 Try.underlying9 (by
    intro j hj
    have hj' : j < l.length := by simpa using hj
    have e : (⟨b, o, none⟩ : Addr).add j = ⟨b, o + j, none⟩ := by
      unfold Addr.add; split <;> simp_all
    rw [e, hc j hj']
    simp only [List.getElem_map, List.getD_eq_getElem?_getD, List.getElem?_eq_getElem hj', Option.getD_some]
    have := hl _ (List.getElem_mem hj')
    simp [Nat.mod_eq_of_lt this])
  rw [List.length_map] at h
  exact h

/-- the bytes l lie in block g from place o on -/
def Rd (w : World) (g o : Nat) (l : List Nat) : Prop := ∀ k, k < l.length → w.cell? ⟨g, o + k, none⟩ = some (.int .u8 ((l.getD k 0 : Nat) : Int))
theorem Rd.onl {S : Nat → Prop} {w w' : World} {g o : Nat} {l : List Nat} (h : Rd w g o l) (ho : Onl S w w') (hs : ¬ S g) : Rd w' g o l := fun k hk => ho.cell (h k hk) hs
theorem Rd.at0 {w : World} {g : Nat} {l : List Nat} (h : Rd w g 0 l) {k : Nat} (hk : k < l.length) : w.cell? ⟨g, k, none⟩ = some (.int .u8 ((l.getD k 0 : Nat) : Int)) := by
  have := h k hk; rwa [Nat.zero_add] at this
theorem Rd.lt {w : World} {g o : Nat} {l : List Nat} (h : Rd w g o l) (h0 : 0 < l.length) : g < w.heap.size := World.block_lt_of_cell? w _ (h 0 h0)
theorem take_succ_getD {l : List Nat} {k : Nat} (h : k < l.length) : l.take (k + 1) = l.take k ++ [l.getD k 0] := by
  rw [List.take_succ_eq_append_getElem h, List.getD_eq_getElem?_getD, List.getElem?_eq_getElem h]; rfl
end Go.Proofs.Ytenngchidlfaeaa
/- Words for a []byte made of a string. -/
namespace Go.Proofs.Ytenngchidlfaeaa
open Go.RowKit

/-- a block of cells known whole, marked behind its end (the model marks a []byte made of a string so) -/
def BlkM (w : World) (g : Nat) (t : TypeId) (cs : List Value) : Prop := ∃ m, cs.length ≤ m ∧ w.heap[g]? = some (.cells cs.toArray t (m, m + 1))
theorem BlkM.lt {w : World} {g : Nat} {t : TypeId} {cs : List Value} (h : BlkM w g t cs) : g < w.heap.size := by obtain ⟨_, _, h⟩ := h; exact (Array.getElem?_eq_some_iff.1 h).1
theorem BlkM.cell {w : World} {g : Nat} {t : TypeId} {cs : List Value} (h : BlkM w g t cs) (i : Nat) : w.cell? ⟨g, i, none⟩ = cs[i]? := by
  obtain ⟨_, _, h⟩ := h; simp [World.cell?, h]
theorem BlkM.cell' {w : World} {g : Nat} {t : TypeId} {cs : List Value} (h : BlkM w g t cs) {i : Nat} {v : Value} (hv : cs[i]? = some v) : w.cell? ⟨g, i, none⟩ = some v := (h.cell i).trans hv
theorem BlkM.free {w : World} {g : Nat} {t : TypeId} {cs : List Value} (h : BlkM w g t cs) {i : Nat} (hi : i < cs.length) : w.frozen? ⟨g, i, none⟩ = false := by
  obtain ⟨m, hm, h⟩ := h
  simp [World.frozen?, h]; omega
theorem BlkM.onl {S : Nat → Prop} {w w' : World} {g : Nat} {t : TypeId} {cs : List Value} (h : BlkM w g t cs) (ho : Onl S w w') (hs : ¬ S g) : BlkM w' g t cs := by
  have hl := h.lt
  obtain ⟨m, hm, h⟩ := h
  exact ⟨m, hm, (ho.block g hl hs).trans h⟩
theorem BlkM.drewN {w : World} {g : Nat} {t : TypeId} {cs : List Value} (h : BlkM w g t cs) (n : Nat) : BlkM (w.drewN n) g t cs := h
theorem BlkM.drw {w w' : World} {g : Nat} {t : TypeId} {cs : List Value} (h : BlkM w g t cs) (hd : Drw w w') : BlkM w' g t cs := by obtain ⟨n, rfl⟩ := hd; exact h
theorem BlkM.alloc {w : World} {g : Nat} {t : TypeId} {cs : List Value} (h : BlkM w g t cs) (o : Obj) : BlkM (w.alloc o) g t cs := h.onl ((Onl.refl non w).alloc o) (fun h => h)
theorem BlkM.set {w : World} {g : Nat} {t : TypeId} {cs : List Value} (h : BlkM w g t cs) (i : Nat) (v : Value) : BlkM (w.setCell ⟨g, i, none⟩ v) g t (cs.set i v) := by
  obtain ⟨m, hm, h⟩ := h
  refine ⟨m, by simpa using hm, ?_⟩
  simp only [World.setCell, Array.getElem?_modify, if_true, h]
  simp [List.setIfInBounds_toArray]
theorem BlkM.set_ne {w : World} {g : Nat} {t : TypeId} {cs : List Value} (h : BlkM w g t cs) {p : Addr} (hp : g ≠ p.block) (v : Value) : BlkM (w.setCell p v) g t cs := by
  obtain ⟨m, hm, h⟩ := h
  exact ⟨m, hm, (Below.heap_setCell _ _ _ _ hp).trans h⟩
/-- '[]byte(s)' -/
theorem bytes_made (w : World) (s : ByteArray) : ∃ c o, s.size ≤ c ∧ (convert 9 57 (.string s)).run Try.prog w = .ok (.slice (some ⟨w.heap.size, 0, none⟩) s.size c) (w.drew.alloc o) ∧
    BlkM (w.drew.alloc o) w.heap.size 5 (bs (bl s ++ List.replicate (c - s.size) 0)) := by
  have h := run_bytes_of_string (P := Try.prog) w 9 57 5 s Try.underlying9 Try.underlying57 Try.underlying5
  have e : (bs (bl s ++ List.replicate (grownCap w s.size 0 5 - s.size) 0)).toArray = bytesRow s (grownCap w s.size 0 5) := by
    apply Array.toList_inj.1
    simp [bytesRow, bs, bl, List.map_map]
  refine ⟨_, _, grownCap_ge w s.size 0 5, h, ?_⟩
  refine ⟨(bytesRow s (grownCap w s.size 0 5)).size, ?_, ?_⟩
  · rw [← e]; simp
  · rw [e]; exact heap_alloc_new w.drew _
theorem Rd.of_blkM {w : World} {g : Nat} {l m : List Nat} (h : BlkM w g 5 (bs (l ++ m))) : Rd w g 0 l := by
  intro k hk
  rw [Nat.zero_add]
  refine h.cell' (bs_get ?_)
  rw [List.getElem?_append_left hk]
  exact get_getD hk

theorem size5 (w : World) : (sizeOf 5).run Try.prog w = .ok 1 w := by kernel_rfl
/-- a slice of a []byte -/
theorem run_slice57 (w : World) (g n c lo hi : Nat) (h1 : lo ≤ hi) (h2 : hi ≤ c) (h3 : lo < c) :
    (Instr.slice 57 (.slice (some ⟨g, 0, none⟩) n c) (some (.int .i64 (lo : Int))) (some (.int .i64 (hi : Int))) none).run Try.prog w = .ok (.slice (some ⟨g, lo, none⟩) (hi - lo) (c - lo)) w := by
  have e1 : 0 ≤ (hi : Int) ∧ (hi : Int) ≤ (c : Int) := ⟨by omega, by omega⟩
  have e2 : 0 ≤ (lo : Int) ∧ (lo : Int) ≤ (hi : Int) := ⟨by omega, by omega⟩
  have e3 : c ≠ lo := by omega
  have e4 : (⟨g, 0, none⟩ : Addr).add lo = ⟨g, lo, none⟩ := by unfold Addr.add; split <;> simp_all
  simp [Instr.slice, run_underlying Try.underlying57, Instr.sliceBounds, Instr.sliceBound, asIntOf, e3, e4, h1, h2]
end Go.Proofs.Ytenngchidlfaeaa
/- Words for slices that grow: an owned row, its shape, append. -/
namespace Go.Proofs.Ytenngchidlfaeaa
open Go.RowKit

/-- the block behind a slice's address -/
def ownOf (o : Option Addr) : Nat → Prop := fun k => (o.map (·.block)) = some k
/-- a slice value that owns its row: n elements, the cells xs -/
def Own (w : World) (B : Nat) (e : TypeId) (size : Nat) (o : Option Addr) (n c : Nat) (xs : List Value) : Prop := w.ownsRow B e size (.slice o n c) n xs
theorem Own.nil (w : World) (B : Nat) (e : TypeId) (size : Nat) : Own w B e size none 0 0 [] := World.ownsRow_nil w B e size
theorem Own.made0 (w : World) (B : Nat) (e : TypeId) (size : Nat) (hB : B ≤ w.heap.size) : Own (w.alloc (.cells #[] e)) B e size (some ⟨w.heap.size, 0, none⟩) 0 0 [] :=
  World.ownsRow_made w #[] 0 hB (by unfold maxLen; omega) (by simp)
theorem Own.length {w : World} {B : Nat} {e : TypeId} {size : Nat} {o : Option Addr} {n c : Nat} {xs : List Value} (h : Own w B e size o n c xs) : xs.length = n * size := h.1
theorem Own.shape {w : World} {B : Nat} {e : TypeId} {size : Nat} {o : Option Addr} {n c : Nat} {xs : List Value} (h : Own w B e size o n c xs) (h0 : 0 < n) :
    ∃ g extra, o = some ⟨g, 0, none⟩ ∧ B ≤ g ∧ Blk w g e (xs ++ extra) ∧ n ≤ c ∧ c ≤ maxLen ∧ (xs ++ extra).length = c * size := by
  rcases h.2 with ⟨_, hn⟩ | ⟨g, cap, cur, hv, hb, hg, h1, h2, h3, h4⟩
  · omega
  · simp only [Value.slice.injEq] at hv
    obtain ⟨rfl, _, rfl⟩ := hv
    refine ⟨g, cur.toList.drop (n * size), rfl, hb, ?_, h1, h2, ?_⟩
    · unfold Blk
      rw [← h4, List.take_append_drop]
      simpa using hg
    · rw [← h4, List.take_append_drop]; simpa using h3
theorem Own.of_blk {w : World} {B g : Nat} {e : TypeId} {size n c : Nat} {xs extra : List Value} (hb : Blk w g e (xs ++ extra)) (hB : B ≤ g) (hn : xs.length = n * size) (hc : (xs ++ extra).length = c * size) (h1 : n ≤ c) (h2 : c ≤ maxLen) :
    Own w B e size (some ⟨g, 0, none⟩) n c xs :=
  ⟨hn, .inr ⟨g, c, (xs ++ extra).toArray, rfl, hB, hb, h1, h2, by simpa using hc, by rw [← hn]; simp⟩⟩
theorem Own.onl {S : Nat → Prop} {w w' : World} {B : Nat} {e : TypeId} {size : Nat} {o : Option Addr} {n c : Nat} {xs : List Value} (h : Own w B e size o n c xs) (ho : Onl S w w') (hs : ∀ k, ownOf o k → ¬ S k) : Own w' B e size o n c xs := by
  refine ⟨h.1, ?_⟩
  rcases h.2 with h2 | ⟨g, cap, cur, hv, hb, hg, r⟩
  · exact .inl h2
  · refine .inr ⟨g, cap, cur, hv, hb, ?_, r⟩
    simp only [Value.slice.injEq] at hv
    obtain ⟨rfl, _, _⟩ := hv
    exact (ho.block g (Array.getElem?_eq_some_iff.1 hg).1 (hs g rfl)).trans hg
theorem Own.alloc {w : World} {B : Nat} {e : TypeId} {size : Nat} {o : Option Addr} {n c : Nat} {xs : List Value} (h : Own w B e size o n c xs) (x : Obj) : Own (w.alloc x) B e size o n c xs :=
  h.onl ((Onl.refl non w).alloc x) (fun _ _ h => h)
theorem Own.drewN {w : World} {B : Nat} {e : TypeId} {size : Nat} {o : Option Addr} {n c : Nat} {xs : List Value} (h : Own w B e size o n c xs) (k : Nat) : Own (w.drewN k) B e size o n c xs := h
theorem Own.drw {w w' : World} {B : Nat} {e : TypeId} {size : Nat} {o : Option Addr} {n c : Nat} {xs : List Value} (h : Own w B e size o n c xs) (hd : Drw w w') : Own w' B e size o n c xs := by obtain ⟨k, rfl⟩ := hd; exact h
theorem Own.lt {w : World} {B : Nat} {e : TypeId} {size : Nat} {o : Option Addr} {n c : Nat} {xs : List Value} (h : Own w B e size o n c xs) : ∀ k, ownOf o k → B ≤ k ∧ k < w.heap.size := by
  intro k hk
  rcases h.2 with ⟨hv, _⟩ | ⟨g, cap, cur, hv, hb, hg, r⟩
  · simp only [Value.slice.injEq] at hv; obtain ⟨rfl, _⟩ := hv; simp [ownOf] at hk
  · simp only [Value.slice.injEq] at hv
    obtain ⟨rfl, _, _⟩ := hv
    have : g = k := by simpa [ownOf] using hk
    subst this
    exact ⟨hb, (Array.getElem?_eq_some_iff.1 hg).1⟩
theorem Own.mono {w : World} {B B' : Nat} {e : TypeId} {size : Nat} {o : Option Addr} {n c : Nat} {xs : List Value} (h : Own w B e size o n c xs) (hB : ∀ k, ownOf o k → B' ≤ k) : Own w B' e size o n c xs := by
  refine ⟨h.1, ?_⟩
  rcases h.2 with h2 | ⟨g, cap, cur, hv, hb, hg, r⟩
  · exact .inl h2
  · refine .inr ⟨g, cap, cur, hv, ?_, hg, r⟩
    simp only [Value.slice.injEq] at hv
    obtain ⟨rfl, _, _⟩ := hv
    exact hB g rfl

section
variable {P : Program}
/-- append to an owned row, run -/
theorem run_app (w : World) (t ty : TypeId) (base : Nat) (e : TypeId) (z : Value) (size bytes : Nat) (ht : P.underlying t = some (.slice e)) (hinfo : (P.info? e).map (fun i => (i.zero, i.size, i.bytes)) = some (some z, size, bytes)) (hzs : z.cells.size = size) (hsz : 0 < size)
    (so : Option Addr) (n sc : Nat) (xs : List Value) (hown : Own w base e size so n sc xs)
    (ad : Addr) (m c : Nat) (news : List Value) (hl : news.length = m * size) (hnews : ∀ j u, news[j]? = some u → w.cell? (ad.add j) = some u) (h1 : ∀ u ∈ news, u.oneCell' = true)
    (hbound : n + m ≤ 100000000) (hb2 : bytes ≤ 1000) (hbase : base ≤ w.heap.size) :
    ∃ o' c' w', (Builtin.append_ #[t, t] ty #[.slice so n sc, .slice (some ad) m c]).run P w = .ok (.slice o' (n + m) c') w' ∧ Own w' base e size o' (n + m) c' (xs ++ news) ∧ Onl (ownOf so) w w' ∧ (∀ k, ownOf o' k → ownOf so k ∨ w.heap.size ≤ k) := by
  obtain ⟨i, hi, hz0, hz1, hz2⟩ := info_parts hinfo
  have hbytes : (n + m) * bytes ≤ 140737488355328 := by
    have : (n + m) * bytes ≤ 100000000 * 1000 := Nat.mul_le_mul hbound hb2
    omega
  obtain ⟨v', w', hr, hown', hg, hv⟩ := run_append_own (P := P) w base t ty e i z size bytes ht hi hz0 hz1 hz2 hzs hsz (.slice so n sc) n xs hown ad m c news hl hnews h1 (by unfold maxLen; omega) hbytes hbase
  have hOnl : Onl (ownOf so) w w' := by
    refine (Onl.refl _ w).grown hg ?_
    intro k hk _
    cases so with
    | none => simp [Value.ownBlock] at hk
    | some ad' => simpa [Value.ownBlock, ownOf] using hk
  have hshape : ∃ o' c', v' = .slice o' (n + m) c' := by
    rcases hown'.2 with ⟨hv', hn⟩ | ⟨g, cap, cur, hv', _⟩
    · exact ⟨none, 0, by rw [hv', hn]⟩
    · exact ⟨_, _, hv'⟩
  obtain ⟨o', c', rfl⟩ := hshape
  refine ⟨o', c', w', hr, hown', hOnl, ?_⟩
  subst hz1
  subst hz2
  rcases hown.2 with ⟨hv0, hn0⟩ | ⟨g, cap, cur, hv0, hbg, hgg, hnc, hcm, hcs, htake⟩
  · simp only [Value.slice.injEq] at hv0
    obtain ⟨rfl, rfl, rfl⟩ := hv0
    by_cases hm : m = 0
    · have := hv.2 ⟨rfl, hm⟩
      simp only [Value.slice.injEq] at this
      intro k hk
      rw [this.1] at hk
      simp [ownOf] at hk
    · have hr2 := run_append_nil (P := P) w t ty e i z ht hi hz0 ad m c news hl hnews (by omega) (by omega) (by have hb := hbytes; simp only [Nat.zero_add] at hb; omega)
      rw [hr2] at hr
      simp only [Result.ok.injEq, Value.slice.injEq] at hr
      intro k hk
      rw [← hr.1.1] at hk
      right
      have : w.heap.size = k := by simpa [ownOf] using hk
      omega
  · simp only [Value.slice.injEq] at hv0
    obtain ⟨rfl, _, rfl⟩ := hv0
    by_cases hroom : n + m ≤ sc
    · have hfit : n * i.size + news.length ≤ cur.size := by rw [hl, hcs, ← Nat.add_mul]; exact Nat.mul_le_mul_right _ hroom
      have hr2 := run_append_room (P := P) w t ty e i ht hi g n sc cur hgg ad m c news hl hnews h1 hroom hfit
      rw [hr2] at hr
      simp only [Result.ok.injEq, Value.slice.injEq] at hr
      intro k hk
      rw [← hr.1.1] at hk
      exact .inl hk
    · have holds : ∀ j u, xs[j]? = some u → w.cell? ((⟨g, 0, none⟩ : Addr).add j) = some u := World.ownsRow.cells (w := w) (base := base) (e := e) hown (g := g) rfl
      have hr2 := run_append_grow (P := P) w t ty e i z ht hi hz0 ⟨g, 0, none⟩ n sc xs hown.1 holds ad m c news hl hnews (by omega) (by omega) (growslice_fits (by omega) hbytes)
      rw [hr2] at hr
      simp only [Result.ok.injEq, Value.slice.injEq] at hr
      intro k hk
      rw [← hr.1.1] at hk
      right
      have : w.heap.size = k := by simpa [ownOf] using hk
      omega
/-- append to an owned row, in the walk -/
theorem wpList_app {w : World} {ops : Array Oper} {rest : List Oper} {o : Oper} {a : Act} {Q : Exit → Act → World → Prop} (hgd : o.guard = none) (s x : Operand) (t : TypeId) (ho : o.op = .call { callee := .builtin .append, args := #[s, x], argTypes := #[t, t] })
    (base : Nat) (e : TypeId) (z : Value) (size bytes : Nat) (ht : P.underlying t = some (.slice e)) (hinfo : (P.info? e).map (fun i => (i.zero, i.size, i.bytes)) = some (some z, size, bytes)) (hzs : z.cells.size = size) (hsz : 0 < size)
    (so : Option Addr) (n sc : Nat) (xs : List Value) (hs : a.eval s = .slice so n sc) (hown : Own w base e size so n sc xs)
    (ad : Addr) (m c : Nat) (news : List Value) (hx : a.eval x = .slice (some ad) m c) (hl : news.length = m * size) (hnews : ∀ j u, news[j]? = some u → w.cell? (ad.add j) = some u) (h1 : ∀ u ∈ news, u.oneCell' = true)
    (hbound : n + m ≤ 100000000) (hb2 : bytes ≤ 1000) (hbase : base ≤ w.heap.size)
    (h : ∀ o' c' w', Own w' base e size o' (n + m) c' (xs ++ news) → Onl (ownOf so) w w' → (∀ k, ownOf o' k → ownOf so k ∨ w.heap.size ≤ k) → wpList P ops Q rest (a.put o.dst (.slice o' (n + m) c')) w') : wpList P ops Q (o :: rest) a w := by
  obtain ⟨o', c', w', hr, h2, h3, h4⟩ := run_app (P := P) w t o.type base e z size bytes ht hinfo hzs hsz so n sc xs hown ad m c news hl hnews h1 hbound hb2 hbase
  refine wpList_plain hgd fun K hK => ?_
  unfold Oper.wp execOp
  simp only [ho, resolve, invoke, builtin, Sem.run_bind, Sem.run_pure, Result.andThen_ok, List.map_toArray, List.map_cons, List.map_nil, hs, hx, hr]
  exact hK _ _ (h o' c' w' h2 h3 h4)
end
theorem is_one (l : List Nat) : ∀ u ∈ is l, u.oneCell' = true := by
  intro u hu; obtain ⟨x, _, rfl⟩ := List.mem_map.1 hu; rfl
theorem bs_one (l : List Nat) : ∀ u ∈ bs l, u.oneCell' = true := by
  intro u hu; obtain ⟨x, _, rfl⟩ := List.mem_map.1 hu; rfl
theorem add0 (g j : Nat) : (⟨g, 0, none⟩ : Addr).add j = ⟨g, j, none⟩ := by unfold Addr.add; split <;> simp_all
theorem addo (g o j : Nat) : (⟨g, o, none⟩ : Addr).add j = ⟨g, o + j, none⟩ := by unfold Addr.add; split <;> simp_all
theorem Blk.cells {w : World} {g : Nat} {t : TypeId} {cs : List Value} (h : Blk w g t cs) : ∀ j u, cs[j]? = some u → w.cell? ((⟨g, 0, none⟩ : Addr).add j) = some u := by
  intro j u hu; rw [add0]; exact h.cell' hu
theorem Blk.cells_pre {w : World} {g : Nat} {t : TypeId} {cs ex : List Value} (h : Blk w g t (cs ++ ex)) : ∀ j u, cs[j]? = some u → w.cell? ((⟨g, 0, none⟩ : Addr).add j) = some u := by
  intro j u hu
  refine h.cells j u ?_
  have hj : j < cs.length := (List.getElem?_eq_some_iff.1 hu).1
  rw [List.getElem?_append_left hj]; exact hu
theorem Blk.cell_pre {w : World} {g : Nat} {t : TypeId} {cs ex : List Value} (h : Blk w g t (cs ++ ex)) {i : Nat} {v : Value} (hv : cs[i]? = some v) : w.cell? ⟨g, i, none⟩ = some v := by
  have := h.cells_pre i v hv; rwa [add0] at this
theorem Blk.set_pre {w : World} {g : Nat} {t : TypeId} {cs ex : List Value} (h : Blk w g t (cs ++ ex)) {i : Nat} (hi : i < cs.length) (v : Value) : Blk (w.setCell ⟨g, i, none⟩ v) g t (cs.set i v ++ ex) := by
  have h2 := h.set i v
  rwa [List.set_append_left _ _ hi] at h2
end Go.Proofs.Ytenngchidlfaeaa
/- Words for the program's disk: its model and its place in memory. -/
namespace Rad
/-- a disk: what is safe, what waits, whether it is off, when it goes off, how often it did -/
structure Dsk where
  safe : List ByteArray
  waits : List (Nat × ByteArray)
  off : Bool
  armed : Nat
  falls : Nat
/-- the power goes off -/
def Dsk.fall (D : Dsk) : Dsk := { D with off := true, armed := 0, falls := if D.off then D.falls else D.falls + 1 }
/-- a call is counted -/
def Dsk.strike (D : Dsk) : Dsk := if D.armed = 0 then D else if D.armed = 1 then ({ D with armed := 0 } : Dsk).fall else { D with armed := D.armed - 1 }
/-- does the power go off at it -/
def Dsk.hit (D : Dsk) : Bool := D.armed == 1
def Dsk.put (D : Dsk) (i : Nat) (s : ByteArray) : Dsk := { D with waits := D.waits ++ [(i, s)] }
/-- writes stored -/
def lay (l : List (Nat × ByteArray)) (safe : List ByteArray) : List ByteArray := l.foldl (fun s p => s.set p.1 p.2) safe
def Dsk.settle (D : Dsk) (l : List (Nat × ByteArray)) : Dsk := { D with safe := lay l D.safe, waits := [] }
theorem lay_length (l : List (Nat × ByteArray)) : ∀ s, (lay l s).length = s.length := by
  induction l with
  | nil => intro s; rfl
  | cons p l ih => intro s; show (lay l (s.set p.1 p.2)).length = _; rw [ih, List.length_set]
theorem lay_snoc (l : List (Nat × ByteArray)) (p : Nat × ByteArray) (s : List ByteArray) : lay (l ++ [p]) s = (lay l s).set p.1 p.2 := by
  unfold lay; rw [List.foldl_append]; rfl
end Rad
namespace Go.Proofs.Ytenngchidlfaeaa
open Go.RowKit
open Rad (Dsk)

/-- writes as cells -/
def wcs (l : List (Nat × ByteArray)) : List Value := l.flatMap fun p => [.int .i64 (p.1 : Int), .string p.2]
/-- strings as cells -/
def ss (l : List ByteArray) : List Value := l.map .string
theorem ss_length (l : List ByteArray) : (ss l).length = l.length := by simp [ss]
theorem ss_get {l : List ByteArray} {i : Nat} {s : ByteArray} (h : l[i]? = some s) : (ss l)[i]? = some (.string s) := by simp [ss, h]
theorem ss_set (l : List ByteArray) (i : Nat) (s : ByteArray) : (ss l).set i (.string s) = ss (l.set i s) := by simp [ss, List.map_set]
theorem wcs_length (l : List (Nat × ByteArray)) : (wcs l).length = l.length * 2 := by
  induction l with
  | nil => rfl
  | cons p l ih => show (_ :: _ :: wcs l).length = _; simp only [List.length_cons, ih]; omega
theorem wcs_append (l m : List (Nat × ByteArray)) : wcs (l ++ m) = wcs l ++ wcs m := by simp [wcs]
theorem wcs_get {l : List (Nat × ByteArray)} : ∀ {i : Nat} {p : Nat × ByteArray}, l[i]? = some p → (wcs l)[i * 2]? = some (.int .i64 (p.1 : Int)) ∧ (wcs l)[i * 2 + 1]? = some (.string p.2) := by
  induction l with
  | nil => intro i p h; simp at h
  | cons q l ih =>
    intro i p h
    match i, h with
    | 0, h =>
      simp only [List.getElem?_cons_zero, Option.some.injEq] at h
      subst h; exact ⟨rfl, rfl⟩
    | i + 1, h =>
      have h' : l[i]? = some p := by simpa using h
      have := ih h'
      rw [show (i + 1) * 2 = i * 2 + 1 + 1 from by omega]
      exact this
theorem wcs_one (l : List (Nat × ByteArray)) : ∀ u ∈ wcs l, u.oneCell' = true := by
  intro u hu
  obtain ⟨p, _, hp⟩ := List.mem_flatMap.1 hu
  simp only [List.mem_cons, List.not_mem_nil, or_false] at hp
  rcases hp with rfl | rfl <;> rfl

/-- the disk's own cells -/
def dcs (gs : Nat) (cs : Nat) (o : Option Addr) (cw : Nat) (D : Dsk) : List Value :=
  [.slice (some ⟨gs, 0, none⟩) D.safe.length cs, .slice o D.waits.length cw, .bool D.off, .int .i64 (D.armed : Int), .int .i64 (D.falls : Int)]
/-- the program's disk, in memory -/
structure DskAt (w : World) (g gs cs : Nat) (o : Option Addr) (cw : Nat) (D : Dsk) : Prop where
  disk : Blk w g 149 (dcs gs cs o cw D)
  safe : Blk w gs 9 (ss D.safe)
  waits : Own w 0 157 2 o D.waits.length cw (wcs D.waits)
  n1 : g ≠ gs
  n2 : ¬ ownOf o g
  n3 : ¬ ownOf o gs
  in1 : ∀ p ∈ D.waits, p.1 < D.safe.length
  in2 : D.safe.length ≤ 4096
  in3 : 1 ≤ D.safe.length
/-- the blocks that a disk lies in -/
def dskOf (g gs : Nat) (o : Option Addr) : Nat → Prop := fun k => k = g ∨ k = gs ∨ ownOf o k
theorem DskAt.onl {S : Nat → Prop} {w w' : World} {g gs cs : Nat} {o : Option Addr} {cw : Nat} {D : Dsk} (h : DskAt w g gs cs o cw D) (ho : Onl S w w') (hs : ∀ k, dskOf g gs o k → ¬ S k) : DskAt w' g gs cs o cw D :=
  ⟨h.disk.onl ho (hs _ (.inl rfl)), h.safe.onl ho (hs _ (.inr (.inl rfl))), h.waits.onl ho (fun k hk => hs k (.inr (.inr hk))), h.n1, h.n2, h.n3, h.in1, h.in2, h.in3⟩
theorem DskAt.drw {w w' : World} {g gs cs : Nat} {o : Option Addr} {cw : Nat} {D : Dsk} (h : DskAt w g gs cs o cw D) (hd : Drw w w') : DskAt w' g gs cs o cw D := by
  obtain ⟨n, rfl⟩ := hd; exact ⟨h.disk, h.safe, h.waits, h.n1, h.n2, h.n3, h.in1, h.in2, h.in3⟩
theorem DskAt.c0 {w : World} {g gs cs : Nat} {o : Option Addr} {cw : Nat} {D : Dsk} (h : DskAt w g gs cs o cw D) : w.cell? ⟨g, 0, none⟩ = some (.slice (some ⟨gs, 0, none⟩) D.safe.length cs) := h.disk.cell' rfl
theorem DskAt.c1 {w : World} {g gs cs : Nat} {o : Option Addr} {cw : Nat} {D : Dsk} (h : DskAt w g gs cs o cw D) : w.cell? ⟨g, 1, none⟩ = some (.slice o D.waits.length cw) := h.disk.cell' rfl
theorem DskAt.c2 {w : World} {g gs cs : Nat} {o : Option Addr} {cw : Nat} {D : Dsk} (h : DskAt w g gs cs o cw D) : w.cell? ⟨g, 2, none⟩ = some (.bool D.off) := h.disk.cell' rfl
theorem DskAt.c3 {w : World} {g gs cs : Nat} {o : Option Addr} {cw : Nat} {D : Dsk} (h : DskAt w g gs cs o cw D) : w.cell? ⟨g, 3, none⟩ = some (.int .i64 (D.armed : Int)) := h.disk.cell' rfl
theorem DskAt.c4 {w : World} {g gs cs : Nat} {o : Option Addr} {cw : Nat} {D : Dsk} (h : DskAt w g gs cs o cw D) : w.cell? ⟨g, 4, none⟩ = some (.int .i64 (D.falls : Int)) := h.disk.cell' rfl
/-- behind a store into the disk's own cells -/
theorem DskAt.put {w : World} {g gs cs : Nat} {o : Option Addr} {cw : Nat} {D : Dsk} (h : DskAt w g gs cs o cw D) (i : Nat) (v : Value) {D' : Dsk} (h0 : D'.safe = D.safe) (h1 : D'.waits = D.waits) (hv : (dcs gs cs o cw D).set i v = dcs gs cs o cw D') : DskAt (w.setCell ⟨g, i, none⟩ v) g gs cs o cw D' := by
  refine ⟨?_, ?_, ?_, h.n1, h.n2, h.n3, ?_, ?_, ?_⟩
  · rw [← hv]; exact h.disk.set i v
  · rw [h0]; exact h.safe.set_ne (fun e => h.n1 e.symm) v
  · rw [h1]; exact h.waits.onl (((Onl.refl (one g) w)).set _ _ (fun _ => rfl)) (fun k hk e => h.n2 (by rw [← show k = g from e]; exact hk))
  · rw [h0, h1]; exact h.in1
  · rw [h0]; exact h.in2
  · rw [h0]; exact h.in3
/-- behind a store into a safe sector -/
theorem DskAt.save {w : World} {g gs cs : Nat} {o : Option Addr} {cw : Nat} {D : Dsk} (h : DskAt w g gs cs o cw D) (i : Nat) (s : ByteArray) : DskAt (w.setCell ⟨gs, i, none⟩ (.string s)) g gs cs o cw { D with safe := D.safe.set i s } := by
  refine ⟨?_, ?_, ?_, h.n1, h.n2, h.n3, ?_, ?_, ?_⟩
  · have h2 := h.disk.set_ne (p := ⟨gs, i, none⟩) h.n1 (.string s)
    unfold dcs at h2 ⊢
    rw [List.length_set]; exact h2
  · rw [← ss_set]; exact h.safe.set i _
  · exact h.waits.onl (((Onl.refl (one gs) w)).set _ _ (fun _ => rfl)) (fun k hk e => h.n3 (by rw [← show k = gs from e]; exact hk))
  · rw [List.length_set]; exact h.in1
  · rw [List.length_set]; exact h.in2
  · rw [List.length_set]; exact h.in3
end Go.Proofs.Ytenngchidlfaeaa
/- Words: clear of a row of writes; a read of a row. -/
namespace Go.Proofs.Ytenngchidlfaeaa
open Go.RowKit
open Rad (Dsk)

theorem Blk.setCells {g : Nat} {t : TypeId} : ∀ (vs : List Value) (o : Nat) {w : World} {cs : List Value}, Blk w g t cs → o + vs.length ≤ cs.length →
    ∃ cs', cs'.length = cs.length ∧ Blk (w.setCells g o vs) g t cs' ∧ Onl (one g) w (w.setCells g o vs)
  | [], _, w, cs, h, _ => ⟨cs, rfl, h, Onl.refl _ _⟩
  | v :: r, o, w, cs, h, hl => by
    obtain ⟨cs', h1, h2, h3⟩ := Blk.setCells r (o + 1) (h.set o v) (by simp at hl ⊢; omega)
    refine ⟨cs', by rw [h1, List.length_set], h2, ?_⟩
    exact ((Onl.refl (one g) w).set ⟨g, o, none⟩ v (fun _ => rfl)).trans h3 (fun _ _ h => h)
theorem info157 : (Try.prog.info? 157).map (fun i => (i.zero, i.size, i.bytes)) = some (some (.agg #[.int .i64 0, .string ⟨#[]⟩]), 2, 24) := by kernel_rfl
theorem zero157 (w : World) : (zeroValue 157).run Try.prog w = .ok (.agg #[.int .i64 0, .string ⟨#[]⟩]) w := by
  obtain ⟨i, hi, hz0, _, _⟩ := info_parts info157
  have hi' := hi
  simp [zeroValue, typeInfo, Sem.run_bind, hi, hz0, go_sem]
theorem run_clear147 (w : World) (ty : TypeId) (o : Option Addr) (n c : Nat) (xs : List Value) (h : Own w 0 157 2 o n c xs) :
    ∃ w' xs', (Builtin.clear_ #[147] ty #[.slice o n c]).run Try.prog w = .ok (.tuple #[]) w' ∧ Own w' 0 157 2 o n c xs' ∧ Onl (ownOf o) w w' := by
  by_cases hn : n = 0
  · subst hn
    refine ⟨w, xs, ?_, h, Onl.refl _ _⟩
    cases o <;> simp [Builtin.clear_, run_underlying Try.underlying147]
  · obtain ⟨g, extra, rfl, _, hb, hnc, hcm, hlen⟩ := h.shape (by omega)
    have hxl := h.length
    have hz : (Builtin.zeroCells (#[.int .i64 0, .string ⟨#[]⟩] : Array Value) n).toList.length = n * 2 := by simp [Builtin.zeroCells]
    have hone : ∀ v ∈ (Builtin.zeroCells (#[.int .i64 0, .string ⟨#[]⟩] : Array Value) n).toList, v.oneCell' = true := by
      intro v hv
      simp only [Builtin.zeroCells, Array.toList_map, List.mem_map] at hv
      obtain ⟨i, _, rfl⟩ := hv
      have : i % 2 = 0 ∨ i % 2 = 1 := by omega
      rcases this with h | h <;> simp [h] <;> rfl
    have hle : 0 + (Builtin.zeroCells (#[.int .i64 0, .string ⟨#[]⟩] : Array Value) n).toList.length ≤ (xs ++ extra).length := by rw [hz, hlen]; omega
    obtain ⟨cs', h1, h2, h3⟩ := Blk.setCells _ 0 hb hle
    have hst := run_storeCells_cells (P := Try.prog) g 0 (Builtin.zeroCells (#[.int .i64 0, .string ⟨#[]⟩] : Array Value) n).toList 0 w
      (fun j hj => by
        simp only [Nat.zero_add]
        rw [hb.cell, List.getElem?_eq_getElem (by omega)]; rfl)
      (fun j hj => hb.free _) hone
    obtain ⟨m, rfl⟩ : ∃ m, n = m + 1 := ⟨n - 1, by omega⟩
    refine ⟨_, cs'.take ((m + 1) * 2), ?_, ?_, h3.mono (fun k hk => by subst hk; rfl)⟩
    · simp only [Nat.add_zero] at hst
      have hzc : (Value.agg #[.int .i64 0, .string ⟨#[]⟩]).cells = (#[.int .i64 0, .string ⟨#[]⟩] : Array Value) := by simp [Value.cells]
      simp [Builtin.clear_, run_underlying Try.underlying147, hzc, hst]
    · refine Own.of_blk (extra := cs'.drop ((m + 1) * 2)) (by rw [List.take_append_drop]; exact h2) (by omega) (by rw [List.length_take, h1, hlen]; omega) (by rw [List.take_append_drop, h1, hlen]) hnc hcm
theorem Own.zero {w : World} {B : Nat} {e : TypeId} {size : Nat} {o : Option Addr} {n c : Nat} {xs : List Value} (h : Own w B e size o n c xs) : Own w B e size o 0 c [] := by
  refine ⟨by simp, ?_⟩
  rcases h.2 with ⟨hv, hn⟩ | ⟨g, cap, cur, hv, hb, hg, h1, h2, h3, h4⟩
  · simp only [Value.slice.injEq] at hv
    obtain ⟨rfl, _, rfl⟩ := hv
    exact .inl ⟨rfl, rfl⟩
  · simp only [Value.slice.injEq] at hv
    obtain ⟨rfl, _, rfl⟩ := hv
    exact .inr ⟨g, _, cur, rfl, hb, hg, by omega, h2, h3, by simp⟩
end Go.Proofs.Ytenngchidlfaeaa
