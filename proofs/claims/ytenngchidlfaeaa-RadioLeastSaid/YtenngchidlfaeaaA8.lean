/- A8: texts C14 T32 P5 P6 T33, joined. -/
import Derived.Test.YtenngchidlfaeaaA6
import Derived.Test.YtenngchidlfaeaaA7
import Derived.Test.YtenngchidlfaeaaA3
import Derived.Test.YtenngchidlfaeaaA5
import Derived.Maps.OwnSet
import Derived.WideKeyPair
/- Words for maps: what a map of our own holds, key by key. -/
namespace Go.Proofs.Ytenngchidlfaeaa
open Go.RowKit
open Go.Maps (Keyed)

/-- an element is read as itself -/
def RV (v : Value) : Option (DataW Value × List MemPlace) := some (.held v, [])
/-- block b is a map of at most n entries that holds just f -/
def MapE (w : World) (K : TypeId) (b n : Nat) (f : Lit → Option Value) : Prop :=
  ∃ D : DataW Value, w.ownsMap Try.prog K RV b n D ∧ ∀ kl, (f kl = none → Maps.has D kl = false) ∧ ∀ v, f kl = some v → Maps.has D kl = true ∧ ∀ z, D.atKey kl z = .held v
theorem MapE.made (w : World) (K : TypeId) : MapE (w.alloc (.map #[] 0)) K w.heap.size 0 (fun _ => none) :=
  ⟨.map [], World.ownsMap_made _ _ _ _, fun _ => ⟨fun _ => rfl, fun _ h => by cases h⟩⟩
theorem MapE.lt {w : World} {K : TypeId} {b n : Nat} {f : Lit → Option Value} (h : MapE w K b n f) : b < w.heap.size := by
  obtain ⟨D, h, _⟩ := h; exact h.lt
theorem MapE.onl {S : Nat → Prop} {w w' : World} {K : TypeId} {b n : Nat} {f : Lit → Option Value} (h : MapE w K b n f) (ho : Onl S w w') (hs : ¬ S b) : MapE w' K b n f := by
  have hl := h.lt
  obtain ⟨D, ⟨es, clock, hb, r⟩, h2⟩ := h
  exact ⟨D, ⟨es, clock, (ho.block b hl hs).trans hb, r⟩, h2⟩
theorem MapE.mono {w : World} {K : TypeId} {b n n' : Nat} {f : Lit → Option Value} (h : MapE w K b n f) (hn : n ≤ n') : MapE w K b n' f := by
  obtain ⟨D, h, h2⟩ := h; exact ⟨D, h.mono hn, h2⟩
theorem MapE.ne_blk {w : World} {K : TypeId} {b n g : Nat} {t : TypeId} {cs : List Value} {f : Lit → Option Value} (h : MapE w K b n f) (hb : Blk w g t cs) : b ≠ g := by
  rintro rfl
  obtain ⟨D, ⟨es, clock, h, _⟩, _⟩ := h
  unfold Blk at hb
  rw [hb] at h; cases h
theorem MapE.congr {w : World} {K : TypeId} {b n : Nat} {f g : Lit → Option Value} (h : MapE w K b n f) (hf : ∀ kl, f kl = g kl) : MapE w K b n g := by
  have e : f = g := funext hf
  rw [← e]; exact h
theorem MapE.look {w : World} {t K e : TypeId} {b n : Nat} {f : Lit → Option Value} (h : MapE w K b n f) (Ky : Keyed Try.prog K) (ht : Try.prog.underlying t = some (.map K e)) {z : Value} (hz : (zeroValue e).run Try.prog w = .ok z w) {key : Value} {kl : Lit} (hkey : keyOf Try.prog K key = some kl) :
    (Instr.lookup t (.map (some b)) key true).run Try.prog w = .ok (.tuple #[(f kl).getD z, .bool (f kl).isSome]) w := by
  obtain ⟨D, hD, hf⟩ := h
  obtain ⟨v, ps, hr, hv⟩ := hD.look_ok Ky ht hz (zd := .held z) (zp := []) rfl hkey
  rw [hr]
  unfold RV at hv
  simp only [Option.some.injEq, Prod.mk.injEq] at hv
  cases hfk : f kl with
  | none =>
    have h1 := (hf kl).1 hfk
    rw [Maps.atKey_of_not_has h1] at hv
    have : v = z := by injection hv.1
    rw [h1, this]; rfl
  | some u =>
    have h1 := (hf kl).2 u hfk
    rw [h1.2] at hv
    have : v = u := by injection hv.1
    rw [h1.1, this]; rfl
theorem MapE.look1 {w : World} {t K e : TypeId} {b n : Nat} {f : Lit → Option Value} (h : MapE w K b n f) (Ky : Keyed Try.prog K) (ht : Try.prog.underlying t = some (.map K e)) {z : Value} (hz : (zeroValue e).run Try.prog w = .ok z w) {key : Value} {kl : Lit} (hkey : keyOf Try.prog K key = some kl) :
    (Instr.lookup t (.map (some b)) key false).run Try.prog w = .ok ((f kl).getD z) w := by
  obtain ⟨D, hD, hf⟩ := h
  obtain ⟨v, ps, hr, hv⟩ := hD.lookup Ky ht hz (zd := .held z) (zp := []) rfl hkey
  rw [hr]
  unfold RV at hv
  simp only [Option.some.injEq, Prod.mk.injEq] at hv
  cases hfk : f kl with
  | none =>
    have h1 := (hf kl).1 hfk
    rw [Maps.atKey_of_not_has h1] at hv
    have : v = z := by injection hv.1
    rw [this]; rfl
  | some u =>
    have h1 := (hf kl).2 u hfk
    rw [h1.2] at hv
    have : v = u := by injection hv.1
    rw [this]; rfl
open Classical in
theorem MapE.store {w : World} {t K e : TypeId} {b n : Nat} {f : Lit → Option Value} (h : MapE w K b n f) (Ky : Keyed Try.prog K) (ht : Try.prog.underlying t = some (.map K e)) (hn : n < maxLen) {key val : Value} {kl : Lit} (hkey : keyOf Try.prog K key = some kl) :
    ∃ w', (Instr.mapUpdate t (.map (some b)) key val).run Try.prog w = .ok () w' ∧ MapE w' K b (n + 1) (fun l => if l = kl then some val else f l) ∧ Onl (one b) w w' := by
  obtain ⟨D, hD, hf⟩ := h
  obtain ⟨w', hr, h1, h2⟩ := hD.update Ky ht hn hkey (val := val) (d := .held val) (ps := []) rfl
  have hm := hD.isMap
  have hkl := Ky.key hkey
  refine ⟨w', hr, ⟨_, h1, fun l => ?_⟩, (Onl.refl _ _).grown h2 (fun k hk _ => by simpa [one] using hk.symm)⟩
  by_cases hl : l = kl
  · subst hl
    dsimp only
    refine ⟨fun h => (by rw [if_pos rfl] at h; cases h), fun v hv => ?_⟩
    have hv : val = v := by rw [if_pos rfl] at hv; exact Option.some.inj hv
    subst hv
    exact ⟨Maps.has_put_same hm hkl _, fun z => Maps.atKey_put_same hm hkl _ z⟩
  · dsimp only
    refine ⟨fun h => ?_, fun v hv => ?_⟩
    · rw [if_neg hl] at h
      rw [Maps.has_put_other hl]; exact (hf l).1 h
    · rw [if_neg hl] at hv
      have := (hf l).2 v hv
      rw [Maps.has_put_other hl]
      exact ⟨this.1, fun z => by rw [Maps.atKey_put_other hl]; exact this.2 z⟩

/-- a lookup by its run, in the walk -/
theorem wpList_lookR {P : Program} {w : World} {ops : Array Oper} {rest : List Oper} {o : Oper} {a : Act} {Q : Exit → Act → World → Prop} (hg : o.guard = none) (m x : Operand) (t : TypeId) (c : Bool) (hop : o.op = Op.lookup t m x c) (mv kv v : Value) (hm : a.eval m = mv) (hx : a.eval x = kv)
    (hr : (Instr.lookup t mv kv c).run P w = .ok v w) (hK : wpList P ops Q rest (a.put o.dst v) w) : wpList P ops Q (o :: rest) a w := by
  refine wpList_plain hg fun K' hK' => ?_
  unfold Oper.wp
  simp [execOp, hop, hm, hx, hr, Result.andThen]
  exact hK' _ _ hK
/-- a store into a map by its run, in the walk -/
theorem wpList_putR {P : Program} {w w' : World} {ops : Array Oper} {rest : List Oper} {o : Oper} {a : Act} {Q : Exit → Act → World → Prop} (hg : o.guard = none) (m x v : Operand) (t : TypeId) (hop : o.op = Op.mapUpdate t m x v) (mv kv vv : Value) (hm : a.eval m = mv) (hx : a.eval x = kv) (hv : a.eval v = vv)
    (hr : (Instr.mapUpdate t mv kv vv).run P w = .ok () w') (hK : wpList P ops Q rest (a.put o.dst undef) w') : wpList P ops Q (o :: rest) a w := by
  refine wpList_plain hg fun K' hK' => ?_
  unfold Oper.wp
  simp [execOp, hop, hm, hx, hv, hr, Result.andThen]
  exact hK' _ _ hK

/-! ### keys of two numbers -/
theorem A162 : WideMaps.ArrKey Try.prog 162 3 2 := ⟨Try.underlying162, by kernel_rfl, by kernel_rfl, by kernel_rfl⟩
theorem K162 : Keyed Try.prog 162 := Keyed.of_law A162.law
theorem typesS : ∃ m, Try.prog.types.size = m + 1 := ⟨Try.prog.types.size - 1, by kernel_rfl⟩
def k2 (a b : Int) : Lit := .string (keyBytes [.int .i64 a, .int .i64 b])
/-- a number of 64 bits -/
def I64 (a : Int) : Prop := -9223372036854775808 ≤ a ∧ a ≤ 9223372036854775807
theorem wfI {a : Int} (h : I64 a) : (Lit.int .i64 a).wf = true := by
  unfold I64 at h
  simp only [Lit.wf, Bool.and_eq_true, decide_eq_true_eq]
  exact ⟨h.1, h.2⟩
theorem keyOf2 {a b : Int} (ha : I64 a) (hb : I64 b) : keyOf Try.prog 162 (.agg #[.int .i64 a, .int .i64 b]) = some (k2 a b) := WideMaps.keyOf_pair A162 Try.underlying3 typesS (wfI ha) (wfI hb)
theorem k2_inj {a b c d : Int} (ha : I64 a) (hb : I64 b) (hc : I64 c) (hd : I64 d) (h : k2 a b = k2 c d) : a = c ∧ b = d := by
  have h1 := keyOf2 ha hb
  rw [h] at h1
  have := K162.inj h1 (keyOf2 hc hd)
  simpa using this
end Go.Proofs.Ytenngchidlfaeaa
/- The book: Take, walked. -/
namespace Go.Proofs.Ytenngchidlfaeaa
open Go.RowKit
open Rad (Dsk)

/-- the least body at a key of two numbers -/
def betterI (x : Option ByteArray) (a c : Int) (e : Ent) : Option ByteArray :=
  if e.ok && decide (e.o = a) && decide (e.n = c) then (match x with | none => some e.b | some b => if blt e.b b then some e.b else some b) else x
def bestI (l : List Ent) (a c : Int) : Option ByteArray := l.foldl (fun x e => betterI x a c e) none
theorem bestI_nat (l : List Ent) (p n : Nat) : bestI l (p : Int) (n : Int) = bestOf l p n := rfl
theorem bestI_snoc (l : List Ent) (e : Ent) (a c : Int) : bestI (l ++ [e]) a c = betterI (bestI l a c) a c e := by unfold bestI; rw [List.foldl_append]; rfl
theorem bestI_no {l : List Ent} {e : Ent} (h : e.ok = false) (a c : Int) : bestI (l ++ [e]) a c = bestI l a c := by
  rw [bestI_snoc]; unfold betterI; simp [h]
theorem bestI_keep {l : List Ent} {e : Ent} {b : ByteArray} (h : bestI l e.o e.n = some b) (hb : blt e.b b = false) (a c : Int) : bestI (l ++ [e]) a c = bestI l a c := by
  rw [bestI_snoc]; unfold betterI
  split
  · rename_i hc
    simp only [Bool.and_eq_true, decide_eq_true_eq] at hc
    obtain ⟨⟨_, rfl⟩, rfl⟩ := hc
    rw [h]; simp [hb]
  · rfl
theorem bestI_put {l : List Ent} {e : Ent} (hok : e.ok = true) (h : ∀ b, bestI l e.o e.n = some b → blt e.b b = true) (a c : Int) : bestI (l ++ [e]) a c = if a = e.o ∧ c = e.n then some e.b else bestI l a c := by
  rw [bestI_snoc]; unfold betterI
  by_cases hc : a = e.o ∧ c = e.n
  · obtain ⟨h1, h2⟩ := hc
    subst h1; subst h2
    rw [if_pos (And.intro rfl rfl)]
    simp only [hok, decide_true, Bool.and_self, if_true]
    cases hb : bestI l e.o e.n with
    | none => rfl
    | some b => simp [h b hb]
  · rw [if_neg hc, if_neg]
    intro h2
    simp only [Bool.and_eq_true, decide_eq_true_eq] at h2
    exact hc ⟨h2.1.2.symm, h2.2.symm⟩
/-- a map that holds the least bodies of a list -/
def MapB (w : World) (b n : Nat) (l : List Ent) : Prop := ∃ f, MapE w 162 b n f ∧ ∀ a c, I64 a → I64 c → f (k2 a c) = (bestI l a c).map (fun s => entV a c s)
theorem MapB.onl {S : Nat → Prop} {w w' : World} {b n : Nat} {l : List Ent} (h : MapB w b n l) (ho : Onl S w w') (hs : ¬ S b) : MapB w' b n l := by
  obtain ⟨f, h1, h2⟩ := h; exact ⟨f, h1.onl ho hs, h2⟩
theorem MapB.same {w : World} {b n : Nat} {l m : List Ent} (h : MapB w b n l) (hm : ∀ a c, bestI m a c = bestI l a c) : MapB w b (n + 1) m := by
  obtain ⟨f, h1, h2⟩ := h; exact ⟨f, h1.mono (Nat.le_succ _), fun a c ha hc => by rw [hm]; exact h2 a c ha hc⟩
theorem MapB.ne_blk {w : World} {b n g : Nat} {t : TypeId} {cs : List Value} {l : List Ent} (h : MapB w b n l) (hb : Blk w g t cs) : b ≠ g := by
  obtain ⟨f, h1, _⟩ := h; exact h1.ne_blk hb
theorem zero42 (w : World) : (zeroValue 42).run Try.prog w = .ok (.agg #[.int .i64 0, .int .i64 0, .string ⟨#[]⟩]) w := by
  obtain ⟨i, hi, hz0, _, _⟩ := info_parts info42
  have hi' := hi
  simp [zeroValue, typeInfo, Sem.run_bind, hi, hz0, go_sem]
def oldV (x : Option ByteArray) (a c : Int) : Value := match x with | none => .agg #[.int .i64 0, .int .i64 0, .string ⟨#[]⟩] | some s => entV a c s
theorem MapB.look {w : World} {b n : Nat} {l : List Ent} (h : MapB w b n l) {a c : Int} (ha : I64 a) (hc : I64 c) :
    (Instr.lookup 161 (.map (some b)) (.agg #[.int .i64 a, .int .i64 c]) true).run Try.prog w = .ok (.tuple #[oldV (bestI l a c) a c, .bool (bestI l a c).isSome]) w := by
  obtain ⟨f, h1, h2⟩ := h
  have := h1.look K162 Try.underlying161 (zero42 w) (keyOf2 ha hc)
  rw [this, h2 a c ha hc]
  cases bestI l a c <;> rfl
theorem MapB.store {w : World} {b n : Nat} {l : List Ent} (h : MapB w b n l) {e : Ent} (ha : I64 e.o) (hc : I64 e.n) (hn : n < maxLen) (hok : e.ok = true) (hl : ∀ b, bestI l e.o e.n = some b → blt e.b b = true) :
    ∃ w', (Instr.mapUpdate 161 (.map (some b)) (.agg #[.int .i64 e.o, .int .i64 e.n]) (.agg #[.int .i64 e.o, .int .i64 e.n, .string e.b])).run Try.prog w = .ok () w' ∧ MapB w' b (n + 1) (l ++ [e]) ∧ Onl (one b) w w' := by
  obtain ⟨f, h1, h2⟩ := h
  obtain ⟨w', hr, h3, h4⟩ := h1.store K162 Try.underlying161 hn (keyOf2 ha hc) (val := .agg #[.int .i64 e.o, .int .i64 e.n, .string e.b])
  refine ⟨w', hr, ⟨_, h3, fun a c ha' hc' => ?_⟩, h4⟩
  rw [bestI_put hok hl]
  by_cases hk : a = e.o ∧ c = e.n
  · obtain ⟨rfl, rfl⟩ := hk
    rw [if_pos rfl, if_pos ⟨rfl, rfl⟩]; rfl
  · rw [if_neg (fun e' => hk (k2_inj ha' hc' ha hc e')), if_neg hk]
    exact h2 a c ha' hc'
/-- the cells of a list of messages lie behind an address -/
def RdE (w : World) (ao : Option Addr) (L : List Ent) : Prop := ∀ k e, L[k]? = some e → ∃ g off, ao = some ⟨g, off, none⟩ ∧ w.cell? ⟨g, off + k * 3, none⟩ = some (.int .i64 e.o) ∧ w.cell? ⟨g, off + k * 3 + 1, none⟩ = some (.int .i64 e.n) ∧ w.cell? ⟨g, off + k * 3 + 2, none⟩ = some (.string e.b)
theorem RdE.onl {w w' : World} {ao : Option Addr} {L : List Ent} (h : RdE w ao L) (ho : Onl non w w') : RdE w' ao L := fun k e he => by
  obtain ⟨g, off, h1, h2, h3, h4⟩ := h k e he
  exact ⟨g, off, h1, ho.cell h2 (fun h => h), ho.cell h3 (fun h => h), ho.cell h4 (fun h => h)⟩
/-- a message whose numbers are numbers of 64 bits -/
def Ent.fit (e : Ent) : Prop := I64 e.o ∧ I64 e.n ∧ e.b.size ≤ 9223372036854775807
/-- the places from one on -/
def restO (m p : Nat) : List (Nat × Nat) := (List.range' p (m - p)).flatMap fun q => (List.range 65).map fun n => (q, n)
def restI (m p n : Nat) : List (Nat × Nat) := (List.range' n (65 - n)).map (fun k => (p, k)) ++ restO m (p + 1)
theorem restO_zero (m : Nat) : places m = restO m 0 := by unfold places restO; rw [List.range_eq_range' (n := m), Nat.sub_zero]
theorem restO_end (m : Nat) : restO m m = [] := by unfold restO; rw [Nat.sub_self]; rfl
theorem restO_in {m p : Nat} (h : p < m) : restO m p = restI m p 0 := by
  unfold restI restO
  rw [show m - p = (m - (p + 1)) + 1 from by omega, List.range'_succ, List.flatMap_cons, List.range_eq_range']
theorem restI_step {m p n : Nat} (h : n < 65) : restI m p n = (p, n) :: restI m p (n + 1) := by
  unfold restI
  rw [show 65 - n = (65 - (n + 1)) + 1 from by omega, List.range'_succ]
  rfl
theorem takes_none {L : List Ent} {D : Dsk} {B : Bk} {c : Int} {p n : Nat} {r : List (Nat × Nat)} (h : bestOf L p n = none) : takes L D B c ((p, n) :: r) = takes L D B c r := by
  rw [takes]; simp only [h]
theorem takes_old {L : List Ent} {D : Dsk} {B : Bk} {c : Int} {p n : Nat} {r : List (Nat × Nat)} {b : ByteArray} (h : bestOf L p n = some b) (hf : B.fresh p n b = false) : takes L D B c ((p, n) :: r) = takes L D B c r := by
  rw [takes]; simp only [h, hf]; rfl
theorem takes_put {L : List Ent} {D : Dsk} {B : Bk} {c : Int} {p n : Nat} {r : List (Nat × Nat)} {b : ByteArray} (h : bestOf L p n = some b) (hf : B.fresh p n b = true) (he : putE D B p n b = 0) :
    takes L D B c ((p, n) :: r) = takes L (putD D B p n b) (putB D B p n b) (c + 1) r := by
  rw [takes]; simp only [h, hf, he, if_true]
theorem takes_fail {L : List Ent} {D : Dsk} {B : Bk} {c : Int} {p n : Nat} {r : List (Nat × Nat)} {b : ByteArray} (h : bestOf L p n = some b) (hf : B.fresh p n b = true) (he : putE D B p n b ≠ 0) :
    takes L D B c ((p, n) :: r) = ⟨putD D B p n b, B, 0, putE D B p n b⟩ := by
  rw [takes]; simp only [h, hf, if_true, if_neg he]
theorem takes_over {L : List Ent} {D : Dsk} {B : Bk} {c : Int} {p : Nat} {r : List (Nat × Nat)} : ∀ ks : List Nat, (∀ k ∈ ks, (B.log p).length < k) → takes L D B c (ks.map (fun k => (p, k)) ++ r) = takes L D B c r
  | [], _ => rfl
  | k :: ks, h => by
    have hk := h k (by simp)
    have ih := takes_over (L := L) (D := D) (c := c) (r := r) ks (fun j hj => h j (by simp [hj]))
    show takes L D B c ((p, k) :: (ks.map (fun k => (p, k)) ++ r)) = _
    cases hb : bestOf L p k with
    | none => rw [takes_none hb]; exact ih
    | some b =>
      rw [takes_old hb, ih]
      unfold Bk.fresh
      rw [decide_eq_false (show ¬ k = (B.log p).length by omega), decide_eq_false (show ¬ k < (B.log p).length by omega)]
      simp
theorem takes_past {L : List Ent} {D : Dsk} {B : Bk} {c : Int} {m p n : Nat} (h : (B.log p).length < n) : takes L D B c (restI m p n) = takes L D B c (restO m (p + 1)) :=
  takes_over _ (fun k hk => by have := (List.mem_range'_1.1 hk).1; omega)
theorem putB_len (D : Dsk) (B : Bk) (p n : Nat) (b : ByteArray) : (putB D B p n b).logs.length = B.logs.length := by
  unfold putB; split
  · show (B.logs.set _ _).length = _; rw [List.length_set]
  · rfl
theorem Fits.put {D : Dsk} {N : Nat} (h : Fits D N) {B : Bk} {p n : Nat} {b : ByteArray} (hb : b.size ≤ 1024) : Fits (putD D B p n b) (N + 21) :=
  (h.keep B.pos (epay p n b)).mono (by have := (epay_sectors (p := p) (n := n) hb).1; omega)
theorem bestOf_ok {L : List Ent} {p n : Nat} {b : ByteArray} (h : bestOf L p n = some b) : OkE (p : Int) (n : Int) b.size := by
  have := bestOf_small h; unfold OkE; omega
theorem Mach.ne_map {w : World} {F : Nat → Prop} {g gd : Nat} {D : Dsk} {B : Bk} (h : Mach w F g gd D B) {b n : Nat} {l : List Ent} (hm : MapB w b n l) : ¬ F b := by
  obtain ⟨gl, c, rows, gs, cs, o, cw, h1, h2, h3⟩ := h
  intro hk
  rcases (h3 b).1 hk with hk | hk
  · obtain ⟨t, cs', hb, _⟩ := h1.typ hk; exact hm.ne_blk hb rfl
  · obtain ⟨t, cs', hb, _⟩ := h2.typ hk; exact hm.ne_blk hb rfl
def TakePost (F : Nat → Prop) (g gd : Nat) (D : Dsk) (B : Bk) (L : List Ent) (w : World) (e : Ending) (w' : World) : Prop :=
  e = .returned (.tuple #[.int .i64 (takeOf L D B).n, .int .i64 (takeOf L D B).e]) ∧ Went w F g gd w' (takeOf L D B).D (takeOf L D B).B
set_option maxRecDepth 100000 in
set_option maxHeartbeats 2000000 in
theorem Take68 (F : Nat → Prop) (g gd : Nat) (D : Dsk) (B : Bk) (L : List Ent) (ao : Option Addr) (nl cl : Nat) (N : Nat) (w : World) (h : Mach w F g gd D B) (hf : Fits D N) (hN : N ≤ 30000000) (hnl : nl = L.length) (hnl2 : nl ≤ 1000000) (hL : RdE w ao L) (hfit : ∀ e ∈ L, e.fit) :
    Calls Try.prog 68 #[.pointer (some ⟨g, 0, none⟩), .slice ao nl cl] w fun e w' => TakePost F g gd D B L w e w' := by
  have HM := Lib.hid h
  have HFi := Lib.hid hf
  have HL := Lib.hid hL
  have HFit := Lib.hid hfit
  have HNl := Lib.hid hnl
  have HDown : Hid (Calls Try.prog 117 #[.pointer (some ⟨g, 0, none⟩)] w fun e w' => e = .returned (.bool (decide (B.falls ≠ D.falls))) ∧ Drw w w') := Lib.hid (by
    obtain ⟨gl, c, rows, gs, cs, ow, cw, hd, hb, hF⟩ := h
    exact down117 g gl c gd gs cs rows ow cw D B w hb hd)
  clear hf h hL hfit hnl
  by_cases hfl : B.falls = D.falls
  rotate_left
  · have hdn : decide (B.falls ≠ D.falls) = true := decide_eq_true hfl
    have HFl := Lib.hid hfl
    rw [hdn] at HDown
    clear hfl hdn
    go_enter Try.func68, Try.ntmps68
    go_wp2_with fail
    refine HDown.out.mono ?_
    rintro e w2 ⟨rfl, hd2⟩
    have HD2 := Lib.hid hd2
    clear hd2
    go_wp2
    go_ret2
    have e1 : takeOf L D B = ⟨D, B, 0, 93⟩ := by unfold takeOf; rw [if_pos HFl.out]
    exact ⟨by rw [e1]; rfl, by rw [e1]; exact Went.of HM.out ((Onl.refl _ _).of_drw HD2.out)⟩
  · have hdn : decide (B.falls ≠ D.falls) = false := by simp [hfl]
    have HFl := Lib.hid hfl
    rw [hdn] at HDown
    clear hfl hdn
    have hmm := @run_makeMap Try.prog
    go_enter Try.func68, Try.ntmps68
    go_wp2_with fail
    refine HDown.out.mono ?_
    rintro e w2 ⟨rfl, hd2⟩
    have HO2 : Hid (Onl non w w2) := Lib.hid ((Onl.refl _ _).of_drw hd2)
    clear hd2
    go_wp2
    obtain ⟨w3, hw3⟩ : ∃ w3, w3 = w2.alloc (.map #[] 0) := ⟨_, rfl⟩
    rw [← hw3]
    have HMB : Hid (MapB w3 w2.heap.size 0 (L.take 0)) := Lib.hid (by rw [hw3]; exact ⟨_, MapE.made w2 162, fun _ _ _ _ => rfl⟩)
    have HO3 : Hid (Onl non w w3) := Lib.hid (by rw [hw3]; exact HO2.out.alloc _)
    clear hw3 hmm
    obtain ⟨mb, hmb⟩ : ∃ mb, mb = w2.heap.size := ⟨_, rfl⟩
    rw [← hmb] at HMB ⊢
    have HMb : Hid (w.heap.size ≤ mb) := Lib.hid (by have := HO2.out.size; omega)
    clear hmb
    go_loopw [23] (fun v wr => ∃ k : Nat, k ≤ nl ∧ v = .int .i64 k ∧ Hid (MapB wr mb k (L.take k)) ∧ Hid (Onl non w wr)) (fun v _ => nl - (intOf v).toNat)
    case atStart => exact ⟨0, by omega, rfl, HMB, HO3⟩
    case round =>
      clear HMB HO3
      obtain ⟨wo, rfl⟩ : ∃ wo : World, wo = wr := ⟨_, rfl⟩
      obtain ⟨k, hk, rfl, HMB, HO⟩ := hrel
      by_cases hlt : k < nl
      · obtain ⟨e, he⟩ : ∃ e, L[k]? = some e := ⟨_, List.getElem?_eq_getElem (by have := HNl.out; omega)⟩
        have hef := HFit.out e (List.mem_of_getElem? he)
        obtain ⟨gx, off, rfl, hx0, hx1, hx2⟩ := (HL.out.onl HO.out) k e he
        have HTk : Hid (L.take (k + 1) = L.take k ++ [e]) := Lib.hid (by
          have hkl : k < L.length := (List.getElem?_eq_some_iff.1 he).1
          rw [List.take_succ_eq_append_getElem hkl]
          rw [List.getElem?_eq_getElem hkl] at he
          rw [Option.some.inj he])
        obtain ⟨a, c, s⟩ := e
        obtain ⟨ha, hc, hs⟩ := hef
        have HA := Lib.hid ha
        have HC := Lib.hid hc
        dsimp only at hx0 hx1 hx2 hs
        have i0 : (0 : Int) ≤ (k : Int) := by omega
        have i1 : (k : Int) < (nl : Int) := by omega
        clear he ha hc
        obtain ⟨va, vc, vs, is, hlook, his⟩ : ∃ (va vc : Int) (vs : ByteArray) (is : Bool), (∀ wx, Onl non wo wx → (Instr.lookup 161 (.map (some mb)) (.agg #[.int .i64 a, .int .i64 c]) true).run Try.prog wx = .ok (.tuple #[.agg #[.int .i64 va, .int .i64 vc, .string vs], .bool is]) wx) ∧
            (if is then bestI (L.take k) a c = some vs else bestI (L.take k) a c = none) := by
          cases hbest : bestI (L.take k) a c with
          | none =>
            refine ⟨0, 0, ⟨#[]⟩, false, fun wx hx => ?_, rfl⟩
            have h := (HMB.out.onl hx (fun h => h)).look HA.out HC.out
            rw [hbest] at h; exact h
          | some b0 =>
            refine ⟨a, c, b0, true, fun wx hx => ?_, rfl⟩
            have h := (HMB.out.onl hx (fun h => h)).look HA.out HC.out
            rw [hbest] at h; exact h
        have HLook := Lib.hid hlook
        have HIs := Lib.hid his
        clear hlook his
        go_wp2_with (at_lookup; refine wpList_lookR rfl _ _ _ _ rfl _ _ _ rfl rfl (HLook.out _ (((Onl.refl _ _).alloc _).alloc _)) ?_)
        obtain ⟨w4, hw4⟩ : ∃ w4, w4 = ((wo.alloc (.cells #[.int .i64 a, .int .i64 c, .string s] 42)).alloc (.cells #[.int .i64 a, .int .i64 c] 162)).alloc (.cells #[.int .i64 va, .int .i64 vc, .string vs] 42) := ⟨_, rfl⟩
        rw [← hw4]
        have HO4 : Hid (Onl non wo w4) := Lib.hid (by rw [hw4]; exact (((Onl.refl _ _).alloc _).alloc _).alloc _)
        have HE4 : Hid (Blk w4 wo.heap.size 42 [.int .i64 a, .int .i64 c, .string s]) := Lib.hid (by rw [hw4]; exact ((Blk.new wo 42 _).alloc _).alloc _)
        have HK4 : Hid (Blk w4 (wo.heap.size + 1) 162 [.int .i64 a, .int .i64 c]) := Lib.hid (by rw [hw4]; exact (Blk.newB wo _ 162 _).alloc _)
        have HV4 : Hid (Blk w4 (wo.heap.size + 1 + 1) 42 [.int .i64 va, .int .i64 vc, .string vs]) := Lib.hid (by
          rw [hw4]
          have h := Blk.new ((wo.alloc (.cells #[.int .i64 a, .int .i64 c, .string s] 42)).alloc (.cells #[.int .i64 a, .int .i64 c] 162)) 42 [.int .i64 va, .int .i64 vc, .string vs]
          rwa [World.size_alloc, World.size_alloc] at h)
        clear hw4 hx0 hx1 hx2
        by_cases hk2 : OkE a c s.size
        rotate_left
        · have hno : (Ent.mk a c s).ok = false := decide_eq_false hk2
          have HNo := Lib.hid hno
          have HNk := Lib.hid hk2
          clear hno hk2
          refine (CheckEntry_no a c s w4 hs HNk.out).mono ?_
          rintro e' w5 ⟨rfl, hO5⟩
          have HO5 := Lib.hid (HO4.out.trans hO5 (fun _ _ h => h))
          clear hO5
          go_wp2
          go_roundw
          case rel =>
            refine ⟨k + 1, by omega, by go_num, Lib.hid ?_, Lib.hid (HO.out.trans HO5.out (fun _ _ h => h))⟩
            rw [HTk.out]
            exact (HMB.out.onl HO5.out (fun h => h)).same (bestI_no HNo.out)
          case measure => simp [intOf]; omega
        · have hyes : (Ent.mk a c s).ok = true := decide_eq_true hk2
          have HYes := Lib.hid hyes
          have HYk := Lib.hid hk2
          clear hyes hk2
          refine (CheckEntry_ok a c s w4 HYk.out).mono ?_
          rintro e' w5 ⟨rfl, hO5⟩
          have HO5 := Lib.hid (HO4.out.trans hO5 (fun _ _ h => h))
          have HE5 := Lib.hid (HE4.out.onl hO5 (fun h => h))
          have HK5 := Lib.hid (HK4.out.onl hO5 (fun h => h))
          have HV5 := Lib.hid (HV4.out.onl hO5 (fun h => h))
          clear hO5 HE4 HK4 HV4
          have k0 : w5.cell? ⟨wo.heap.size, 0, none⟩ = some (.int .i64 a) := HE5.out.cell' rfl
          have k1 : w5.cell? ⟨wo.heap.size, 1, none⟩ = some (.int .i64 c) := HE5.out.cell' rfl
          have k2 : w5.cell? ⟨wo.heap.size, 2, none⟩ = some (.string s) := HE5.out.cell' rfl
          have k3 : w5.cell? ⟨wo.heap.size + 1, 0, none⟩ = some (.int .i64 a) := HK5.out.cell' rfl
          have k4 : w5.cell? ⟨wo.heap.size + 1, 1, none⟩ = some (.int .i64 c) := HK5.out.cell' rfl
          have k5 : w5.cell? ⟨wo.heap.size + 1 + 1, 2, none⟩ = some (.string vs) := HV5.out.cell' rfl
          have HMB5 := Lib.hid (HMB.out.onl HO5.out (fun h => h))
          have HPut : Hid ((∀ b, bestI (L.take k) a c = some b → blt s b = true) → ∃ w', (Instr.mapUpdate 161 (.map (some mb)) (.agg #[.int .i64 a, .int .i64 c]) (.agg #[.int .i64 a, .int .i64 c, .string s])).run Try.prog w5 = .ok () w' ∧ MapB w' mb (k + 1) (L.take (k + 1)) ∧ Onl (one mb) w5 w') := Lib.hid (fun hl => by
            rw [HTk.out]
            exact HMB5.out.store (e := ⟨a, c, s⟩) HA.out HC.out (by unfold maxLen; omega) HYes.out hl)
          cases is with
          | false =>
            have hnone : bestI (L.take k) a c = none := HIs.out
            obtain ⟨w6, hr6, hm6, ho6⟩ := HPut.out (fun b hb => by rw [hnone] at hb; cases hb)
            have HR6 := Lib.hid hr6
            have HM6 := Lib.hid hm6
            have HO6 := Lib.hid ho6
            clear hnone hr6 hm6 ho6
            go_wp2_with (at_mapUpdate; refine wpList_putR rfl _ _ _ _ rfl _ _ _ rfl rfl rfl HR6.out ?_)
            go_roundw
            case rel =>
              exact ⟨k + 1, by omega, by go_num, HM6, Lib.hid ((HO.out.trans HO5.out (fun _ _ h => h)).trans HO6.out (fun i hi h => by have h' : i = mb := h; have := HMb.out; omega))⟩
            case measure => simp [intOf]; omega
          | true =>
            cases hbl : Op.bytesLess s.toList vs.toList with
            | true =>
              have hsome : bestI (L.take k) a c = some vs := HIs.out
              obtain ⟨w6, hr6, hm6, ho6⟩ := HPut.out (fun b hb => by rw [hsome] at hb; rw [← Option.some.inj hb]; exact hbl)
              have HR6 := Lib.hid hr6
              have HM6 := Lib.hid hm6
              have HO6 := Lib.hid ho6
              clear hsome hr6 hm6 ho6
              go_wp2_with (at_mapUpdate; refine wpList_putR rfl _ _ _ _ rfl _ _ _ rfl rfl rfl HR6.out ?_)
              go_roundw
              case rel =>
                exact ⟨k + 1, by omega, by go_num, HM6, Lib.hid ((HO.out.trans HO5.out (fun _ _ h => h)).trans HO6.out (fun i hi h => by have h' : i = mb := h; have := HMb.out; omega))⟩
              case measure => simp [intOf]; omega
            | false =>
              have HBl := Lib.hid hbl
              go_wp2
              go_roundw
              case rel =>
                refine ⟨k + 1, by omega, by go_num, Lib.hid ?_, Lib.hid (HO.out.trans HO5.out (fun _ _ h => h))⟩
                rw [HTk.out]
                exact HMB5.out.same (bestI_keep (e := ⟨a, c, s⟩) HIs.out HBl.out)
              case measure => simp [intOf]; omega
      · have hkn : k = nl := by omega
        have HMBn : Hid (MapB wo mb nl L) := Lib.hid (by have h := HMB.out; rwa [hkn, HNl.out, List.take_length, ← HNl.out] at h)
        clear hkn HMB
        have HM1 : Hid (Mach wo F g gd D B) := Lib.hid (HM.out.onl HO.out (fun _ _ h => h))
        have HOF : Hid (Onl F w wo) := Lib.hid (HO.out.mono (fun _ h => h.elim))
        have HT1 : Hid (takeOf L D B = takes L D B 0 (restO B.logs.length 0)) := Lib.hid (by unfold takeOf; rw [if_neg (by simp [HFl.out]), restO_zero])
        obtain ⟨m, hm⟩ : ∃ m, m = B.logs.length := ⟨_, rfl⟩
        rw [← hm] at HT1
        have HMm := Lib.hid hm
        have hm8 : m ≤ 8 := by
          obtain ⟨gl, c, rows, gs, cs, ow, cw, hd, hb, hF⟩ := HM1.out
          rw [hm]; exact hb.in1
        obtain ⟨gl0, c0, hc0⟩ : ∃ gl c, wo.cell? ⟨g, 0, none⟩ = some (.slice (some ⟨gl, 0, none⟩) m c) := by
          obtain ⟨gl, c, rows, gs, cs, ow, cw, hd, hb, hF⟩ := HM1.out
          exact ⟨gl, c, by rw [hm]; exact hb.c0⟩
        clear hm
        go_wp2
        clear hc0
        go_loopw [12, 61] (fun u v wr => ∃ (p cnt : Nat) (D1 : Dsk) (B1 : Bk) (F1 : Nat → Prop), p ≤ m ∧ v = .int .i64 p ∧ u = .int .i64 cnt ∧ cnt ≤ 65 * p ∧ Hid (Mach wr F1 g gd D1 B1) ∧ Hid (∀ k, F1 k → F k ∨ w.heap.size ≤ k) ∧ Hid (Onl F w wr) ∧ Hid (MapB wr mb nl L) ∧
            Hid (takeOf L D B = takes L D1 B1 (cnt : Int) (restO m p)) ∧ Hid (Fits D1 (N + 1365 * p)) ∧ Hid (B1.logs.length = m)) (fun _ v _ => m - (intOf v).toNat)
        case atStart => exact ⟨0, 0, D, B, F, by omega, rfl, rfl, by omega, HM1, Lib.hid (fun _ h => .inl h), HOF, HMBn, HT1, HFi, Lib.hid HMm.out.symm⟩
        case round =>
          clear HM1 HOF HMBn HT1 HO
          obtain ⟨wp, rfl⟩ : ∃ wp : World, wp = wr := ⟨_, rfl⟩
          obtain ⟨p, cnt, D1, B1, F1, hp, rfl, rfl, hcnt, HM1, HF1, HOF, HMB, HT, HFt, HLen⟩ := hrel
          by_cases hpm : p < m
          · have HT0 : Hid (takeOf L D B = takes L D1 B1 (cnt : Int) (restI m p 0)) := Lib.hid (by rw [HT.out, restO_in hpm])
            have hdp : decide ((p : Int) < (m : Int)) = true := decide_eq_true (by omega)
            clear HT
            go_wp2
            go_loopw [12, 14] (fun u v wr => ∃ (no cnt : Nat) (D1 : Dsk) (B1 : Bk) (F1 : Nat → Prop), no ≤ 65 ∧ v = .int .i64 no ∧ u = .int .i64 cnt ∧ cnt ≤ 65 * p + no ∧ Hid (Mach wr F1 g gd D1 B1) ∧ Hid (∀ k, F1 k → F k ∨ w.heap.size ≤ k) ∧ Hid (Onl F w wr) ∧ Hid (MapB wr mb nl L) ∧
                Hid (takeOf L D B = takes L D1 B1 (cnt : Int) (restI m p no)) ∧ Hid (Fits D1 (N + 1365 * p + 21 * no)) ∧ Hid (B1.logs.length = m)) (fun _ v _ => 65 - (intOf v).toNat)
            case atStart => exact ⟨0, cnt, D1, B1, F1, by omega, rfl, rfl, by omega, HM1, HF1, HOF, HMB, HT0, HFt, HLen⟩
            case round =>
              clear HM1 HF1 HOF HMB HT0 HFt HLen hcnt
              obtain ⟨no, cnt, D1, B1, F1, hno, rfl, rfl, hcnt, HM1, HF1, HOF, HMB, HT, HFt, HLen⟩ := hrel
              obtain ⟨gl, c, rows, gs, cs, ow, cw, hd, hb, hF⟩ := HM1.out
              have hpl : p < B1.logs.length := by rw [HLen.out]; exact hpm
              obtain ⟨l, hl⟩ : ∃ l, B1.logs[p]? = some l := ⟨_, List.getElem?_eq_getElem hpl⟩
              obtain ⟨⟨ro, rc⟩, hr⟩ : ∃ r, rows[p]? = some r := ⟨_, List.getElem?_eq_getElem (by rw [hb.len]; exact hpl)⟩
              have hc0 : wr.cell? ⟨g, 0, none⟩ = some (.slice (some ⟨gl, 0, none⟩) m c) := by rw [← HLen.out]; exact hb.c0
              have hcr := hb.cr hl hr
              have hll : l.length ≤ 64 := hb.in2 l (List.mem_of_getElem? hl)
              obtain ⟨k, hk⟩ : ∃ k, k = l.length := ⟨_, rfl⟩
              rw [← hk] at hcr hll
              have HLk : Hid ((B1.log p).length = k) := Lib.hid (by rw [log_of hl, hk])
              have i0 : (0 : Int) ≤ (p : Int) := by omega
              have i1 : (p : Int) < (m : Int) := by omega
              have HBk := Lib.hid hb
              clear hd hb hF hpl hl hr hk
              by_cases hle : no ≤ k
              · have hdl : decide ((no : Int) ≤ (k : Int)) = true := decide_eq_true (by omega)
                have HTs : Hid (takeOf L D B = takes L D1 B1 (cnt : Int) ((p, no) :: restI m p (no + 1))) := Lib.hid (by rw [HT.out, restI_step (by omega)])
                have HIp : Hid (I64 (p : Int)) := Lib.hid (by unfold I64; omega)
                have HIn : Hid (I64 (no : Int)) := Lib.hid (by unfold I64; omega)
                clear HT
                cases hbest : bestOf L p no with
                | none =>
                  have HLook : Hid ((Instr.lookup 161 (.map (some mb)) (.agg #[.int .i64 (p : Int), .int .i64 (no : Int)]) true).run Try.prog wr = .ok (.tuple #[.agg #[.int .i64 0, .int .i64 0, .string ⟨#[]⟩], .bool false]) wr) := Lib.hid (by
                    have h := HMB.out.look HIp.out HIn.out
                    rw [bestI_nat, hbest] at h; exact h)
                  have HTn : Hid (takeOf L D B = takes L D1 B1 (cnt : Int) (restI m p (no + 1))) := Lib.hid (by rw [HTs.out, takes_none hbest])
                  clear hbest HTs
                  go_wp2_with (at_lookup; refine wpList_lookR rfl _ _ _ _ rfl _ _ _ rfl rfl HLook.out ?_)
                  go_roundw
                  case rel =>
                    exact ⟨no + 1, cnt, D1, B1, F1, by omega, by go_num, rfl, by omega, Lib.hid (HM1.out.onl ((Onl.refl non _).alloc _) (fun _ _ h => h)), HF1, Lib.hid (HOF.out.alloc _), Lib.hid (HMB.out.onl ((Onl.refl non _).alloc _) (fun h => h)), HTn, Lib.hid (HFt.out.mono (by omega)), HLen⟩
                  case measure => simp [intOf]; omega
                | some b0 =>
                  have HLook : Hid ((Instr.lookup 161 (.map (some mb)) (.agg #[.int .i64 (p : Int), .int .i64 (no : Int)]) true).run Try.prog wr = .ok (.tuple #[.agg #[.int .i64 (p : Int), .int .i64 (no : Int), .string b0], .bool true]) wr) := Lib.hid (by
                    have h := HMB.out.look HIp.out HIn.out
                    rw [bestI_nat, hbest] at h; exact h)
                  have HBest := Lib.hid hbest
                  clear hbest
                  go_wp2_with (at_lookup; refine wpList_lookR rfl _ _ _ _ rfl _ _ _ rfl rfl HLook.out ?_)
                  obtain ⟨w4, hw4⟩ : ∃ w4, w4 = wr.alloc (.cells #[.int .i64 (p : Int), .int .i64 (no : Int), .string b0] 42) := ⟨_, rfl⟩
                  rw [← hw4]
                  have HO4 : Hid (Onl non wr w4) := Lib.hid (by rw [hw4]; exact (Onl.refl _ _).alloc _)
                  have HE4 : Hid (Blk w4 wr.heap.size 42 [.int .i64 (p : Int), .int .i64 (no : Int), .string b0]) := Lib.hid (by rw [hw4]; exact Blk.new wr 42 _)
                  clear hw4 hc0 hcr
                  refine (changes118_near g gl c gd rows B1 p no b0 w4 (HBk.out.onl HO4.out (fun _ _ h => h)) (bestOf_ok HBest.out) (by rw [HLen.out]; exact hpm)).mono ?_
                  rintro e w5 ⟨rfl, hO5⟩
                  have HO5 := Lib.hid (HO4.out.trans hO5 (fun _ _ h => h))
                  have HE5 := Lib.hid (HE4.out.onl hO5 (fun h => h))
                  have HM5 := Lib.hid (HM1.out.onl HO5.out (fun _ _ h => h))
                  have HMB5 := Lib.hid (HMB.out.onl HO5.out (fun h => h))
                  have HOF5 := Lib.hid (HOF.out.trans HO5.out (fun _ _ h => h.elim))
                  clear hO5 HO4 HE4 HM1 HMB HOF HBk
                  cases hfr : B1.fresh p no b0 with
                  | false =>
                    have HTn : Hid (takeOf L D B = takes L D1 B1 (cnt : Int) (restI m p (no + 1))) := Lib.hid (by rw [HTs.out, takes_old HBest.out hfr])
                    clear hfr
                    go_wp2
                    go_roundw
                    case rel =>
                      exact ⟨no + 1, cnt, D1, B1, F1, by omega, by go_num, rfl, by omega, HM5, HF1, HOF5, HMB5, HTn, Lib.hid (HFt.out.mono (by omega)), HLen⟩
                    case measure => simp [intOf]; omega
                  | true =>
                    have HFr := Lib.hid hfr
                    clear hfr
                    have k0 : w5.cell? ⟨wr.heap.size, 0, none⟩ = some (.int .i64 (p : Int)) := HE5.out.cell' rfl
                    have k1 : w5.cell? ⟨wr.heap.size, 1, none⟩ = some (.int .i64 (no : Int)) := HE5.out.cell' rfl
                    have k2 : w5.cell? ⟨wr.heap.size, 2, none⟩ = some (.string b0) := HE5.out.cell' rfl
                    go_wp2_with fail
                    refine (write119 F1 g gd D1 B1 p no b0 (N + 1365 * p + 21 * no) w5 HM5.out HFt.out (by omega) (bestOf_ok HBest.out) HFr.out).mono ?_
                    rintro e w6 ⟨rfl, F2, hm6, hf6, ho6⟩
                    have HM6 := Lib.hid hm6
                    have HMB6 := Lib.hid (HMB5.out.onl ho6 (HM5.out.ne_map HMB5.out))
                    have HF6 : Hid (∀ k, F2 k → F k ∨ w.heap.size ≤ k) := Lib.hid (fun k hk => by
                      rcases hf6 k hk with h | h
                      · exact HF1.out k h
                      · exact .inr (Nat.le_trans HOF5.out.size h))
                    have HOF6 : Hid (Onl F w w6) := Lib.hid (HOF5.out.trans ho6 (fun k hk h => by
                      rcases HF1.out k h with h | h
                      · exact h
                      · omega))
                    have HFt6 : Hid (Fits (putD D1 B1 p no b0) (N + 1365 * p + 21 * (no + 1))) := Lib.hid ((HFt.out.put (bestOf_small HBest.out).1).mono (by omega))
                    clear hm6 hf6 ho6 k0 k1 k2 HM5 HMB5 HOF5
                    obtain ⟨E, hE⟩ : ∃ E, E = putE D1 B1 p no b0 := ⟨_, rfl⟩
                    rw [← hE]
                    have HE := Lib.hid hE
                    clear hE
                    by_cases h0 : E = 0
                    · subst h0
                      have HTn : Hid (takeOf L D B = takes L (putD D1 B1 p no b0) (putB D1 B1 p no b0) ((cnt + 1 : Nat) : Int) (restI m p (no + 1))) := Lib.hid (by
                        rw [HTs.out, takes_put HBest.out HFr.out HE.out.symm]; rfl)
                      go_wp2
                      go_roundw
                      case rel =>
                        exact ⟨no + 1, cnt + 1, _, _, F2, by omega, by go_num, by go_num, by omega, HM6, HF6, HOF6, HMB6, HTn, HFt6, Lib.hid (by rw [putB_len]; exact HLen.out)⟩
                      case measure => simp [intOf]; omega
                    · have hb0 : (E != 0) = true := by rw [bne_iff_ne]; exact h0
                      have H0 := Lib.hid h0
                      clear h0
                      go_wp2
                      go_ret2
                      have hT : takeOf L D B = ⟨putD D1 B1 p no b0, B1, 0, E⟩ := by
                        rw [HTs.out, takes_fail HBest.out HFr.out (by rw [← HE.out]; exact H0.out), ← HE.out]
                      have hpb : putB D1 B1 p no b0 = B1 := by unfold putB; rw [if_neg (by rw [← HE.out]; exact H0.out)]
                      have hm6 := HM6.out
                      rw [hpb] at hm6
                      exact ⟨by rw [hT]; rfl, by rw [hT]; exact ⟨F2, hm6, HF6.out, HOF6.out⟩⟩
              · have hdl : decide ((no : Int) ≤ (k : Int)) = false := decide_eq_false (by omega)
                have HTn : Hid (takeOf L D B = takes L D1 B1 (cnt : Int) (restO m (p + 1))) := Lib.hid (by rw [HT.out, takes_past (by rw [HLk.out]; omega)])
                clear HT HBk
                go_wp2
                go_roundw
                case rel =>
                  exact ⟨p + 1, cnt, D1, B1, F1, by omega, by go_num, rfl, by omega, HM1, HF1, HOF, HMB, HTn, Lib.hid (HFt.out.mono (by omega)), HLen⟩
                case measure => simp [intOf]; omega
          · have hpe : p = m := by omega
            have HTn : Hid (takeOf L D B = ⟨D1, B1, cnt, 0⟩) := Lib.hid (by rw [HT.out, hpe, restO_end]; rfl)
            clear hpe HT
            go_wp2
            go_ret2
            exact ⟨by rw [HTn.out]; rfl, by rw [HTn.out]; exact ⟨F1, HM1.out, HF1.out, HOF.out⟩⟩
end Go.Proofs.Ytenngchidlfaeaa
/- Plain laws: encodings decoded. -/
namespace Go.Proofs.Ytenngchidlfaeaa
open Go.RowKit

theorem enc_length (o n p q : Nat) (s : ByteArray) : (enc o n p q s).length = 10 + s.size := by
  unfold enc fbytes
  rw [List.length_append, Rad.chk_length, List.length_append, bl_length]
  simp; omega
theorem okF_lt {o n p q : Nat} {m : Nat} (h : OkF o n p q m) : o < 256 ∧ n < 256 ∧ p < 256 ∧ q < 256 ∧ m ≤ 32 := by unfold OkF at h; omega
theorem enc_bytes {o n p q : Nat} {s : ByteArray} (h : OkF o n p q s.size) : Rad.Bytes (enc o n p q s) := by
  obtain ⟨h1, h2, h3, h4, _⟩ := okF_lt h
  exact Rad.Bytes.append (fbytes_bytes s h1 h2 h3 h4) (Rad.chk_bytes (fbytes_bytes s h1 h2 h3 h4))
theorem enc_code {o n p q : Nat} {s : ByteArray} (h : OkF o n p q s.size) : Rad.Code (enc o n p q s) := by
  obtain ⟨h1, h2, h3, h4, _⟩ := okF_lt h
  exact Rad.chk_code (fbytes_bytes s h1 h2 h3 h4)
/-- what an encoding with at most two wrong bytes is decoded to -/
theorem dec_enc {o n p q : Nat} {s : ByteArray} (h : OkF o n p q s.size) {t : List Nat} (hl : t.length = 10 + s.size) (hd : Rad.dist (enc o n p q s) t ≤ 2) :
    dec t = some ⟨o, n, p, q, bl s, Rad.dist (enc o n p q s) t⟩ := by
  have hm := (okF_lt h).2.2.2.2
  have hn : Rad.Near t (enc o n p q s) := ⟨by rw [enc_length, hl], enc_bytes h, enc_code h, hd⟩
  rw [dec_near (by omega) (by omega) hn]
  have g0 : (enc o n p q s).getD 0 0 = o := rfl
  have g1 : (enc o n p q s).getD 1 0 = n := rfl
  have g2 : (enc o n p q s).getD 2 0 = p := rfl
  have g3 : (enc o n p q s).getD 3 0 = q := rfl
  have g4 : ((enc o n p q s).drop 4).take ((enc o n p q s).length - 10) = bl s := by
    have e : (enc o n p q s).drop 4 = bl s ++ Rad.chk (fbytes o n p q s) := rfl
    rw [e, enc_length, show 10 + s.size - 10 = (bl s).length from by rw [bl_length]; omega, List.take_left]
  unfold decOf
  rw [g0, g1, g2, g3, g4, if_pos]
  rw [enc_length, show 10 + s.size - 10 = s.size from by omega]
  exact h
/-- three and four wrong bytes are found -/
theorem dec_far {o n p q : Nat} {s : ByteArray} (h : OkF o n p q s.size) {t : List Nat} (hl : t.length = 10 + s.size) (h3 : 3 ≤ Rad.dist (enc o n p q s) t) (h4 : Rad.dist (enc o n p q s) t ≤ 4) : dec t = none := by
  have hm := (okF_lt h).2.2.2.2
  refine dec_none (fun w hw => ?_)
  have hlen : w.length = (enc o n p q s).length := by rw [hw.len, hl, enc_length]
  have hwl : w.length ≤ 255 := by rw [hw.len, hl]; omega
  have htri := Rad.dist_tri (u := w) (v := t) (w := enc o n p q s) hw.len (by rw [hl, enc_length])
  have h5 : Rad.dist w (enc o n p q s) ≤ 6 := by
    have h6 := hw.two
    have h7 : Rad.dist t (enc o n p q s) = Rad.dist (enc o n p q s) t := Rad.dist_comm _ _
    omega
  have he := Rad.code_apart hw.bytes (enc_bytes h) hlen hwl hw.code (enc_code h) h5
  have := hw.two
  rw [he] at this
  omega
/-- what is decoded is the encoding of a valid frame -/
theorem dec_some {t : List Nat} {d : Dec} (h : dec t = some d) : OkF d.o d.n d.p d.q d.body.length ∧ Rad.Bytes d.body ∧ (enc d.o d.n d.p d.q (sb d.body)).length = t.length ∧ Rad.dist (enc d.o d.n d.p d.q (sb d.body)) t = d.k ∧ d.k ≤ 2 ∧ 10 ≤ t.length ∧ t.length ≤ 42 := by
  unfold dec at h
  split at h
  rotate_left
  · cases h
  rename_i hl
  by_cases hx : ∃ w, Rad.Near t w
  rotate_left
  · rw [near_none (fun w hw => hx ⟨w, hw⟩)] at h; cases h
  obtain ⟨w, hw⟩ := hx
  rw [near_some (by omega) hw] at h
  simp only [Option.bind_some] at h
  unfold decOf at h
  split at h
  rotate_left
  · cases h
  rename_i hok
  have hd := Option.some.inj h
  subst hd
  have hwl : w.length = t.length := hw.len
  have hbody : ((w.drop 4).take (w.length - 10)).length = w.length - 10 := by rw [List.length_take, List.length_drop]; omega
  have hbb : Rad.Bytes ((w.drop 4).take (w.length - 10)) := fun b hb => hw.bytes b (List.mem_of_mem_drop (List.mem_of_mem_take hb))
  have hokb : OkF (w.getD 0 0) (w.getD 1 0) (w.getD 2 0) (w.getD 3 0) ((w.drop 4).take (w.length - 10)).length := by rw [hbody]; exact hok
  have hsz : (sb ((w.drop 4).take (w.length - 10))).size = ((w.drop 4).take (w.length - 10)).length := sb_size _
  have hoks : OkF (w.getD 0 0) (w.getD 1 0) (w.getD 2 0) (w.getD 3 0) (sb ((w.drop 4).take (w.length - 10))).size := by rw [hsz]; exact hokb
  -- the code word is the encoding
  have hhead : w.take (w.length - 6) = fbytes (w.getD 0 0) (w.getD 1 0) (w.getD 2 0) (w.getD 3 0) (sb ((w.drop 4).take (w.length - 10))) := by
    unfold fbytes
    rw [bl_sb hbb]
    have h10 : 10 ≤ w.length := by omega
    match w, h10 with
    | a :: b :: c :: d :: r, h10 =>
      have e : (a :: b :: c :: d :: r).length - 6 = (r.length - 6) + 4 := by simp at h10 ⊢; omega
      have e2 : (a :: b :: c :: d :: r).length - 10 = r.length - 6 := by simp
      rw [e, e2]
      rfl
  have henc : enc (w.getD 0 0) (w.getD 1 0) (w.getD 2 0) (w.getD 3 0) (sb ((w.drop 4).take (w.length - 10))) = w := by
    have hlen : (enc (w.getD 0 0) (w.getD 1 0) (w.getD 2 0) (w.getD 3 0) (sb ((w.drop 4).take (w.length - 10)))).length = w.length := by rw [enc_length, hsz, hbody]; omega
    refine Rad.code_apart (enc_bytes hoks) hw.bytes hlen (by rw [hlen]; omega) (enc_code hoks) hw.code ?_
    have hsplit : w = fbytes (w.getD 0 0) (w.getD 1 0) (w.getD 2 0) (w.getD 3 0) (sb ((w.drop 4).take (w.length - 10))) ++ w.drop (w.length - 6) := by
      rw [← hhead, List.take_append_drop]
    have hd6 : (w.drop (w.length - 6)).length = 6 := by rw [List.length_drop]; omega
    unfold enc
    generalize fbytes (w.getD 0 0) (w.getD 1 0) (w.getD 2 0) (w.getD 3 0) (sb ((w.drop 4).take (w.length - 10))) = f at hsplit ⊢
    have hdist : ∀ (f x y : List Nat), Rad.dist (f ++ x) (f ++ y) = Rad.dist x y := by
      intro f x y
      induction f with
      | nil => rfl
      | cons a r ih => simp [Rad.dist, ih]
    have hdl : ∀ (x y : List Nat), Rad.dist x y ≤ x.length := by
      intro x
      induction x with
      | nil => intro y; simp [Rad.dist]
      | cons a r ih =>
        intro y
        cases y with
        | nil => simp [Rad.dist]
        | cons b s => simp only [Rad.dist, List.length_cons]; have := ih s; split <;> omega
    have e : Rad.dist (f ++ Rad.chk f) w = Rad.dist (Rad.chk f) (w.drop (w.length - 6)) := by
      conv => lhs; arg 2; rw [hsplit]
      exact hdist _ _ _
    rw [e]
    have := hdl (Rad.chk f) (w.drop (w.length - 6))
    rw [Rad.chk_length] at this
    exact this
  refine ⟨hokb, hbb, by rw [henc, hwl], by rw [henc], hw.two, hl.1, hl.2⟩
end Go.Proofs.Ytenngchidlfaeaa
/- Plain laws: the chapter's examples. -/
namespace Go.Proofs.Ytenngchidlfaeaa
open Go.RowKit
open Rad (Dsk)

theorem Fits.make {D : Dsk} {N : Nat} (h : Fits D N) (m : Nat) : Fits (makeD D m) (N + 5) := by
  unfold makeD; split
  · exact h.mono (by omega)
  · refine (h.keep 0 (bpay m)).mono ?_
    have : (bpay m).size = 2 := sb_size _
    rw [this]; simp [sectorsOf]
theorem Fits.add {D : Dsk} {N : Nat} (h : Fits D N) (B : Bk) (e : Ent) : Fits (addD D B e) (N + 21) := by
  unfold addD; split
  · rename_i hw
    refine h.put ?_
    unfold addW Ent.ok at hw
    simp only [Bool.and_eq_true, decide_eq_true_eq] at hw
    exact hw.1.2.1.2.2
  · exact h.mono (by omega)
theorem make_calm {D : Dsk} (h : Calm D) {m : Nat} (hl : 1 ≤ D.safe.length) : makeE D m = 0 ∧ Calm (makeD D m) ∧ (makeD D m).falls = D.falls ∧ (makeD D m).safe.length = D.safe.length := by
  have hs : (bpay m).size = 2 := sb_size _
  have hk := h.keep (a := 0) (p := bpay m) (by rw [hs]; simp [sectorsOf]; omega)
  unfold makeE makeD
  rw [if_neg (by rw [h.1]; simp), if_neg (by rw [h.1]; simp)]
  exact ⟨hk.1, hk.2.1, hk.2.2, keep_len _ _ _⟩
theorem put_calm' {D : Dsk} {B : Bk} {p n : Nat} {b : ByteArray} (h : Calm D) (hr : B.pos + sectorsOf (epay p n b).size ≤ D.safe.length) :
    putE D B p n b = 0 ∧ Calm (putD D B p n b) ∧ (putD D B p n b).falls = D.falls ∧ (putD D B p n b).safe.length = D.safe.length ∧ putB D B p n b = { B.change p n b with pos := B.pos + sectorsOf (epay p n b).size } := by
  have hk := h.keep (a := B.pos) (p := epay p n b) hr
  refine ⟨hk.1, hk.2.1, hk.2.2, keep_len _ _ _, ?_⟩
  unfold putB; rw [if_pos (show putE D B p n b = 0 from hk.1)]
/-- a list whose other places are empty -/
theorem takes_rest {L : List Ent} {D : Dsk} {B : Bk} {c : Int} : ∀ (r : List (Nat × Nat)), (∀ q ∈ r, bestOf L q.1 q.2 = none) → takes L D B c r = ⟨D, B, c, 0⟩
  | [], _ => rfl
  | q :: r, h => by
    obtain ⟨p, n⟩ := q
    rw [takes_none (h (p, n) (by simp))]
    exact takes_rest r (fun q hq => h q (by simp [hq]))
/-- one message -/
theorem bestOf_one (e : Ent) (p n : Nat) : bestOf [e] p n = if e.at p n then some e.b else none := by
  show better none p n e = _
  rw [better_eq]
  split <;> rfl

def strA : ByteArray := ⟨#[97]⟩
def strB : ByteArray := ⟨#[98]⟩
def eA : Ent := ⟨0, 0, strA⟩
def eB : Ent := ⟨0, 0, strB⟩
def sD0 : Dsk := newD 9
def sD1 : Dsk := makeD sD0 1
def sB1 : Bk := makeB sD0 1
def sD2 : Dsk := addD sD1 sB1 eB
def sB2 : Bk := addB sD1 sB1 eB
theorem sD0_calm : Calm sD0 := ⟨rfl, rfl⟩
theorem sD0_fits : Fits sD0 0 := ⟨Nat.le_refl _, Nat.le_refl _, by show (0 : Nat) < _; omega⟩
theorem sD0_len : sD0.safe.length = 9 := by simp [sD0, newD]
theorem s1 : makeE sD0 1 = 0 ∧ Calm sD1 ∧ sD1.falls = 0 ∧ sD1.safe.length = 9 := by
  have h := make_calm (m := 1) sD0_calm (by rw [sD0_len]; omega)
  refine ⟨h.1, h.2.1, ?_, ?_⟩
  · show (makeD sD0 1).falls = 0; rw [h.2.2.1]; rfl
  · show (makeD sD0 1).safe.length = 9; rw [h.2.2.2, sD0_len]
theorem sB1_eq : sB1 = ⟨[[]], 1, 0⟩ := rfl
theorem okAB : eA.ok = true ∧ eB.ok = true := by decide
theorem sec4 (b : ByteArray) (h : b.size = 1) : sectorsOf (epay 0 0 b).size = 1 := by rw [epay_size, h]; simp [sectorsOf]
theorem s2 : addE sD1 sB1 eB = 0 ∧ Calm sD2 ∧ sD2.falls = 0 ∧ sD2.safe.length = 9 ∧ sB2 = ⟨[[strB]], 2, 0⟩ := by
  have hw : addW sD1 sB1 eB = true := by
    unfold addW
    rw [s1.2.2.1, okAB.2, sB1_eq]
    rfl
  have hp := put_calm' (B := sB1) (p := 0) (n := 0) (b := strB) s1.2.1 (by rw [s1.2.2.2, sec4 _ rfl, sB1_eq]; decide)
  have e1 : addE sD1 sB1 eB = putE sD1 sB1 0 0 strB := by unfold addE; rw [if_pos hw]; rfl
  have e2 : sD2 = putD sD1 sB1 0 0 strB := by unfold sD2 addD; rw [if_pos hw]; rfl
  have e3 : sB2 = putB sD1 sB1 0 0 strB := by unfold sB2 addB; rw [if_pos hw]; rfl
  rw [e1, e2, e3]
  refine ⟨hp.1, hp.2.1, hp.2.2.1.trans s1.2.2.1, hp.2.2.2.1.trans s1.2.2.2, ?_⟩
  rw [hp.2.2.2.2, sec4 _ rfl, sB1_eq]; rfl
theorem s3 : (takeOf [eA] sD2 sB2).n = 1 ∧ (takeOf [eA] sD2 sB2).e = 0 ∧ (takeOf [eA] sD2 sB2).B.logs = [[strA]] := by
  have hB := s2.2.2.2.2
  have hat : ∀ n, eA.at 0 n = decide (n = 0) := fun n => by
    unfold Ent.at
    rw [okAB.1]
    show (true && decide ((0 : Int) = ((0 : Nat) : Int)) && decide ((0 : Int) = (n : Int))) = _
    by_cases h : n = 0
    · subst h; rfl
    · rw [decide_eq_false (show ¬ (0 : Int) = (n : Int) by omega), decide_eq_false h]; simp
  have h0 : bestOf [eA] 0 0 = some strA := by rw [bestOf_one, hat]; rfl
  have hf : sB2.fresh 0 0 strA = true := by rw [hB]; decide +kernel
  have hp := put_calm' (B := sB2) (p := 0) (n := 0) (b := strA) s2.2.1 (by rw [s2.2.2.2.1, sec4 _ rfl, hB]; decide)
  have hT : takeOf [eA] sD2 sB2 = ⟨putD sD2 sB2 0 0 strA, putB sD2 sB2 0 0 strA, 1, 0⟩ := by
    unfold takeOf
    rw [if_neg (by rw [s2.2.2.1, hB]; simp), restO_zero]
    have hl : sB2.logs.length = 1 := by rw [hB]; rfl
    rw [hl, restO_in (by omega), restI_step (by omega), takes_put h0 hf hp.1]
    rw [takes_rest]
    · rfl
    · intro q hq
      unfold restI at hq
      rw [restO_end, List.append_nil] at hq
      obtain ⟨k, hk, rfl⟩ := List.mem_map.1 hq
      have := (List.mem_range'_1.1 hk).1
      rw [bestOf_one, hat, decide_eq_false (by omega)]; rfl
  rw [hT]
  refine ⟨rfl, rfl, ?_⟩
  show (putB sD2 sB2 0 0 strA).logs = _
  rw [hp.2.2.2.2, hB]; rfl
def snow : ByteArray := ⟨#[115, 110, 111, 119]⟩
theorem okSnow : OkF ((1 : Nat) : Int) ((2 : Nat) : Int) ((0 : Nat) : Int) ((1 : Nat) : Int) snow.size := by decide
theorem g29 : Rad.gm 2 128 = 29 := by decide +kernel
theorem g142 : Rad.ginv 2 = 142 := by decide +kernel
theorem chk1 : sb (Rad.chk (bl ⟨#[1]⟩)) = ⟨#[63, 1, 218, 32, 227, 38]⟩ := by decide +kernel
theorem encS_size : (sb (enc 1 2 0 1 snow)).size = 14 := by rw [sb_size, enc_length]; rfl
/-- two bytes garbled -/
def gar (s : ByteArray) : ByteArray := ⟨#[63, 63]⟩ ++ s.extract 2 s.size
theorem gar_dec : dec (bl (gar (sb (enc 1 2 0 1 snow)))) = some ⟨1, 2, 0, 1, bl snow, 2⟩ := by
  have hb := enc_bytes okSnow
  have e : bl (gar (sb (enc 1 2 0 1 snow))) = [63, 63] ++ (enc 1 2 0 1 snow).drop 2 := by
    unfold gar
    have h1 : bl ((⟨#[63, 63]⟩ : ByteArray) ++ (sb (enc 1 2 0 1 snow)).extract 2 (sb (enc 1 2 0 1 snow)).size) = bl ⟨#[63, 63]⟩ ++ bl ((sb (enc 1 2 0 1 snow)).extract 2 (sb (enc 1 2 0 1 snow)).size) := by
      simp [bl]
    have h2 : bl ((sb (enc 1 2 0 1 snow)).extract 2 (sb (enc 1 2 0 1 snow)).size) = (bl (sb (enc 1 2 0 1 snow))).drop 2 := by
      have hl := bl_length (sb (enc 1 2 0 1 snow))
      simp [bl, ByteArray.data_extract, List.map_drop]
      rw [List.take_of_length_le]
      simp
    rw [h1, h2, bl_sb hb]; rfl
  have hl : ([63, 63] ++ (enc 1 2 0 1 snow).drop 2).length = 10 + snow.size := by
    rw [List.length_append, List.length_drop, enc_length]; rfl
  have hd : Rad.dist (enc 1 2 0 1 snow) ([63, 63] ++ (enc 1 2 0 1 snow).drop 2) = 2 := by
    obtain ⟨r, hr⟩ : ∃ r, enc 1 2 0 1 snow = 1 :: 2 :: r := ⟨_, rfl⟩
    rw [hr]
    show (if 1 = 63 then 0 else 1) + ((if 2 = 63 then 0 else 1) + Rad.dist r r) = 2
    rw [Rad.dist_self]; rfl
  rw [e, dec_enc okSnow hl (by rw [hd]; omega), hd]
end Go.Proofs.Ytenngchidlfaeaa
/- The chapter's examples hold: sane, walked. -/
namespace Go.Proofs.Ytenngchidlfaeaa
open Go.RowKit
open Rad (Dsk)

theorem sane_times (w : World) : Calls Try.prog 25 #[.int .i64 2, .int .i64 128] w fun e w' => e = .returned (.tuple #[.int .i64 29, .int .i64 0]) ∧ w = w' := by
  have h := Times25_ok 2 128 w (by omega) (by omega)
  rw [g29] at h
  exact h
theorem sane_inverse (w : World) : Calls Try.prog 26 #[.int .i64 2] w fun e w' => e = .returned (.tuple #[.int .i64 142, .int .i64 0]) ∧ w = w' := by
  have h := Inverse26_ok 2 w (by omega) (by omega)
  rw [g142] at h
  exact h
theorem sane_checks (w : World) : Calls Try.prog 29 #[.string ⟨#[1]⟩] w fun e w' => e = .returned (.tuple #[.string ⟨#[63, 1, 218, 32, 227, 38]⟩, .int .i64 0]) ∧ Onl non w w' := by
  have h := Checks29_ok ⟨#[1]⟩ w (by decide)
  rw [chk1] at h
  exact h
theorem sane_encode (w : World) : Calls Try.prog 18 #[.agg #[.int .i64 1, .int .i64 2, .int .i64 0, .int .i64 1, .string ⟨#[115, 110, 111, 119]⟩]] w fun e w' => e = .returned (.tuple #[.string (sb (enc 1 2 0 1 snow)), .int .i64 0]) ∧ Onl non w w' :=
  Encode18_ok 1 2 0 1 snow w okSnow
theorem sane_decode (w : World) : Calls Try.prog 20 #[.string (gar (sb (enc 1 2 0 1 snow)))] w fun e w' => e = .returned (.tuple #[.agg #[.int .i64 1, .int .i64 2, .int .i64 0, .int .i64 1, .string ⟨#[115, 110, 111, 119]⟩], .int .i64 2, .int .i64 0]) ∧ Onl non w w' := by
  have h := Decode20 (gar (sb (enc 1 2 0 1 snow))) w (by
    unfold gar
    rw [ByteArray.size_append, ByteArray.size_extract, encS_size]; decide)
  rw [gar_dec] at h
  have e : decV (some ⟨1, 2, 0, 1, bl snow, 2⟩) = .tuple #[.agg #[.int .i64 1, .int .i64 2, .int .i64 0, .int .i64 1, .string ⟨#[115, 110, 111, 119]⟩], .int .i64 2, .int .i64 0] := by
    simp only [decV, sb_bl]; rfl
  rw [e] at h
  exact h
theorem sane_split (w : World) : Calls Try.prog 33 #[.agg #[.int .i64 0, .int .i64 0, .string ⟨#[115, 110, 111, 119]⟩]] w fun e w' => (∃ o c, e = .returned (.tuple #[.slice o 1 c, .int .i64 0])) ∧ Onl non w w' :=
  (Split33_ok 0 0 snow w (by decide)).mono fun e w' ⟨o, c, h1, _, h3⟩ => ⟨⟨o, c, h1⟩, h3⟩
set_option maxRecDepth 100000 in
set_option maxHeartbeats 2000000 in
theorem sane17 (w : World) : Calls Try.prog 17 #[] w fun e w' => e = .returned (.bool true) ∧ Onl non w w' := by
  obtain ⟨S, hS⟩ : ∃ S, S = sb (enc 1 2 0 1 snow) := ⟨_, rfl⟩
  have hSs : S.size = 14 := by rw [hS]; exact encS_size
  have hb14 : ((S.size : Int) != 14) = false := eq_bne (b := 14) hSs
  have HEnc : Hid (∀ wx, Calls Try.prog 18 #[.agg #[.int .i64 1, .int .i64 2, .int .i64 0, .int .i64 1, .string ⟨#[115, 110, 111, 119]⟩]] wx fun e w' => e = .returned (.tuple #[.string S, .int .i64 0]) ∧ Onl non wx w') := Lib.hid (fun wx => by rw [hS]; exact sane_encode wx)
  have HDec : Hid (∀ wx, Calls Try.prog 20 #[.string (⟨#[63, 63]⟩ ++ S.extract 2 S.size)] wx fun e w' => e = .returned (.tuple #[.agg #[.int .i64 1, .int .i64 2, .int .i64 0, .int .i64 1, .string ⟨#[115, 110, 111, 119]⟩], .int .i64 2, .int .i64 0]) ∧ Onl non wx w') := Lib.hid (fun wx => by rw [hS]; exact sane_decode wx)
  have HSs := Lib.hid hSs
  have h2 : 2 ≤ S.size := by omega
  have h3 : S.size ≤ 14 := by omega
  clear hS hSs
  go_enter Try.func17, Try.ntmps17
  go_wp2_with fail
  refine (sane_times _).mono ?_
  rintro e w1 ⟨rfl, rfl⟩
  go_wp2_with fail
  refine (sane_inverse _).mono ?_
  rintro e w1 ⟨rfl, rfl⟩
  go_wp2_with fail
  refine (sane_checks _).mono ?_
  rintro e w1 ⟨rfl, hO1⟩
  have HO1 := Lib.hid hO1
  clear hO1
  go_wp2_with fail
  refine (frame87 _).mono ?_
  rintro e w2 ⟨rfl, hO2⟩
  have HO2 := Lib.hid (HO1.out.trans hO2 (fun _ _ h => h))
  clear hO2 HO1
  go_wp2_with fail
  refine (HEnc.out _).mono ?_
  rintro e w3 ⟨rfl, hO3⟩
  have HO3 := Lib.hid (HO2.out.trans hO3 (fun _ _ h => h))
  clear hO3 HO2
  go_wp2_with fail
  refine (HDec.out _).mono ?_
  rintro e w4 ⟨rfl, hO4⟩
  have HO4 := Lib.hid (HO3.out.trans hO4 (fun _ _ h => h))
  clear hO4 HO3
  go_wp2_with fail
  obtain ⟨w5, hw5⟩ : ∃ w5, w5 = w4.alloc (.cells #[.int .i64 1, .int .i64 2, .int .i64 0, .int .i64 1, .string ⟨#[115, 110, 111, 119]⟩] 23) := ⟨_, rfl⟩
  rw [← hw5]
  have HO5 : Hid (Onl non w w5) := Lib.hid (by rw [hw5]; exact HO4.out.alloc _)
  have HX5 : Hid (Blk w5 w4.heap.size 23 [.int .i64 1, .int .i64 2, .int .i64 0, .int .i64 1, .string ⟨#[115, 110, 111, 119]⟩]) := Lib.hid (by rw [hw5]; exact Blk.new w4 23 _)
  clear hw5 HO4
  refine (sane_split _).mono ?_
  rintro e w6 ⟨⟨os, cs, rfl⟩, hO6⟩
  have HO6 := Lib.hid (HO5.out.trans hO6 (fun _ _ h => h))
  have HX6 := Lib.hid (HX5.out.onl hO6 (fun h => h))
  clear hO6 HO5 HX5
  have hgd : Try.prog.eqGuardType Try.prog.depth 23 = false := by kernel_rfl
  have hne : ∀ wx, (binOp .neq 23 (.agg #[.int .i64 1, .int .i64 2, .int .i64 0, .int .i64 1, .string ⟨#[115, 110, 111, 119]⟩]) (.agg #[.int .i64 1, .int .i64 2, .int .i64 0, .int .i64 1, .string ⟨#[115, 110, 111, 119]⟩])).run Try.prog wx = .ok (.bool false) wx := fun wx => by
    rw [neq23, eqF_iff]; rfl
  have c0 : ∀ x : Ext non w6, x.val.cell? ⟨w4.heap.size, 0, none⟩ = some (.int .i64 1) := fun x => (HX6.out.onl x.property (fun h => h)).cell' rfl
  have c1 : ∀ x : Ext non w6, x.val.cell? ⟨w4.heap.size, 1, none⟩ = some (.int .i64 2) := fun x => (HX6.out.onl x.property (fun h => h)).cell' rfl
  have c2 : ∀ x : Ext non w6, x.val.cell? ⟨w4.heap.size, 2, none⟩ = some (.int .i64 0) := fun x => (HX6.out.onl x.property (fun h => h)).cell' rfl
  have c3 : ∀ x : Ext non w6, x.val.cell? ⟨w4.heap.size, 3, none⟩ = some (.int .i64 1) := fun x => (HX6.out.onl x.property (fun h => h)).cell' rfl
  have c4 : ∀ x : Ext non w6, x.val.cell? ⟨w4.heap.size, 4, none⟩ = some (.string ⟨#[115, 110, 111, 119]⟩) := fun x => (HX6.out.onl x.property (fun h => h)).cell' rfl
  go_wp2_with fail
  refine wp_region_quiet_class (fun w' => ∃ x : Ext non w6, w' = x.val) (by kernel_rfl) (by kernel_rfl) ⟨⟨w6.drew, (Onl.refl non w6).drew⟩, rfl⟩ ?_
  repeat (go_big_quiet_step ((go_at_call 87; exact qext (frame87 _))))
  refine wpQuiet_nil ?_
  intro w7 hw'
  obtain ⟨x, hx⟩ := hw'
  have hO7 := x.property
  rw [← hx] at hO7
  have HO7 := Lib.hid (HO6.out.trans hO7 (fun _ _ h => h))
  clear c0 c1 c2 c3 c4 hx hO7 HO6 HX6 hne hgd
  go_wp2_with fail
  have hnd := NewDisk47_ok 9 w7 (by omega) (by omega)
  rw [show ((9 : Nat) : Int) = 9 from rfl] at hnd
  refine hnd.mono ?_
  rintro e w8 ⟨gd, gs, cs2, rfl, hd8, ho8, hg8, hgs8⟩
  have HD8 := Lib.hid hd8.dm
  have HO8 := Lib.hid (HO7.out.trans ho8 (fun _ _ h => h))
  have HF8 : Hid (∀ k, dskOf gd gs none k → w.heap.size ≤ k) := Lib.hid (fun k hk => by
    have h7 := HO7.out.size
    rcases hk with rfl | rfl | hk
    · omega
    · omega
    · simp [ownOf] at hk)
  clear hd8 ho8 hnd HO7 hg8 hgs8
  go_wp2_with fail
  have hmk := Make81_run (dskOf gd gs none) gd sD0 1 0 w8 HD8.out sD0_fits (by omega) (by omega) (by omega)
  rw [show ((1 : Nat) : Int) = 1 from rfl] at hmk
  refine hmk.mono ?_
  rintro e w9 (⟨hne, _⟩ | ⟨_, g, rfl, _, F9, hm9, hf9, ho9⟩)
  · exact absurd s1.1 hne
  have HM9 : Hid (Mach w9 F9 g gd sD1 sB1) := Lib.hid hm9
  have HF9 : Hid (∀ k, F9 k → w.heap.size ≤ k) := Lib.hid (fun k hk => by
    rcases hf9 k hk with h | h
    · exact HF8.out k h
    · exact Nat.le_trans HO8.out.size h)
  have HO9 : Hid (Onl non w w9) := Lib.hid (HO8.out.trans ho9 (fun k hk h => by have := HF8.out k h; omega))
  clear hm9 hf9 ho9 hmk HO8 HD8 HF8
  go_wp2_with fail
  refine (Add73 F9 g gd sD1 sB1 0 0 ⟨#[98]⟩ 5 w9 HM9.out (sD0_fits.make 1) (by omega) (by decide)).mono ?_
  rintro e wA ⟨rfl, FA, hmA, hfA, hoA⟩
  have hadd : addE sD1 sB1 ⟨0, 0, ⟨#[98]⟩⟩ = 0 := s2.1
  rw [hadd]
  have HMA : Hid (Mach wA FA g gd sD2 sB2) := Lib.hid hmA
  have HFA : Hid (∀ k, FA k → w.heap.size ≤ k) := Lib.hid (fun k hk => by
    rcases hfA k hk with h | h
    · exact HF9.out k h
    · exact Nat.le_trans HO9.out.size h)
  have HOA : Hid (Onl non w wA) := Lib.hid (HO9.out.trans hoA (fun k hk h => by have := HF9.out k h; omega))
  clear hmA hfA hoA hadd HM9 HF9 HO9
  go_wp2_with fail
  obtain ⟨wB, hwB⟩ : ∃ wB, wB = wA.alloc (.cells #[.int .i64 0, .int .i64 0, .string ⟨#[97]⟩] 42) := ⟨_, rfl⟩
  rw [← hwB]
  have HMB : Hid (Mach wB FA g gd sD2 sB2) := Lib.hid (by rw [hwB]; exact HMA.out.onl ((Onl.refl non _).alloc _) (fun _ _ h => h))
  have HOB : Hid (Onl non w wB) := Lib.hid (by rw [hwB]; exact HOA.out.alloc _)
  have hRd : RdE wB (some ⟨wA.heap.size, 0, none⟩) [eA] := by
    intro k e hk
    have hb : Blk wB wA.heap.size 42 [.int .i64 0, .int .i64 0, .string ⟨#[97]⟩] := by rw [hwB]; exact Blk.new wA 42 _
    match k, hk with
    | 0, hk =>
      simp only [List.getElem?_cons_zero, Option.some.injEq] at hk
      subst hk
      exact ⟨_, 0, rfl, hb.cell' rfl, hb.cell' rfl, hb.cell' rfl⟩
    | k + 1, hk => simp at hk
  have HRd := Lib.hid hRd
  clear hwB HMA HOA hRd
  refine (Take68 FA g gd sD2 sB2 [eA] _ 1 1 26 wB HMB.out ((sD0_fits.make 1).add sB1 eB) (by omega) rfl (by omega) HRd.out (fun e he => by
    rw [List.mem_singleton.1 he]
    exact ⟨by unfold I64; decide, by unfold I64; decide, by decide⟩)).mono ?_
  rintro e wC ⟨rfl, FC, hmC, hfC, hoC⟩
  rw [s3.1, s3.2.1]
  have HMC := Lib.hid hmC
  have HOC : Hid (Onl non w wC) := Lib.hid (HOB.out.trans hoC (fun k hk h => by have := HFA.out k h; omega))
  clear hmC hfC hoC HMB HOB HRd
  go_wp2_with fail
  refine (All70 FC g gd _ _ wC HMC.out).mono ?_
  rintro e wD ⟨oD, cD, rfl, hownD, hoD⟩
  rw [s3.2.2] at hownD ⊢
  have HOD := Lib.hid (HOC.out.trans hoD (fun _ _ h => h))
  have HOwn : Hid (Own wD wC.heap.size 42 3 oD 1 cD (es [eA])) := Lib.hid hownD
  rw [show (allOf 0 [[strA]]).length = 1 from rfl]
  clear hownD hoD HOC HMC
  obtain ⟨gD, ex, rfl, _, hbD, _, _, _⟩ := HOwn.out.shape (by omega)
  have d0 : wD.cell? ⟨gD, 0, none⟩ = some (.int .i64 0) := hbD.cell_pre (i := 0) rfl
  have d1 : wD.cell? ⟨gD, 1, none⟩ = some (.int .i64 0) := hbD.cell_pre (i := 1) rfl
  have d2 : wD.cell? ⟨gD, 2, none⟩ = some (.string ⟨#[97]⟩) := hbD.cell_pre (i := 2) rfl
  have hgd : Try.prog.eqGuardType Try.prog.depth 42 = false := by kernel_rfl
  have heq : ∀ wx, (binOp .eql 42 (.agg #[.int .i64 0, .int .i64 0, .string ⟨#[97]⟩]) (.agg #[.int .i64 0, .int .i64 0, .string ⟨#[97]⟩])).run Try.prog wx = .ok (.bool true) wx := fun wx => by
    rw [eql42, eqE_iff]; rfl
  clear hbD HOwn
  go_wp2
  go_ret
  exact ⟨rfl, HOD.out⟩
end Go.Proofs.Ytenngchidlfaeaa
