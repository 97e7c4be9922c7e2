/- A6: texts C9 C10 C11 P1 P2 P3 P4 C12 C13, joined. -/
import Derived.Test.YtenngchidlfaeaaA5
import Derived.Test.YtenngchidlfaeaaA3
import Derived.Deep.RegionHeld3
import Derived.Laws.StructEq
/- Models: the writing of a record, step by step; books. -/
namespace Go.Proofs.Ytenngchidlfaeaa
open Go.RowKit
open Rad (Dsk)

/-- a step of the writing of a record -/
inductive Stp where
  | wr (i : Nat) (s : ByteArray)
  | sy
def stp (D : Dsk) : Stp → Dsk
  | .wr i s => D.write (i : Int) s
  | .sy => D.sync
def stpE (D : Dsk) : Stp → Int
  | .wr i s => D.writeE (i : Int) s
  | .sy => D.syncE
/-- steps, until one fails -/
def runs (D : Dsk) : List Stp → Dsk
  | [] => D
  | s :: r => if stpE D s = 0 then runs (stp D s) r else stp D s
def runsE (D : Dsk) : List Stp → Int
  | [] => 0
  | s :: r => if stpE D s = 0 then runsE (stp D s) r else stpE D s
theorem runsE_app (a b : List Stp) : ∀ D, runsE D (a ++ b) = if runsE D a = 0 then runsE (runs D a) b else runsE D a := by
  induction a with
  | nil => intro D; simp [runs, runsE]
  | cons s r ih =>
    intro D
    show (if stpE D s = 0 then runsE (stp D s) (r ++ b) else stpE D s) = if (if stpE D s = 0 then runsE (stp D s) r else stpE D s) = 0 then runsE (if stpE D s = 0 then runs (stp D s) r else stp D s) b else (if stpE D s = 0 then runsE (stp D s) r else stpE D s)
    by_cases h : stpE D s = 0
    · simp only [if_pos h]; exact ih _
    · simp only [if_neg h]
theorem runs_app (a b : List Stp) : ∀ D, runs D (a ++ b) = if runsE D a = 0 then runs (runs D a) b else runs D a := by
  induction a with
  | nil => intro D; simp [runs, runsE]
  | cons s r ih =>
    intro D
    show (if stpE D s = 0 then runs (stp D s) (r ++ b) else stp D s) = if (if stpE D s = 0 then runsE (stp D s) r else stpE D s) = 0 then runs (if stpE D s = 0 then runs (stp D s) r else stp D s) b else (if stpE D s = 0 then runs (stp D s) r else stp D s)
    by_cases h : stpE D s = 0
    · simp only [if_pos h]; exact ih _
    · simp only [if_neg h]
/-- one more step -/
theorem runsE_snoc {D : Dsk} {a : List Stp} (h : runsE D a = 0) (s : Stp) : runsE D (a ++ [s]) = stpE (runs D a) s := by
  rw [runsE_app, if_pos h]
  show (if stpE (runs D a) s = 0 then 0 else stpE (runs D a) s) = _
  split
  · rename_i h; exact h.symm
  · rfl
theorem runs_snoc {D : Dsk} {a : List Stp} (h : runsE D a = 0) (s : Stp) : runs D (a ++ [s]) = stp (runs D a) s := by
  rw [runs_app, if_pos h]
  show (if stpE (runs D a) s = 0 then stp (runs D a) s else stp (runs D a) s) = _
  split <;> rfl
/-- a step that fails ends it -/
theorem runs_fail {D : Dsk} {a : List Stp} (h : runsE D a ≠ 0) (b : List Stp) : runs D (a ++ b) = runs D a ∧ runsE D (a ++ b) = runsE D a := by
  rw [runs_app, runsE_app, if_neg h, if_neg h]; exact ⟨rfl, rfl⟩
theorem runs_fail_at {D : Dsk} {a b : List Stp} {s : Stp} (h : runsE D a = 0) (h2 : stpE (runs D a) s ≠ 0) : runs D (a ++ s :: b) = stp (runs D a) s ∧ runsE D (a ++ s :: b) = stpE (runs D a) s := by
  have e : a ++ s :: b = (a ++ [s]) ++ b := by simp
  have := runs_fail (D := D) (a := a ++ [s]) (by rw [runsE_snoc h]; exact h2) b
  rw [e, this.1, this.2, runs_snoc h, runsE_snoc h]; exact ⟨rfl, rfl⟩

/-- the numbers of a disk stay small -/
def Fits (D : Dsk) (n : Nat) : Prop := D.falls ≤ n ∧ D.waits.length ≤ n ∧ D.armed < 9223372036854775808
theorem Fits.mono {D : Dsk} {n m : Nat} (h : Fits D n) (hm : n ≤ m) : Fits D m := ⟨Nat.le_trans h.1 hm, Nat.le_trans h.2.1 hm, h.2.2⟩
theorem fits_strike {D : Dsk} {n m : Nat} (h1 : D.falls ≤ n) (h2 : D.waits.length ≤ m) (h3 : D.armed < 9223372036854775808) : D.strike.falls ≤ n + 1 ∧ D.strike.waits.length ≤ m ∧ D.strike.armed < 9223372036854775808 := by
  rw [Dsk.strike_waits]
  refine ⟨?_, h2, ?_⟩
  · unfold Dsk.strike Dsk.fall; (repeat' split) <;> (try dsimp only) <;> omega
  · unfold Dsk.strike Dsk.fall; (repeat' split) <;> (try dsimp only) <;> omega
theorem Fits.write {D : Dsk} {n : Nat} (h : Fits D n) (i : Int) (s : ByteArray) : Fits (D.write i s) (n + 1) := by
  unfold Dsk.write
  have h1 := h.mono (Nat.le_succ n)
  (repeat' split) <;> try exact h1
  exact fits_strike (D := D.put i.toNat s) (m := n + 1) h.1 (by simp [Dsk.put]; exact h.2.1) h.2.2
theorem Fits.sync {D : Dsk} {n : Nat} (h : Fits D n) : Fits D.sync (n + 1) := by
  unfold Dsk.sync
  have h1 := h.mono (Nat.le_succ n)
  have h2 := fits_strike h.1 (Nat.le_succ_of_le h.2.1) h.2.2
  (repeat' split)
  · exact h1
  · exact h2
  · exact ⟨h2.1, by simp [Dsk.settle], h2.2.2⟩
theorem Fits.stp {D : Dsk} {n : Nat} (h : Fits D n) (s : Stp) : Fits (stp D s) (n + 1) := by
  cases s with
  | wr i s => exact h.write _ _
  | sy => exact h.sync
theorem Fits.runs {l : List Stp} : ∀ {D : Dsk} {n : Nat}, Fits D n → Fits (runs D l) (n + l.length) := by
  induction l with
  | nil => intro D n h; exact h
  | cons s r ih =>
    intro D n h
    show Fits (if stpE D s = 0 then Go.Proofs.Ytenngchidlfaeaa.runs (Go.Proofs.Ytenngchidlfaeaa.stp D s) r else Go.Proofs.Ytenngchidlfaeaa.stp D s) (n + (r.length + 1))
    split
    · exact (ih (h.stp s)).mono (by omega)
    · exact (h.stp s).mono (by omega)
theorem write_len (D : Dsk) (i : Int) (s : ByteArray) : (D.write i s).safe.length = D.safe.length := by
  unfold Dsk.write; (repeat' split) <;> try rfl
  rw [Dsk.strike_safe]; rfl
theorem sync_len (D : Dsk) : D.sync.safe.length = D.safe.length := by
  unfold Dsk.sync; (repeat' split) <;> try rfl
  · rw [Dsk.strike_safe]
  · show (Rad.lay _ _).length = _; rw [Rad.lay_length, Dsk.strike_safe]
theorem stp_len (D : Dsk) (s : Stp) : (stp D s).safe.length = D.safe.length := by
  cases s with
  | wr i s => exact write_len _ _ _
  | sy => exact sync_len _
theorem runs_len (l : List Stp) : ∀ D, (runs D l).safe.length = D.safe.length := by
  induction l with
  | nil => intro D; rfl
  | cons s r ih =>
    intro D
    show (if stpE D s = 0 then runs (stp D s) r else stp D s).safe.length = _
    split
    · rw [ih, stp_len]
    · rw [stp_len]

/-- the steps that write the record of p at sector a of a disk of n sectors -/
def recW (a : Nat) (p : ByteArray) : List Stp := (List.range (sectorsOf p.size - 1)).map fun i => .wr (a + 1 + i) (sb (Rad.sect (bl p) (i + 1)))
def recZ (n a : Nat) (p : ByteArray) : List Stp := if a + sectorsOf p.size < n then [.wr (a + sectorsOf p.size) (zer 64)] else []
def recS (n a : Nat) (p : ByteArray) : List Stp := recW a p ++ recZ n a p ++ [.sy, .wr a (sb (Rad.sect (bl p) 0)), .sy]
/-- a record written behind sector a: the disk, the error -/
def keepD (D : Dsk) (a : Nat) (p : ByteArray) : Dsk := if D.safe.length < a + sectorsOf p.size then D else runs D (recS D.safe.length a p)
def keepE (D : Dsk) (a : Nat) (p : ByteArray) : Int := if D.safe.length < a + sectorsOf p.size then 94 else runsE D (recS D.safe.length a p)
theorem recS_length (n a : Nat) (p : ByteArray) : (recS n a p).length ≤ sectorsOf p.size + 4 := by
  unfold recS recW recZ; split <;> simp <;> omega
theorem Fits.keep {D : Dsk} {n : Nat} (h : Fits D n) (a : Nat) (p : ByteArray) : Fits (keepD D a p) (n + (sectorsOf p.size + 4)) := by
  unfold keepD; split
  · exact h.mono (by omega)
  · exact h.runs.mono (by have := recS_length D.safe.length a p; omega)
theorem keep_len (D : Dsk) (a : Nat) (p : ByteArray) : (keepD D a p).safe.length = D.safe.length := by
  unfold keepD; split
  · rfl
  · exact runs_len _ _
end Go.Proofs.Ytenngchidlfaeaa
/- Words for the program's book: its model and its place in memory. -/
namespace Go.Proofs.Ytenngchidlfaeaa
open Go.RowKit
open Rad (Dsk)

theorem Blk.ne_ {w : World} {g g' : Nat} {t t' : TypeId} {cs cs' : List Value} (h : Blk w g t cs) (h' : Blk w g' t' cs') (ht : t ≠ t') : g ≠ g' := by
  rintro rfl
  unfold Blk at h h'
  rw [h] at h'
  simp only [Option.some.injEq, Obj.cells.injEq] at h'
  exact ht h'.2.1
theorem Own.typ {w : World} {B : Nat} {e : TypeId} {size : Nat} {o : Option Addr} {n c : Nat} {xs : List Value} (h : Own w B e size o n c xs) {k : Nat} (hk : ownOf o k) : ∃ cs, Blk w k e cs := by
  rcases h.2 with ⟨hv, _⟩ | ⟨g, cap, cur, hv, hb, hg, r⟩
  · simp only [Value.slice.injEq] at hv; obtain ⟨rfl, _⟩ := hv; simp [ownOf] at hk
  · simp only [Value.slice.injEq] at hv
    obtain ⟨rfl, _, _⟩ := hv
    have : g = k := by simpa [ownOf] using hk
    subst this
    exact ⟨cur.toList, by unfold Blk; rw [hg]⟩
theorem Own.ne_blk {w : World} {B : Nat} {e t : TypeId} {size : Nat} {o : Option Addr} {n c g : Nat} {xs cs : List Value} (h : Own w B e size o n c xs) (hb : Blk w g t cs) (ht : e ≠ t) : ¬ ownOf o g := by
  intro hk; obtain ⟨cs', h'⟩ := h.typ hk; exact h'.ne_ hb ht rfl
theorem Own.ne_own {w : World} {B B' : Nat} {e e' : TypeId} {size size' : Nat} {o o' : Option Addr} {n c n' c' : Nat} {xs xs' : List Value} (h : Own w B e size o n c xs) (h' : Own w B' e' size' o' n' c' xs') (ht : e ≠ e') {k : Nat} (hk : ownOf o k) : ¬ ownOf o' k := by
  intro hk'; obtain ⟨cs, hb⟩ := h.typ hk; exact h'.ne_blk hb (fun e => ht e.symm) hk'

/-- a message -/
structure Ent where
  o : Int
  n : Int
  b : ByteArray
/-- messages as cells -/
def es (l : List Ent) : List Value := l.flatMap fun e => [.int .i64 e.o, .int .i64 e.n, .string e.b]
theorem es_cons (e : Ent) (l : List Ent) : es (e :: l) = .int .i64 e.o :: .int .i64 e.n :: .string e.b :: es l := rfl
theorem es_length (l : List Ent) : (es l).length = l.length * 3 := by
  induction l with
  | nil => rfl
  | cons e r ih => rw [es_cons]; simp only [List.length_cons, ih]; omega
theorem es_append (l m : List Ent) : es (l ++ m) = es l ++ es m := by simp [es]
theorem es_get {e : Ent} : ∀ {l : List Ent} {j : Nat}, l[j]? = some e → (es l)[j * 3]? = some (.int .i64 e.o) ∧ (es l)[j * 3 + 1]? = some (.int .i64 e.n) ∧ (es l)[j * 3 + 2]? = some (.string e.b)
  | [], j, h => by simp at h
  | c :: r, 0, h => by
    simp only [List.getElem?_cons_zero, Option.some.injEq] at h
    subst h; exact ⟨rfl, rfl, rfl⟩
  | c :: r, j + 1, h => by
    have h' : r[j]? = some e := by simpa using h
    have := es_get h'
    rw [show (j + 1) * 3 = j * 3 + 1 + 1 + 1 from by omega]
    exact this
theorem es_one (l : List Ent) : ∀ u ∈ es l, u.oneCell' = true := by
  intro u hu
  obtain ⟨e, _, he⟩ := List.mem_flatMap.1 hu
  simp only [List.mem_cons, List.not_mem_nil, or_false] at he
  rcases he with rfl | rfl | rfl <;> rfl
theorem es_set (e : Ent) : ∀ (l : List Ent) (j : Nat), j < l.length →
    (((es l).set (j * 3) (.int .i64 e.o)).set (j * 3 + 1) (.int .i64 e.n)).set (j * 3 + 2) (.string e.b) = es (l.set j e)
  | [], j, h => by simp at h
  | c :: r, 0, h => rfl
  | c :: r, j + 1, h => by
    have h' : j < r.length := by simpa using h
    have := es_set e r j h'
    rw [show (j + 1) * 3 = j * 3 + 1 + 1 + 1 from by omega]
    rw [List.set_cons_succ, es_cons c (r.set j e), ← this, es_cons]
    rfl
/-- messages of an office, from a number on -/
def ents (p : Nat) : Nat → List ByteArray → List Ent
  | _, [] => []
  | i, b :: r => ⟨p, i, b⟩ :: ents p (i + 1) r
theorem ents_length (p : Nat) : ∀ (l : List ByteArray) (i : Nat), (ents p i l).length = l.length
  | [], _ => rfl
  | _ :: r, i => by show (ents p (i + 1) r).length + 1 = _; rw [ents_length p r]; rfl
theorem ents_get (p : Nat) {b : ByteArray} : ∀ {l : List ByteArray} {i j : Nat}, l[j]? = some b → (ents p i l)[j]? = some ⟨p, ((i + j : Nat) : Int), b⟩
  | [], i, j, h => by simp at h
  | c :: r, i, 0, h => by
    simp only [List.getElem?_cons_zero, Option.some.injEq] at h
    subst h; rfl
  | c :: r, i, j + 1, h => by
    have h' : r[j]? = some b := by simpa using h
    have := ents_get p (i := i + 1) h'
    rw [show i + (j + 1) = i + 1 + j from by omega]
    exact this
theorem ents_snoc (p : Nat) (b : ByteArray) : ∀ (l : List ByteArray) (i : Nat), ents p i (l ++ [b]) = ents p i l ++ [⟨p, ((i + l.length : Nat) : Int), b⟩]
  | [], i => rfl
  | c :: r, i => by
    show _ :: ents p (i + 1) (r ++ [b]) = _
    rw [ents_snoc p b r (i + 1)]
    simp [ents, Nat.add_assoc, Nat.add_comm 1]
theorem ents_set (p : Nat) (b : ByteArray) : ∀ (l : List ByteArray) (i j : Nat), j < l.length → (ents p i l).set j ⟨p, ((i + j : Nat) : Int), b⟩ = ents p i (l.set j b)
  | [], i, j, h => by simp at h
  | c :: r, i, 0, h => rfl
  | c :: r, i, j + 1, h => by
    have h' : j < r.length := by simpa using h
    have := ents_set p b r (i + 1) j h'
    rw [show i + (j + 1) = i + 1 + j from by omega]
    show _ :: _ = _ :: ents p (i + 1) (r.set j b)
    rw [← this]
/-- messages of an office as cells -/
def ecs (p : Nat) (i : Nat) (l : List ByteArray) : List Value := es (ents p i l)
theorem ecs_length (p : Nat) (l : List ByteArray) (i : Nat) : (ecs p i l).length = l.length * 3 := by rw [ecs, es_length, ents_length]
theorem ecs_get (p : Nat) {b : ByteArray} {l : List ByteArray} {j : Nat} (h : l[j]? = some b) :
    (ecs p 0 l)[j * 3]? = some (.int .i64 (p : Int)) ∧ (ecs p 0 l)[j * 3 + 1]? = some (.int .i64 (j : Int)) ∧ (ecs p 0 l)[j * 3 + 2]? = some (.string b) := by
  have := es_get (ents_get p (i := 0) h)
  unfold ecs
  simpa using this
theorem ecs_snoc (p : Nat) (b : ByteArray) (l : List ByteArray) : ecs p 0 (l ++ [b]) = ecs p 0 l ++ [.int .i64 (p : Int), .int .i64 (l.length : Int), .string b] := by
  unfold ecs
  rw [ents_snoc, es_append]
  simp [es]
theorem ecs_set (p : Nat) (b : ByteArray) (l : List ByteArray) (j : Nat) (h : j < l.length) :
    (((ecs p 0 l).set (j * 3) (.int .i64 (p : Int))).set (j * 3 + 1) (.int .i64 (j : Int))).set (j * 3 + 2) (.string b) = ecs p 0 (l.set j b) := by
  have h1 := es_set ⟨p, j, b⟩ (ents p 0 l) j (by rw [ents_length]; exact h)
  have h2 := ents_set p b l 0 j h
  rw [Nat.zero_add] at h2
  rw [h2] at h1
  exact h1

/-- a book: the messages' bodies of each office, the sector behind the last record, how often the power had gone off -/
structure Bk where
  logs : List (List ByteArray)
  pos : Nat
  falls : Nat
/-- the book's own cells -/
def bcs (gl c gd : Nat) (B : Bk) : List Value := [.slice (some ⟨gl, 0, none⟩) B.logs.length c, .pointer (some ⟨gd, 0, none⟩), .int .i64 (B.pos : Int), .int .i64 (B.falls : Int)]
def rowV (r : Option Addr × Nat) (l : List ByteArray) : Value := .slice r.1 l.length r.2
/-- the program's book, in memory -/
structure BkAt (w : World) (g gl c gd : Nat) (rows : List (Option Addr × Nat)) (B : Bk) : Prop where
  book : Blk w g 165 (bcs gl c gd B)
  logs : Blk w gl 46 (List.zipWith rowV rows B.logs)
  len : rows.length = B.logs.length
  row : ∀ (p : Nat) (l : List ByteArray) (r : Option Addr × Nat), B.logs[p]? = some l → rows[p]? = some r → Own w 0 42 3 r.1 l.length r.2 (ecs p 0 l)
  apart : ∀ (p q : Nat) (r s : Option Addr × Nat), p ≠ q → rows[p]? = some r → rows[q]? = some s → ∀ k, ownOf r.1 k → ¬ ownOf s.1 k
  in1 : B.logs.length ≤ 8
  in2 : ∀ l ∈ B.logs, l.length ≤ 64
  in3 : ∀ l ∈ B.logs, ∀ b ∈ l, b.size ≤ 1024
  in4 : B.pos ≤ 4096
  in5 : B.falls ≤ 1000000000
/-- the blocks that a book lies in -/
def bkOf (g gl : Nat) (rows : List (Option Addr × Nat)) : Nat → Prop := fun k => k = g ∨ k = gl ∨ ∃ r ∈ rows, ownOf r.1 k
theorem BkAt.onl {S : Nat → Prop} {w w' : World} {g gl c gd : Nat} {rows : List (Option Addr × Nat)} {B : Bk} (h : BkAt w g gl c gd rows B) (ho : Onl S w w') (hs : ∀ k, bkOf g gl rows k → ¬ S k) : BkAt w' g gl c gd rows B :=
  ⟨h.book.onl ho (hs _ (.inl rfl)), h.logs.onl ho (hs _ (.inr (.inl rfl))), h.len, fun p l r h1 h2 => (h.row p l r h1 h2).onl ho (fun k hk => hs k (.inr (.inr ⟨r, List.mem_of_getElem? h2, hk⟩))), h.apart, h.in1, h.in2, h.in3, h.in4, h.in5⟩
theorem BkAt.drw {w w' : World} {g gl c gd : Nat} {rows : List (Option Addr × Nat)} {B : Bk} (h : BkAt w g gl c gd rows B) (hd : Drw w w') : BkAt w' g gl c gd rows B := h.onl ((Onl.refl non w).of_drw hd) (fun _ _ h => h)
theorem BkAt.rowOf {w : World} {g gl c gd : Nat} {rows : List (Option Addr × Nat)} {B : Bk} (h : BkAt w g gl c gd rows B) {k : Nat} (hk : ∃ r ∈ rows, ownOf r.1 k) : ∃ cs, Blk w k 42 cs := by
  obtain ⟨r, hr, ho⟩ := hk
  obtain ⟨p, hp⟩ := List.getElem?_of_mem hr
  have hpl : p < B.logs.length := by rw [← h.len]; exact (List.getElem?_eq_some_iff.1 hp).1
  exact (h.row p _ r (List.getElem?_eq_getElem hpl) hp).typ ho
theorem BkAt.typ {w : World} {g gl c gd : Nat} {rows : List (Option Addr × Nat)} {B : Bk} (h : BkAt w g gl c gd rows B) {k : Nat} (hk : bkOf g gl rows k) : ∃ t cs, Blk w k t cs ∧ (t = 165 ∨ t = 46 ∨ t = 42) := by
  rcases hk with rfl | rfl | hk
  · exact ⟨_, _, h.book, .inl rfl⟩
  · exact ⟨_, _, h.logs, .inr (.inl rfl)⟩
  · obtain ⟨cs, hb⟩ := h.rowOf hk; exact ⟨_, cs, hb, .inr (.inr rfl)⟩
theorem BkAt.lt {w : World} {g gl c gd : Nat} {rows : List (Option Addr × Nat)} {B : Bk} (h : BkAt w g gl c gd rows B) {k : Nat} (hk : bkOf g gl rows k) : k < w.heap.size := by
  obtain ⟨_, _, hb, _⟩ := h.typ hk; exact hb.lt
theorem DskAt.typ {w : World} {g gs cs : Nat} {o : Option Addr} {cw : Nat} {D : Dsk} (h : DskAt w g gs cs o cw D) {k : Nat} (hk : dskOf g gs o k) : ∃ t cs, Blk w k t cs ∧ (t = 149 ∨ t = 9 ∨ t = 157) := by
  rcases hk with rfl | rfl | hk
  · exact ⟨_, _, h.disk, .inl rfl⟩
  · exact ⟨_, _, h.safe, .inr (.inl rfl)⟩
  · obtain ⟨cs, hb⟩ := h.waits.typ hk; exact ⟨_, cs, hb, .inr (.inr rfl)⟩
theorem DskAt.lt {w : World} {g gs cs : Nat} {o : Option Addr} {cw : Nat} {D : Dsk} (h : DskAt w g gs cs o cw D) {k : Nat} (hk : dskOf g gs o k) : k < w.heap.size := by
  obtain ⟨_, _, hb, _⟩ := h.typ hk; exact hb.lt
theorem dsk_bk {w : World} {gd gs cs : Nat} {o : Option Addr} {cw : Nat} {D : Dsk} {g gl c gd' : Nat} {rows : List (Option Addr × Nat)} {B : Bk} (h : DskAt w gd gs cs o cw D) (h' : BkAt w g gl c gd' rows B) {k : Nat} (hk : dskOf gd gs o k) : ¬ bkOf g gl rows k := by
  intro hk'
  obtain ⟨t, cs1, hb, ht⟩ := h.typ hk
  obtain ⟨t', cs2, hb', ht'⟩ := h'.typ hk'
  refine hb.ne_ hb' ?_ rfl
  rcases ht with rfl | rfl | rfl <;> rcases ht' with rfl | rfl | rfl <;> decide
theorem BkAt.c0 {w : World} {g gl c gd : Nat} {rows : List (Option Addr × Nat)} {B : Bk} (h : BkAt w g gl c gd rows B) : w.cell? ⟨g, 0, none⟩ = some (.slice (some ⟨gl, 0, none⟩) B.logs.length c) := h.book.cell' rfl
theorem BkAt.c1 {w : World} {g gl c gd : Nat} {rows : List (Option Addr × Nat)} {B : Bk} (h : BkAt w g gl c gd rows B) : w.cell? ⟨g, 1, none⟩ = some (.pointer (some ⟨gd, 0, none⟩)) := h.book.cell' rfl
theorem BkAt.c2 {w : World} {g gl c gd : Nat} {rows : List (Option Addr × Nat)} {B : Bk} (h : BkAt w g gl c gd rows B) : w.cell? ⟨g, 2, none⟩ = some (.int .i64 (B.pos : Int)) := h.book.cell' rfl
theorem BkAt.c3 {w : World} {g gl c gd : Nat} {rows : List (Option Addr × Nat)} {B : Bk} (h : BkAt w g gl c gd rows B) : w.cell? ⟨g, 3, none⟩ = some (.int .i64 (B.falls : Int)) := h.book.cell' rfl
theorem BkAt.cr {w : World} {g gl c gd : Nat} {rows : List (Option Addr × Nat)} {B : Bk} (h : BkAt w g gl c gd rows B) {p : Nat} {l : List ByteArray} {r : Option Addr × Nat} (hl : B.logs[p]? = some l) (hr : rows[p]? = some r) : w.cell? ⟨gl, p, none⟩ = some (.slice r.1 l.length r.2) :=
  h.logs.cell' (by simp [List.getElem?_zipWith, hl, hr, rowV])

/-- a book on its disk -/
def Mach (w : World) (F : Nat → Prop) (g gd : Nat) (D : Dsk) (B : Bk) : Prop :=
  ∃ gl c rows gs cs o cw, DskAt w gd gs cs o cw D ∧ BkAt w g gl c gd rows B ∧ ∀ k, F k ↔ (dskOf gd gs o k ∨ bkOf g gl rows k)
theorem Mach.lt {w : World} {F : Nat → Prop} {g gd : Nat} {D : Dsk} {B : Bk} (h : Mach w F g gd D B) {k : Nat} (hk : F k) : k < w.heap.size := by
  obtain ⟨gl, c, rows, gs, cs, o, cw, h1, h2, h3⟩ := h
  rcases (h3 k).1 hk with hk | hk
  · exact h1.lt hk
  · exact h2.lt hk
theorem Mach.onl {S : Nat → Prop} {w w' : World} {F : Nat → Prop} {g gd : Nat} {D : Dsk} {B : Bk} (h : Mach w F g gd D B) (ho : Onl S w w') (hs : ∀ k, F k → ¬ S k) : Mach w' F g gd D B := by
  obtain ⟨gl, c, rows, gs, cs, o, cw, h1, h2, h3⟩ := h
  exact ⟨gl, c, rows, gs, cs, o, cw, h1.onl ho (fun k hk => hs k ((h3 k).2 (.inl hk))), h2.onl ho (fun k hk => hs k ((h3 k).2 (.inr hk))), h3⟩
/-- what a step on a machine leaves -/
def Went (w : World) (F : Nat → Prop) (g gd : Nat) (w' : World) (D : Dsk) (B : Bk) : Prop :=
  ∃ F', Mach w' F' g gd D B ∧ (∀ k, F' k → F k ∨ w.heap.size ≤ k) ∧ Onl F w w'
theorem Went.of {w : World} {F : Nat → Prop} {g gd : Nat} {w' : World} {D : Dsk} {B : Bk} (h : Mach w F g gd D B) (ho : Onl non w w') : Went w F g gd w' D B :=
  ⟨F, h.onl ho (fun _ _ h => h), fun _ hk => .inl hk, ho.mono (fun _ h => h.elim)⟩
theorem Went.andThen {w w1 w2 : World} {F : Nat → Prop} {g gd : Nat} {D D' : Dsk} {B B' : Bk} (h : Went w F g gd w1 D B) (k : ∀ F', Mach w1 F' g gd D B → Went w1 F' g gd w2 D' B') : Went w F g gd w2 D' B' := by
  obtain ⟨F1, hm, hf, ho⟩ := h
  obtain ⟨F2, hm2, hf2, ho2⟩ := k F1 hm
  refine ⟨F2, hm2, fun k hk => ?_, ho.trans ho2 (fun k hk hk1 => ?_)⟩
  · rcases hf2 k hk with h | h
    · exact hf k h
    · exact .inr (Nat.le_trans ho.size h)
  · rcases hf k hk1 with h | h
    · exact h
    · omega
end Go.Proofs.Ytenngchidlfaeaa
/- Models: what is done with books. -/
namespace Go.Proofs.Ytenngchidlfaeaa
open Go.RowKit
open Rad (Dsk)

instance (o n : Int) (m : Nat) : Decidable (OkE o n m) := by unfold OkE; infer_instance
def Ent.ok (e : Ent) : Bool := decide (OkE e.o e.n e.b.size)
/-- the order of strings -/
def blt (a b : ByteArray) : Bool := Op.bytesLess a.toList b.toList
def Bk.log (B : Bk) (p : Nat) : List ByteArray := B.logs.getD p []
/-- does a body change place n of office p -/
def Bk.fresh (B : Bk) (p n : Nat) (b : ByteArray) : Bool := decide (p < B.logs.length) && (decide (n = (B.log p).length) || (decide (n < (B.log p).length) && blt b ((B.log p).getD n ⟨#[]⟩)))
def Bk.change (B : Bk) (p n : Nat) (b : ByteArray) : Bk := { B with logs := B.logs.set p (if n = (B.log p).length then B.log p ++ [b] else (B.log p).set n b) }
/-- a message written: the disk, the error, the book -/
def putD (D : Dsk) (B : Bk) (p n : Nat) (b : ByteArray) : Dsk := keepD D B.pos (epay p n b)
def putE (D : Dsk) (B : Bk) (p n : Nat) (b : ByteArray) : Int := keepE D B.pos (epay p n b)
def putB (D : Dsk) (B : Bk) (p n : Nat) (b : ByteArray) : Bk := if putE D B p n b = 0 then { B.change p n b with pos := B.pos + sectorsOf (epay p n b).size } else B
/-- Add: is the message written, the error if it is not -/
def addW (D : Dsk) (B : Bk) (e : Ent) : Bool := decide (B.falls = D.falls) && (e.ok && decide (e.o.toNat < B.logs.length)) && decide (e.n.toNat = (B.log e.o.toNat).length)
def addX (D : Dsk) (B : Bk) (e : Ent) : Int := if B.falls ≠ D.falls then 93 else if e.ok && decide (e.o.toNat < B.logs.length) then (if (B.log e.o.toNat)[e.n.toNat]? = some e.b then 0 else 92) else 92
def addD (D : Dsk) (B : Bk) (e : Ent) : Dsk := if addW D B e then putD D B e.o.toNat e.n.toNat e.b else D
def addB (D : Dsk) (B : Bk) (e : Ent) : Bk := if addW D B e then putB D B e.o.toNat e.n.toNat e.b else B
def addE (D : Dsk) (B : Bk) (e : Ent) : Int := if addW D B e then putE D B e.o.toNat e.n.toNat e.b else addX D B e
/-- the least body that a list has for place n of office p -/
def better (a : Option ByteArray) (p n : Nat) (e : Ent) : Option ByteArray :=
  if e.ok && decide (e.o = (p : Int)) && decide (e.n = (n : Int)) then (match a with | none => some e.b | some b => if blt e.b b then some e.b else some b) else a
def bestOf (l : List Ent) (p n : Nat) : Option ByteArray := l.foldl (fun a e => better a p n e) none
/-- Take, place by place: the disk, the book, how many, the error -/
structure Tk where
  D : Dsk
  B : Bk
  n : Int
  e : Int
def takes (l : List Ent) (D : Dsk) (B : Bk) (n : Int) : List (Nat × Nat) → Tk
  | [] => ⟨D, B, n, 0⟩
  | q :: r => match bestOf l q.1 q.2 with
    | none => takes l D B n r
    | some b => if B.fresh q.1 q.2 b then (if putE D B q.1 q.2 b = 0 then takes l (putD D B q.1 q.2 b) (putB D B q.1 q.2 b) (n + 1) r else ⟨putD D B q.1 q.2 b, B, 0, putE D B q.1 q.2 b⟩) else takes l D B n r
def places (m : Nat) : List (Nat × Nat) := (List.range m).flatMap fun p => (List.range 65).map fun n => (p, n)
def takeOf (l : List Ent) (D : Dsk) (B : Bk) : Tk := if B.falls ≠ D.falls then ⟨D, B, 0, 93⟩ else takes l D B 0 (places B.logs.length)
/-- Make -/
def newB (D : Dsk) (m : Nat) : Bk := ⟨List.replicate m [], 0, D.falls⟩
def makeE (D : Dsk) (m : Nat) : Int := if D.off then 93 else keepE D 0 (bpay m)
def makeD (D : Dsk) (m : Nat) : Dsk := if D.off then D else keepD D 0 (bpay m)
def makeB (D : Dsk) (m : Nat) : Bk := { newB D m with pos := 1 }
/-- All -/
def allOf : Nat → List (List ByteArray) → List Ent
  | _, [] => []
  | p, l :: r => ents p 0 l ++ allOf (p + 1) r
end Go.Proofs.Ytenngchidlfaeaa
/- Plain laws: a disk that does not lose its power. -/
namespace Go.Proofs.Ytenngchidlfaeaa
open Go.RowKit
open Rad (Dsk)

/-- the power is on and will not go off -/
def Calm (D : Dsk) : Prop := D.off = false ∧ D.armed = 0
theorem Calm.strike {D : Dsk} (h : Calm D) : D.strike = D ∧ D.hit = false := by
  obtain ⟨h1, h2⟩ := h
  constructor
  · unfold Dsk.strike; rw [if_pos h2]
  · unfold Dsk.hit; rw [h2]; rfl
theorem Calm.put {D : Dsk} (h : Calm D) (i : Nat) (s : ByteArray) : Calm (D.put i s) := h
theorem Calm.write {D : Dsk} (h : Calm D) {i : Nat} {s : ByteArray} (hi : i < D.safe.length) (hs : s.size = 64) : D.writeE (i : Int) s = 0 ∧ D.write (i : Int) s = D.put i s := by
  have h1 : (0 : Int) ≤ (i : Int) ∧ (i : Int) < (D.safe.length : Int) := by omega
  unfold Dsk.writeE Dsk.write
  simp only [h.1, if_pos h1, if_pos hs, h.strike.2, (h.put i s).strike.1, Int.toNat_natCast]
  exact ⟨rfl, rfl⟩
theorem Calm.sync {D : Dsk} (h : Calm D) : D.syncE = 0 ∧ D.sync = D.settle D.waits := by
  unfold Dsk.syncE Dsk.sync
  simp only [h.1, h.strike.2, h.strike.1]
  exact ⟨rfl, rfl⟩
/-- a step that lies in the disk -/
def Stp.inD (n : Nat) : Stp → Prop
  | .wr i s => i < n ∧ s.size = 64
  | .sy => True
theorem Calm.stp {D : Dsk} (h : Calm D) {s : Stp} (hs : s.inD D.safe.length) : stpE D s = 0 ∧ Calm (stp D s) ∧ (stp D s).falls = D.falls := by
  cases s with
  | wr i s =>
    have := h.write hs.1 hs.2
    exact ⟨this.1, by show Calm (D.write _ _) ∧ (D.write _ _).falls = _; rw [this.2]; exact ⟨h.put _ _, rfl⟩⟩
  | sy =>
    have := h.sync
    exact ⟨this.1, by show Calm D.sync ∧ D.sync.falls = _; rw [this.2]; exact ⟨h, rfl⟩⟩
theorem Calm.runs {l : List Stp} : ∀ {D : Dsk}, Calm D → (∀ s ∈ l, s.inD D.safe.length) → runsE D l = 0 ∧ Calm (Go.Proofs.Ytenngchidlfaeaa.runs D l) ∧ (Go.Proofs.Ytenngchidlfaeaa.runs D l).falls = D.falls := by
  induction l with
  | nil => intro D h _; exact ⟨rfl, h, rfl⟩
  | cons s r ih =>
    intro D h hs
    have h1 := h.stp (hs s (by simp))
    have h2 := ih h1.2.1 (fun t ht => by rw [stp_len]; exact hs t (by simp [ht]))
    show (if stpE D s = 0 then runsE (Go.Proofs.Ytenngchidlfaeaa.stp D s) r else stpE D s) = 0 ∧ Calm (if stpE D s = 0 then Go.Proofs.Ytenngchidlfaeaa.runs (Go.Proofs.Ytenngchidlfaeaa.stp D s) r else Go.Proofs.Ytenngchidlfaeaa.stp D s) ∧ _
    rw [if_pos h1.1, if_pos h1.1]
    refine ⟨h2.1, h2.2.1, ?_⟩
    show (if stpE D s = 0 then Go.Proofs.Ytenngchidlfaeaa.runs (Go.Proofs.Ytenngchidlfaeaa.stp D s) r else Go.Proofs.Ytenngchidlfaeaa.stp D s).falls = _
    rw [if_pos h1.1, h2.2.2, h1.2.2]
theorem zer_size (n : Nat) : (zer n).size = n := by rw [zer, sb_size, List.length_replicate]
theorem recS_inD {n a : Nat} {p : ByteArray} (h : a + sectorsOf p.size ≤ n) : ∀ s ∈ recS n a p, s.inD n := by
  have hs : 1 ≤ sectorsOf p.size := by unfold sectorsOf; omega
  intro s hm
  unfold recS recW recZ at hm
  simp only [List.mem_append, List.mem_cons, List.not_mem_nil, or_false] at hm
  rcases hm with (hm | hm) | hm
  · obtain ⟨i, hi, rfl⟩ := List.mem_map.1 hm
    have := List.mem_range.1 hi
    exact ⟨by omega, by rw [sb_size, Rad.sect_length]⟩
  · split at hm
    · rename_i hlt
      rw [List.mem_singleton.1 hm]
      exact ⟨hlt, zer_size 64⟩
    · cases hm
  · rcases hm with rfl | rfl | rfl
    · trivial
    · exact ⟨by omega, by rw [sb_size, Rad.sect_length]⟩
    · trivial
theorem Calm.keep {D : Dsk} (h : Calm D) {a : Nat} {p : ByteArray} (hf : a + sectorsOf p.size ≤ D.safe.length) : keepE D a p = 0 ∧ Calm (keepD D a p) ∧ (keepD D a p).falls = D.falls := by
  have h1 := h.runs (recS_inD hf)
  unfold keepE keepD
  rw [if_neg (by omega), if_neg (by omega)]
  exact h1
end Go.Proofs.Ytenngchidlfaeaa
/- Plain laws: what a row of an office becomes when messages are taken. -/
namespace Go.Proofs.Ytenngchidlfaeaa
open Go.RowKit
open Rad (Dsk)

/-- the lesser of two bodies that may be there -/
def lesser : Option ByteArray → Option ByteArray → Option ByteArray
  | none, b => b
  | some a, none => some a
  | some a, some b => if blt b a then some b else some a
/-- a function on numbers up to the first gap -/
def Solid (H : Nat → Option ByteArray) (n : Nat) : Prop := ∀ m, m ≤ n → H m ≠ none
def rowStep (f : Nat → Option ByteArray) (r : List ByteArray) (n : Nat) : List ByteArray :=
  match f n with
  | none => r
  | some b => if n = r.length then r ++ [b] else if n < r.length ∧ blt b (r.getD n ⟨#[]⟩) = true then r.set n b else r
def rowTake (f : Nat → Option ByteArray) (r : List ByteArray) (k : Nat) : List ByteArray := (List.range k).foldl (rowStep f) r
theorem rowTake_succ (f : Nat → Option ByteArray) (r : List ByteArray) (k : Nat) : rowTake f r (k + 1) = rowStep f (rowTake f r k) k := by
  unfold rowTake; rw [List.range_succ, List.foldl_append]; rfl
theorem solid_of_lt (f : Nat → Option ByteArray) (r : List ByteArray) {n : Nat} (h : n < r.length) : Solid (fun m => lesser r[m]? (f m)) n := by
  intro m hm
  have : r[m]? = some r[m] := List.getElem?_eq_getElem (by omega)
  simp only [this]
  cases f m with
  | none => simp [lesser]
  | some b => simp only [lesser]; split <;> simp
open Classical in
/-- place by place -/
theorem rowTake_get (f : Nat → Option ByteArray) (r : List ByteArray) : ∀ (k n : Nat), (rowTake f r k)[n]? = if n < k then (if Solid (fun m => lesser r[m]? (f m)) n then lesser r[n]? (f n) else none) else r[n]? := by
  intro k
  induction k with
  | zero => intro n; rfl
  | succ k ih =>
    intro n
    rw [rowTake_succ]
    generalize hR : rowTake f r k = R at ih
    have hk := ih k
    rw [if_neg (by omega)] at hk
    -- the length of R
    have hlen : r[k]? = none → (R.length = k ↔ ∀ m, m < k → Solid (fun m => lesser r[m]? (f m)) m) := by
      intro hn
      have hRk : R.length ≤ k := by
        rw [hn] at hk; exact List.getElem?_eq_none_iff.1 hk
      constructor
      · intro hl m hm
        have h1 := ih m
        rw [if_pos hm, List.getElem?_eq_getElem (by omega)] at h1
        by_cases hs : Solid (fun m => lesser r[m]? (f m)) m
        · exact hs
        · rw [if_neg hs] at h1; cases h1
      · intro hs
        by_cases h0 : k = 0
        · omega
        · have h1 := ih (k - 1)
          have hs1 := hs (k - 1) (by omega)
          rw [if_pos (by omega), if_pos hs1] at h1
          have h2 := hs1 (k - 1) (Nat.le_refl _)
          simp only at h2
          rw [← h1] at h2
          have : k - 1 < R.length := by
            by_cases hlt : k - 1 < R.length
            · exact hlt
            · exact absurd (List.getElem?_eq_none (by omega)) h2
          omega
    unfold rowStep
    cases hf : f k with
    | none =>
      simp only
      by_cases hnk : n = k
      · subst hnk
        rw [hk, if_pos (by omega)]
        cases hr : r[n]? with
        | none =>
          rw [if_neg]
          intro hs
          have := hs n (Nat.le_refl _)
          simp [hr, hf, lesser] at this
        | some x =>
          rw [if_pos (solid_of_lt f r (List.getElem?_eq_some_iff.1 hr).1), hf]
          rfl
      · rw [ih n]
        by_cases h : n < k
        · rw [if_pos h, if_pos (show n < k + 1 by omega)]
        · rw [if_neg h, if_neg (by omega)]
    | some b =>
      simp only
      cases hr : r[k]? with
      | some x =>
        rw [hr] at hk
        have hkR : k < R.length := (List.getElem?_eq_some_iff.1 hk).1
        have hx : R.getD k ⟨#[]⟩ = x := by rw [List.getD_eq_getElem?_getD, hk]; rfl
        rw [if_neg (by omega), hx]
        by_cases hb : blt b x = true
        · rw [if_pos ⟨hkR, hb⟩, List.getElem?_set]
          by_cases hnk : n = k
          · subst hnk
            rw [if_pos rfl, if_pos hkR, if_pos (by omega), if_pos (solid_of_lt f r (List.getElem?_eq_some_iff.1 hr).1), hr, hf]
            simp [lesser, hb]
          · rw [if_neg (by omega), ih n]
            by_cases h : n < k
            · rw [if_pos h, if_pos (show n < k + 1 by omega)]
            · rw [if_neg h, if_neg (by omega)]
        · rw [if_neg (by intro h; exact hb h.2)]
          by_cases hnk : n = k
          · subst hnk
            rw [hk, if_pos (by omega), if_pos (solid_of_lt f r (List.getElem?_eq_some_iff.1 hr).1), hr, hf]
            simp [lesser, hb]
          · rw [ih n]
            by_cases h : n < k
            · rw [if_pos h, if_pos (show n < k + 1 by omega)]
            · rw [if_neg h, if_neg (by omega)]
      | none =>
        have hl := hlen hr
        rw [hr] at hk
        have hRk : R.length ≤ k := List.getElem?_eq_none_iff.1 hk
        by_cases hRl : k = R.length
        · rw [if_pos hRl, List.getElem?_append]
          have hs := hl.1 hRl.symm
          by_cases hnk : n = k
          · subst hnk
            rw [if_neg (by omega), show n - R.length = 0 from by omega, if_pos (by omega), if_pos, hr, hf]
            · rfl
            · intro m hm
              by_cases hmn : m = n
              · subst hmn; simp [hr, hf, lesser]
              · exact hs m (by omega) m (Nat.le_refl _)
          · by_cases h : n < k
            · rw [if_pos (by omega), ih n, if_pos h, if_pos (show n < k + 1 by omega)]
            · rw [if_neg (by omega), if_neg (by omega)]
              have : r.length ≤ k := List.getElem?_eq_none_iff.1 hr
              rw [List.getElem?_eq_none (by simp; omega), List.getElem?_eq_none (by omega)]
        · rw [if_neg hRl, if_neg (by omega)]
          by_cases hnk : n = k
          · subst hnk
            rw [hk, if_pos (by omega), if_neg]
            intro hs
            exact hRl (hl.2 (fun m hm m' hm' => hs m' (by omega))).symm
          · rw [ih n]
            by_cases h : n < k
            · rw [if_pos h, if_pos (show n < k + 1 by omega)]
            · rw [if_neg h, if_neg (by omega)]
end Go.Proofs.Ytenngchidlfaeaa
/- Plain laws: the order of strings; the least body of a list. -/
namespace Go.Proofs.Ytenngchidlfaeaa
open Go.RowKit
open Rad (Dsk)

theorem bless_irrefl : ∀ x : List UInt8, Op.bytesLess x x = false
  | [] => rfl
  | a :: r => by simp [Op.bytesLess, bless_irrefl r]
theorem bless_total : ∀ x y : List UInt8, Op.bytesLess x y = false → Op.bytesLess y x = false → x = y
  | [], [], _, _ => rfl
  | [], _ :: _, h, _ => by simp [Op.bytesLess] at h
  | _ :: _, [], _, h => by simp [Op.bytesLess] at h
  | a :: r, b :: s, h, k => by
    simp only [Op.bytesLess, Bool.or_eq_false_iff, Bool.and_eq_false_iff, decide_eq_false_iff_not] at h k
    have e : a = b := by
      have h1 := h.1; have h2 := k.1
      rw [UInt8.lt_iff_toNat_lt] at h1 h2
      exact UInt8.toNat_inj.1 (by omega)
    subst e
    simp only [beq_self_eq_true] at h k
    rw [bless_total r s (by rcases h.2 with h | h <;> simp_all) (by rcases k.2 with k | k <;> simp_all)]
theorem bless_trans : ∀ x y z : List UInt8, Op.bytesLess x y = true → Op.bytesLess y z = true → Op.bytesLess x z = true
  | x, y, [], _, h => by cases y <;> simp [Op.bytesLess] at h
  | [], y, c :: t, _, _ => by simp [Op.bytesLess]
  | a :: r, [], c :: t, h, _ => by simp [Op.bytesLess] at h
  | a :: r, b :: s, c :: t, h, k => by
    simp only [Op.bytesLess, Bool.or_eq_true, Bool.and_eq_true, decide_eq_true_eq, beq_iff_eq] at h k ⊢
    rcases h with h | ⟨rfl, h⟩
    · rcases k with k | ⟨rfl, _⟩
      · left
        rw [UInt8.lt_iff_toNat_lt] at h k ⊢
        omega
      · exact .inl h
    · rcases k with k | ⟨rfl, k⟩
      · exact .inl k
      · exact .inr ⟨rfl, bless_trans r s t h k⟩
theorem ba_toList_inj {a b : ByteArray} (h : a.toList = b.toList) : a = b := by
  rw [ByteArray.toList_eq, ByteArray.toList_eq] at h
  cases a; cases b
  simp only at h
  rw [Array.toList_inj.1 h]
theorem blt_irrefl (a : ByteArray) : blt a a = false := bless_irrefl _
theorem blt_total {a b : ByteArray} (h : blt a b = false) (k : blt b a = false) : a = b := ba_toList_inj (bless_total _ _ h k)
theorem blt_trans {a b c : ByteArray} (h : blt a b = true) (k : blt b c = true) : blt a c = true := bless_trans _ _ _ h k
theorem blt_asymm {a b : ByteArray} (h : blt a b = true) : blt b a = false := by
  cases hb : blt b a with
  | false => rfl
  | true => have := blt_trans h hb; rw [blt_irrefl] at this; exact this.symm
/-- not greater, transitive -/
theorem ble_trans {a b c : ByteArray} (h : blt b a = false) (k : blt c b = false) : blt c a = false := by
  cases hc : blt c a with
  | false => rfl
  | true =>
    cases hb : blt a b with
    | true => rw [blt_trans hc hb] at k; cases k
    | false => rw [blt_total h hb] at k; rw [hc] at k; cases k

/-- is a message a valid one about place n of office p -/
def Ent.at (e : Ent) (p n : Nat) : Bool := e.ok && decide (e.o = (p : Int)) && decide (e.n = (n : Int))
theorem better_eq (a : Option ByteArray) (p n : Nat) (e : Ent) : better a p n e = if e.at p n then lesser a (some e.b) else a := by
  unfold better Ent.at
  split
  · cases a <;> simp [lesser]
  · rfl
/-- least of a list -/
structure IsLeast (l : List Ent) (p n : Nat) (a : Option ByteArray) : Prop where
  none : a = .none → ∀ e ∈ l, e.at p n = false
  some : ∀ b, a = .some b → (∃ e ∈ l, e.at p n = true ∧ e.b = b) ∧ ∀ e ∈ l, e.at p n = true → blt e.b b = false
theorem bestOf_snoc (l : List Ent) (e : Ent) (p n : Nat) : bestOf (l ++ [e]) p n = better (bestOf l p n) p n e := by
  unfold bestOf; rw [List.foldl_append]; rfl
theorem least_snoc {l : List Ent} {p n : Nat} {a : Option ByteArray} (h : IsLeast l p n a) (e : Ent) : IsLeast (l ++ [e]) p n (better a p n e) := by
  rw [better_eq]
  cases he : e.at p n with
  | false =>
    simp only [Bool.false_eq_true, if_false]
    refine ⟨fun ha x hx => ?_, fun b hb => ?_⟩
    · rcases List.mem_append.1 hx with hx | hx
      · exact h.none ha x hx
      · rw [List.mem_singleton.1 hx]; exact he
    · obtain ⟨⟨y, hy, hy2⟩, h2⟩ := h.some b hb
      refine ⟨⟨y, by simp [hy], hy2⟩, fun x hx hxa => ?_⟩
      rcases List.mem_append.1 hx with hx | hx
      · exact h2 x hx hxa
      · rw [List.mem_singleton.1 hx, he] at hxa; cases hxa
  | true =>
    simp only [if_true]
    cases ha : a with
    | none =>
      refine ⟨fun hc => (by cases hc), fun b hb => ?_⟩
      have hb : e.b = b := by simpa [lesser] using hb
      refine ⟨⟨e, by simp, he, hb⟩, fun x hx hxa => ?_⟩
      rcases List.mem_append.1 hx with hx | hx
      · rw [h.none ha x hx] at hxa; cases hxa
      · rw [List.mem_singleton.1 hx, hb]; exact blt_irrefl _
    | some c =>
      obtain ⟨⟨y, hy, hya, hyb⟩, h2⟩ := h.some c ha
      refine ⟨fun hc => ?_, fun b hb => ?_⟩
      · unfold lesser at hc; simp only at hc; split at hc <;> cases hc
      · unfold lesser at hb
        simp only at hb
        split at hb
        · rename_i hlt
          have hb : e.b = b := by simpa using hb
          refine ⟨⟨e, by simp, he, hb⟩, fun x hx hxa => ?_⟩
          rcases List.mem_append.1 hx with hx | hx
          · rw [← hb]; exact ble_trans (b := c) (blt_asymm hlt) (h2 x hx hxa)
          · rw [List.mem_singleton.1 hx, hb]; exact blt_irrefl _
        · rename_i hlt
          have hb : c = b := by simpa using hb
          subst hb
          refine ⟨⟨y, by simp [hy], hya, hyb⟩, fun x hx hxa => ?_⟩
          rcases List.mem_append.1 hx with hx | hx
          · exact h2 x hx hxa
          · rw [List.mem_singleton.1 hx]; simpa using hlt
theorem bestOf_least (l : List Ent) (p n : Nat) : IsLeast l p n (bestOf l p n) := by
  suffices H : ∀ (m : List Ent) (r : List Ent), l = m ++ r → IsLeast m p n (bestOf m p n) by exact H l [] (by simp)
  intro m
  induction hk : m.length generalizing m with
  | zero =>
    intro r _
    have : m = [] := List.eq_nil_of_length_eq_zero hk
    subst this
    exact ⟨fun _ e he => (by cases he), fun b hb => (by cases hb)⟩
  | succ k ih =>
    intro r hr
    have hne : m ≠ [] := fun h => by rw [h] at hk; cases hk
    have hm := (List.dropLast_concat_getLast hne).symm
    have hl : m.dropLast.length = k := by simp [hk]
    rw [hm, bestOf_snoc]
    refine least_snoc (ih m.dropLast hl ([m.getLast hne] ++ r) ?_) _
    rw [hr, ← List.append_assoc, ← hm]
theorem IsLeast.unique {l m : List Ent} {p n : Nat} {a b : Option ByteArray} (h : IsLeast l p n a) (k : IsLeast m p n b) (hs : ∀ e, e ∈ l ↔ e ∈ m) : a = b := by
  cases ha : a with
  | none =>
    cases hb : b with
    | none => rfl
    | some c =>
      obtain ⟨⟨e, he, hea, _⟩, _⟩ := k.some c hb
      rw [h.none ha e ((hs e).2 he)] at hea; cases hea
  | some c =>
    obtain ⟨⟨e, he, hea, heb⟩, h2⟩ := h.some c ha
    cases hb : b with
    | none => rw [k.none hb e ((hs e).1 he)] at hea; cases hea
    | some d =>
      obtain ⟨⟨f, hf, hfa, hfb⟩, k2⟩ := k.some d hb
      have h3 := h2 f ((hs f).2 hf) hfa
      have k3 := k2 e ((hs e).1 he) hea
      rw [hfb] at h3; rw [heb] at k3
      rw [blt_total k3 h3]
/-- only what is in the list counts -/
theorem bestOf_same {l m : List Ent} (hs : ∀ e, e ∈ l ↔ e ∈ m) (p n : Nat) : bestOf l p n = bestOf m p n := (bestOf_least l p n).unique (bestOf_least m p n) hs
end Go.Proofs.Ytenngchidlfaeaa
/- Plain laws: Take on a disk that does not lose its power. -/
namespace Go.Proofs.Ytenngchidlfaeaa
open Go.RowKit
open Rad (Dsk)

def hasBest (l : List Ent) (q : Nat × Nat) : Bool := (bestOf l q.1 q.2).isSome
theorem hasBest_any (l : List Ent) (q : Nat × Nat) : hasBest l q = l.any (fun e => e.at q.1 q.2) := by
  have h := bestOf_least l q.1 q.2
  unfold hasBest
  cases hb : bestOf l q.1 q.2 with
  | none =>
    have := h.none hb
    symm
    simpa [List.any_eq_false] using this
  | some b =>
    obtain ⟨⟨e, he, hea, _⟩, _⟩ := h.some b hb
    symm
    exact List.any_eq_true.2 ⟨e, he, hea⟩
theorem bestOf_small {l : List Ent} {p n : Nat} {b : ByteArray} (h : bestOf l p n = some b) : b.size ≤ 1024 ∧ p < 8 ∧ n < 64 := by
  obtain ⟨⟨e, _, hea, heb⟩, _⟩ := (bestOf_least l p n).some b h
  unfold Ent.at Ent.ok at hea
  simp only [Bool.and_eq_true, decide_eq_true_eq] at hea
  obtain ⟨⟨⟨h1, h2, h3⟩, h4⟩, h5⟩ := hea
  rw [heb] at h3
  omega
theorem countP_or {α : Type} (P Q : α → Bool) (l : List α) : l.countP (fun x => P x || Q x) ≤ l.countP P + l.countP Q := by
  induction l with
  | nil => simp
  | cons a r ih =>
    simp only [List.countP_cons]
    cases P a <;> cases Q a <;> simp <;> omega
theorem countP_one {α : Type} (P : α → Bool) (x : α) : ∀ (l : List α), l.Pairwise (· ≠ ·) → (∀ a, P a = true → a = x) → l.countP P ≤ 1
  | [], _, _ => by simp
  | a :: r, h, hx => by
    obtain ⟨h1, h2⟩ := List.pairwise_cons.1 h
    rw [List.countP_cons]
    by_cases ha : P a = true
    · have : r.countP P = 0 := by
        rw [List.countP_eq_zero]
        intro b hb hPb
        exact h1 b hb ((hx a ha).trans (hx b hPb).symm)
      rw [this, if_pos ha]; omega
    · rw [if_neg ha]
      have := countP_one P x r h2 hx
      omega
theorem places_nodup (m : Nat) : (places m).Pairwise (· ≠ ·) := by
  unfold places
  rw [List.pairwise_flatMap]
  refine ⟨fun p _ => ?_, ?_⟩
  · rw [List.pairwise_map]
    exact List.nodup_range.imp (fun h e => h (by simpa using e))
  · refine List.nodup_range.imp ?_
    intro a b hab x hx y hy hxy
    obtain ⟨i, _, rfl⟩ := List.mem_map.1 hx
    obtain ⟨j, _, rfl⟩ := List.mem_map.1 hy
    simp at hxy
    exact hab hxy.1
theorem best_count (m : Nat) : ∀ l : List Ent, (places m).countP (hasBest l) ≤ l.length := by
  intro l
  have e : hasBest l = fun q => l.any (fun e => e.at q.1 q.2) := funext (hasBest_any l)
  rw [e]
  clear e
  induction l with
  | nil => simp
  | cons x r ih =>
    have h1 := countP_or (fun q : Nat × Nat => x.at q.1 q.2) (fun q => r.any (fun e => e.at q.1 q.2)) (places m)
    have h2 := countP_one (fun q : Nat × Nat => x.at q.1 q.2) (x.o.toNat, x.n.toNat) (places m) (places_nodup m) (by
      rintro ⟨a, b⟩ h
      unfold Ent.at at h
      simp only [Bool.and_eq_true, decide_eq_true_eq] at h
      rw [h.1.2, h.2]; simp)
    simp only [List.any_cons, List.length_cons]
    omega
theorem epay_size (p n : Nat) (b : ByteArray) : (epay p n b).size = 3 + b.size := by
  unfold epay; rw [ByteArray.size_append, sb_size]; rfl
theorem epay_sectors {p n : Nat} {b : ByteArray} (h : b.size ≤ 1024) : sectorsOf (epay p n b).size ≤ 17 ∧ 1 ≤ sectorsOf (epay p n b).size := by
  rw [epay_size]; unfold sectorsOf; omega
theorem log_of {B : Bk} {p : Nat} {r : List ByteArray} (h : B.logs[p]? = some r) : B.log p = r := by
  unfold Bk.log; rw [List.getD_eq_getElem?_getD, h]; rfl
theorem step_row {B : Bk} {p n : Nat} {r : List ByteArray} {b : ByteArray} {f : Nat → Option ByteArray} (h : B.logs[p]? = some r) (hf : f n = some b) :
    (B.fresh p n b = true → (B.change p n b).logs = B.logs.set p (rowStep f r n)) ∧ (B.fresh p n b = false → rowStep f r n = r) := by
  have hp : p < B.logs.length := (List.getElem?_eq_some_iff.1 h).1
  unfold Bk.fresh Bk.change rowStep
  simp only [log_of h, hf, hp, decide_true, Bool.true_and]
  by_cases h1 : n = r.length
  · simp [h1]
  · simp only [h1, decide_false, Bool.false_or, if_false]
    by_cases h2 : n < r.length ∧ blt b (r.getD n ⟨#[]⟩) = true
    · rw [if_pos h2]
      refine ⟨fun _ => rfl, fun h3 => ?_⟩
      rw [h2.2, decide_eq_true h2.1] at h3
      cases h3
    · rw [if_neg h2]
      refine ⟨fun h3 => ?_, fun _ => rfl⟩
      simp only [Bool.and_eq_true, decide_eq_true_eq] at h3
      exact absurd h3 h2
theorem put_calm {D : Dsk} {B : Bk} {p n : Nat} {b : ByteArray} (h : Calm D) (hb : b.size ≤ 1024) (hr : B.pos + 17 ≤ D.safe.length) :
    putE D B p n b = 0 ∧ Calm (putD D B p n b) ∧ (putD D B p n b).falls = D.falls ∧ (putD D B p n b).safe.length = D.safe.length ∧ (putB D B p n b).logs = (B.change p n b).logs ∧ (putB D B p n b).falls = B.falls ∧ (putB D B p n b).pos ≤ B.pos + 17 := by
  have hs := (epay_sectors (p := p) (n := n) hb)
  have hk := h.keep (a := B.pos) (p := epay p n b) (by omega)
  refine ⟨hk.1, hk.2.1, hk.2.2, keep_len _ _ _, ?_⟩
  unfold putB putE
  rw [if_pos hk.1]
  exact ⟨rfl, rfl, by show B.pos + _ ≤ _; omega⟩
theorem takes_row (l : List Ent) (p : Nat) (rest : List (Nat × Nat)) : ∀ (ks : List Nat) (D : Dsk) (B : Bk) (cnt : Int) (r : List ByteArray), Calm D → B.logs[p]? = some r →
    B.pos + 17 * ((ks.map (fun n => (p, n)) ++ rest).countP (hasBest l)) ≤ D.safe.length →
    ∃ D' B' cnt', takes l D B cnt (ks.map (fun n => (p, n)) ++ rest) = takes l D' B' cnt' rest ∧ Calm D' ∧ D'.safe.length = D.safe.length ∧ D'.falls = D.falls ∧ B'.falls = B.falls ∧
      B'.logs = B.logs.set p (ks.foldl (rowStep (bestOf l p)) r) ∧ B'.pos + 17 * (rest.countP (hasBest l)) ≤ D.safe.length ∧ B'.pos ≤ B.pos + 17 * ((ks.map (fun n => (p, n))).countP (hasBest l))
  | [], D, B, cnt, r, h, hl, hs => ⟨D, B, cnt, rfl, h, rfl, rfl, rfl, by
      have hp : p < B.logs.length := (List.getElem?_eq_some_iff.1 hl).1
      have he : B.logs[p] = r := by rw [List.getElem?_eq_getElem hp] at hl; exact Option.some.inj hl
      show B.logs = B.logs.set p r
      rw [← he, List.set_getElem_self], by simpa using hs, by simp⟩
  | k :: ks, D, B, cnt, r, h, hl, hs => by
    have hp : p < B.logs.length := (List.getElem?_eq_some_iff.1 hl).1
    have hstep : ∀ r', (k :: ks).foldl (rowStep (bestOf l p)) r' = ks.foldl (rowStep (bestOf l p)) (rowStep (bestOf l p) r' k) := fun _ => rfl
    have hcnt : (((k :: ks).map (fun n => (p, n))) ++ rest).countP (hasBest l) = (ks.map (fun n => (p, n)) ++ rest).countP (hasBest l) + (if hasBest l (p, k) then 1 else 0) := by
      simp only [List.map_cons, List.cons_append, List.countP_cons]
    have hcnt2 : (((k :: ks).map (fun n => (p, n)))).countP (hasBest l) = (ks.map (fun n => (p, n))).countP (hasBest l) + (if hasBest l (p, k) then 1 else 0) := by
      simp only [List.map_cons, List.countP_cons]
    show ∃ D' B' cnt', takes l D B cnt ((p, k) :: (ks.map (fun n => (p, n)) ++ rest)) = _ ∧ _
    rw [hcnt] at hs
    cases hb : bestOf l p k with
    | none =>
      have e : takes l D B cnt ((p, k) :: (ks.map (fun n => (p, n)) ++ rest)) = takes l D B cnt (ks.map (fun n => (p, n)) ++ rest) := by
        rw [takes]; simp only [hb]
      obtain ⟨D', B', cnt', h1, h2, h3, h4, h5, h6, h7, h8⟩ := takes_row l p rest ks D B cnt r h hl (by omega)
      refine ⟨D', B', cnt', by rw [e]; exact h1, h2, h3, h4, h5, ?_, h7, by omega⟩
      rw [h6, hstep]
      simp only [rowStep, hb]
    | some b =>
      have hB : hasBest l (p, k) = true := by unfold hasBest; simp only [hb]; rfl
      rw [hB, if_pos rfl] at hs
      have hsm := bestOf_small hb
      have hrow := step_row (n := k) hl hb
      cases hf : B.fresh p k b with
      | false =>
        have e : takes l D B cnt ((p, k) :: (ks.map (fun n => (p, n)) ++ rest)) = takes l D B cnt (ks.map (fun n => (p, n)) ++ rest) := by
          rw [takes]; simp only [hb, hf]; rfl
        obtain ⟨D', B', cnt', h1, h2, h3, h4, h5, h6, h7, h8⟩ := takes_row l p rest ks D B cnt r h hl (by omega)
        exact ⟨D', B', cnt', by rw [e]; exact h1, h2, h3, h4, h5, by rw [h6, hstep, hrow.2 hf], h7, by omega⟩
      | true =>
        have hput := put_calm (p := p) (n := k) (B := B) h hsm.1 (by omega)
        have e : takes l D B cnt ((p, k) :: (ks.map (fun n => (p, n)) ++ rest)) = takes l (putD D B p k b) (putB D B p k b) (cnt + 1) (ks.map (fun n => (p, n)) ++ rest) := by
          rw [takes]; simp only [hb, hf, if_true, hput.1]
        have hl' : (putB D B p k b).logs[p]? = some (rowStep (bestOf l p) r k) := by
          rw [hput.2.2.2.2.1, hrow.1 hf, List.getElem?_set_self hp]
        obtain ⟨D', B', cnt', h1, h2, h3, h4, h5, h6, h7, h8⟩ := takes_row l p rest ks (putD D B p k b) (putB D B p k b) (cnt + 1) _ hput.2.1 hl' (by rw [hput.2.2.2.1]; have := hput.2.2.2.2.2.2; omega)
        refine ⟨D', B', cnt', by rw [e]; exact h1, h2, h3.trans hput.2.2.2.1, h4.trans hput.2.2.1, h5.trans hput.2.2.2.2.2.1, ?_, ?_, ?_⟩
        · rw [h6, hput.2.2.2.2.1, hrow.1 hf, List.set_set, hstep]
        · rw [hput.2.2.2.1] at h7; exact h7
        · have := hput.2.2.2.2.2.2; rw [hcnt2, hB, if_pos rfl]; omega
theorem takes_rows (l : List Ent) : ∀ (m a : Nat) (D : Dsk) (B : Bk) (cnt : Int), Calm D → a + m ≤ B.logs.length →
    B.pos + 17 * (((List.range' a m).flatMap fun p => (List.range 65).map fun n => (p, n)).countP (hasBest l)) ≤ D.safe.length →
    ∃ D' B' cnt', takes l D B cnt ((List.range' a m).flatMap fun p => (List.range 65).map fun n => (p, n)) = ⟨D', B', cnt', 0⟩ ∧ Calm D' ∧ D'.safe.length = D.safe.length ∧ D'.falls = D.falls ∧ B'.falls = B.falls ∧
      (∀ q, B'.logs[q]? = if a ≤ q ∧ q < a + m then (B.logs[q]?).map (fun r => rowTake (bestOf l q) r 65) else B.logs[q]?) ∧
      B'.pos ≤ B.pos + 17 * (((List.range' a m).flatMap fun p => (List.range 65).map fun n => (p, n)).countP (hasBest l))
  | 0, a, D, B, cnt, h, _, _ => ⟨D, B, cnt, rfl, h, rfl, rfl, rfl, fun q => by rw [if_neg (by omega)], by simp⟩
  | m + 1, a, D, B, cnt, h, hm, hs => by
    have ha : a < B.logs.length := by omega
    obtain ⟨r, hr⟩ : ∃ r, B.logs[a]? = some r := ⟨_, List.getElem?_eq_getElem ha⟩
    have e : ((List.range' a (m + 1)).flatMap fun p => (List.range 65).map fun n => (p, n)) = ((List.range 65).map fun n => (a, n)) ++ ((List.range' (a + 1) m).flatMap fun p => (List.range 65).map fun n => (p, n)) := by
      rw [List.range'_succ]; rfl
    rw [e] at hs ⊢
    obtain ⟨D1, B1, c1, h1, h2, h3, h4, h5, h6, h7, h8⟩ := takes_row l a _ (List.range 65) D B cnt r h hr hs
    obtain ⟨D2, B2, c2, k1, k2, k3, k4, k5, k6, k7⟩ := takes_rows l m (a + 1) D1 B1 c1 h2 (by rw [h6, List.length_set]; omega) (by rw [h3]; exact h7)
    refine ⟨D2, B2, c2, by rw [h1]; exact k1, k2, k3.trans h3, k4.trans h4, k5.trans h5, ?_, ?_⟩
    · intro q
      rw [k6 q, h6]
      by_cases hq : q = a
      · subst hq
        rw [if_neg (by omega), if_pos (by omega), List.getElem?_set_self ha, hr]
        rfl
      · rw [List.getElem?_set_ne (fun e => hq e.symm)]
        by_cases hq2 : a ≤ q ∧ q < a + (m + 1)
        · rw [if_pos (by omega), if_pos hq2]
        · rw [if_neg (by omega), if_neg hq2]
    · rw [List.countP_append]; omega
/-- Take on a disk with enough room whose power stays on -/
theorem take_calm {l : List Ent} {D : Dsk} {B : Bk} (h : Calm D) (hf : B.falls = D.falls) (hs : B.pos + 17 * l.length ≤ D.safe.length) :
    ∃ D' B' cnt', takeOf l D B = ⟨D', B', cnt', 0⟩ ∧ Calm D' ∧ D'.safe.length = D.safe.length ∧ B'.falls = D'.falls ∧ (∀ q, B'.logs[q]? = (B.logs[q]?).map (fun r => rowTake (bestOf l q) r 65)) ∧ B'.pos ≤ B.pos + 17 * l.length := by
  have hc := best_count B.logs.length l
  have e : places B.logs.length = (List.range' 0 B.logs.length).flatMap fun p => (List.range 65).map fun n => (p, n) := by
    unfold places; rw [List.range_eq_range' (n := B.logs.length)]
  rw [e] at hc
  obtain ⟨D', B', c', h1, h2, h3, h4, h5, h6, h7⟩ := takes_rows l B.logs.length 0 D B 0 h (by omega) (by omega)
  refine ⟨D', B', c', ?_, h2, h3, by rw [h5, h4, hf], ?_, by omega⟩
  · unfold takeOf; rw [if_neg (by simp [hf]), e]; exact h1
  · intro q
    rw [h6 q]
    by_cases hq : q < B.logs.length
    · rw [if_pos (by omega)]
    · rw [if_neg (by omega), List.getElem?_eq_none (by omega)]; rfl
end Go.Proofs.Ytenngchidlfaeaa
/- Words for the program's book: its place in memory when a message is put in; append in a region that draws. -/
namespace Go.Proofs.Ytenngchidlfaeaa
open Go.RowKit
open Rad (Dsk)

/-- append to an owned row, at a step of a region that draws -/
theorem step_app {P : Program} {w : World} {ops : Array Oper} {o : Oper} {a : Act} {K : Act → World → Prop} {Q : Exit → Act → World → Prop} {E : Prop} (hgd : o.guard = none) (s x : Operand) (t : TypeId) (ho : o.op = .call { callee := .builtin .append, args := #[s, x], argTypes := #[t, t] })
    (base : Nat) (e : TypeId) (z : Value) (size bytes : Nat) (ht : P.underlying t = some (.slice e)) (hinfo : (P.info? e).map (fun i => (i.zero, i.size, i.bytes)) = some (some z, size, bytes)) (hzs : z.cells.size = size) (hsz : 0 < size)
    (so : Option Addr) (n sc : Nat) (xs : List Value) (hs : a.eval s = .slice so n sc) (hown : Own w base e size so n sc xs)
    (ad : Addr) (m c : Nat) (news : List Value) (hx : a.eval x = .slice (some ad) m c) (hl : news.length = m * size) (hnews : ∀ j u, news[j]? = some u → w.cell? (ad.add j) = some u) (h1 : ∀ u ∈ news, u.oneCell' = true)
    (hbound : n + m ≤ 100000000) (hb2 : bytes ≤ 1000) (hbase : base ≤ w.heap.size)
    (h : ∀ o' c' w', Own w' base e size o' (n + m) c' (xs ++ news) → Onl (ownOf so) w w' → (∀ k, ownOf o' k → ownOf so k ∨ w.heap.size ≤ k) → K (a.put o.dst (.slice o' (n + m) c')) w') :
    if Region.wanted o (yielded ops a.tmps) = true then Oper.wp P o a w K Q else E := by
  have hw : Region.wanted o (yielded ops a.tmps) = true := by simp [Region.wanted, hgd]
  rw [if_pos hw]
  obtain ⟨o', c', w', hr, h2, h3, h4⟩ := run_app (P := P) w t o.type base e z size bytes ht hinfo hzs hsz so n sc xs hown ad m c news hl hnews h1 hbound hb2 hbase
  unfold Oper.wp execOp
  simp only [ho, resolve, invoke, builtin, Sem.run_bind, Sem.run_pure, Result.andThen_ok, List.map_toArray, List.map_cons, List.map_nil, hs, hx, hr]
  exact h _ _ _ h2 h3 h4
theorem zipWith_set {α β γ : Type} (f : α → β → γ) (l : List α) (m : List β) (i : Nat) (a : α) (b : β) : List.zipWith f (l.set i a) (m.set i b) = (List.zipWith f l m).set i (f a b) := by
  apply List.ext_getElem?
  intro j
  rw [List.getElem?_zipWith, List.getElem?_set, List.getElem?_set, List.getElem?_set, List.getElem?_zipWith, List.length_zipWith]
  by_cases hj : i = j
  · subst hj
    simp only [if_true]
    by_cases h1 : i < l.length <;> by_cases h2 : i < m.length
    · simp [h1, h2]; omega
    · simp [h1, h2]; omega
    · simp [h1, h2]; omega
    · simp [h1, h2]; omega
  · simp only [if_neg hj]
section
variable {w : World} {g gl c gd : Nat} {rows : List (Option Addr × Nat)} {B : Bk} {o : Nat} {l : List ByteArray} {s : ByteArray} {ro : Option Addr} {rc : Nat}
/-- a message behind the last one of its office -/
theorem BkAt.app (h : BkAt w g gl c gd rows B) (hl : B.logs[o]? = some l) (hr : rows[o]? = some (ro, rc)) (hs : s.size ≤ 1024) (hk : l.length < 64) {w2 : World} {o' : Option Addr} {c' : Nat}
    (h1 : Own w2 0 42 3 o' (l.length + 1) c' (ecs o 0 (l ++ [s]))) (h2 : Onl (ownOf ro) w w2) (h3 : ∀ k, ownOf o' k → ownOf ro k ∨ w.heap.size ≤ k) :
    BkAt (w2.setCell ⟨gl, o, none⟩ (.slice o' (l.length + 1) c')) g gl c gd (rows.set o (o', c')) (B.change o l.length s) ∧ Onl (bkOf g gl rows) w (w2.setCell ⟨gl, o, none⟩ (.slice o' (l.length + 1) c')) ∧
    (∀ k, bkOf g gl (rows.set o (o', c')) k → bkOf g gl rows k ∨ w.heap.size ≤ k) := by
  have hol : o < B.logs.length := (List.getElem?_eq_some_iff.1 hl).1
  have hor : o < rows.length := by rw [h.len]; exact hol
  have hrow := h.row o l _ hl hr
  have hg : ¬ ownOf ro g := hrow.ne_blk h.book (by decide)
  have hgl : ¬ ownOf ro gl := hrow.ne_blk h.logs (by decide)
  have hch : (B.change o l.length s).logs = B.logs.set o (l ++ [s]) := by
    unfold Bk.change; simp only [log_of hl, if_true]
  have hbook := h.book.onl h2 hg
  have hlogs := h.logs.onl h2 hgl
  have hset : Onl (one gl) w2 (w2.setCell ⟨gl, o, none⟩ (.slice o' (l.length + 1) c')) := (Onl.refl _ _).set _ _ (fun _ => rfl)
  have hgg : g ≠ gl := h.book.ne_ h.logs (by decide)
  refine ⟨⟨?_, ?_, ?_, ?_, ?_, ?_, ?_, ?_, h.in4, h.in5⟩, ?_, ?_⟩
  · have := hbook.onl hset (fun e => hgg e)
    unfold bcs at this ⊢
    rw [hch, List.length_set]
    exact this
  · rw [hch, zipWith_set]
    have := hlogs.set o (.slice o' (l.length + 1) c')
    unfold rowV
    rw [List.length_append]
    exact this
  · rw [List.length_set, hch, List.length_set]; exact h.len
  · intro p m r hp hq
    rw [hch, List.getElem?_set] at hp
    rw [List.getElem?_set] at hq
    by_cases hop : o = p
    · subst hop
      rw [if_pos rfl, if_pos hol] at hp
      rw [if_pos rfl, if_pos hor] at hq
      obtain rfl := Option.some.inj hp
      obtain rfl := Option.some.inj hq
      rw [List.length_append]
      exact h1.onl hset (fun k hk e => (h1.ne_blk hlogs (by decide)) (by rw [← show k = gl from e]; exact hk))
    · rw [if_neg hop] at hp hq
      have hrp := h.row p m r hp hq
      have h5 := hrp.onl h2 (fun k hk hk2 => h.apart o p _ _ hop hr hq k hk2 hk)
      exact h5.onl hset (fun k hk e => (h5.ne_blk hlogs (by decide)) (by rw [← show k = gl from e]; exact hk))
  · intro p q r t hpq hp hq k hk hk2
    rw [List.getElem?_set] at hp hq
    by_cases hop : o = p
    · subst hop
      rw [if_pos rfl, if_pos hor] at hp
      rw [if_neg hpq] at hq
      obtain rfl := Option.some.inj hp
      rcases h3 k hk with h4 | h4
      · exact h.apart o q _ _ hpq hr hq k h4 hk2
      · have := h.lt (k := k) (.inr (.inr ⟨t, List.mem_of_getElem? hq, hk2⟩)); omega
    · by_cases hoq : o = q
      · subst hoq
        rw [if_neg hop] at hp
        rw [if_pos rfl, if_pos hor] at hq
        obtain rfl := Option.some.inj hq
        rcases h3 k hk2 with h4 | h4
        · exact h.apart p o _ _ hpq hp hr k hk h4
        · have := h.lt (k := k) (.inr (.inr ⟨r, List.mem_of_getElem? hp, hk⟩)); omega
      · rw [if_neg hop] at hp; rw [if_neg hoq] at hq
        exact h.apart p q r t hpq hp hq k hk hk2
  · rw [hch, List.length_set]; exact h.in1
  · intro m hm
    rw [hch] at hm
    rcases List.mem_or_eq_of_mem_set hm with hm | rfl
    · exact h.in2 m hm
    · rw [List.length_append]; show l.length + 1 ≤ 64; omega
  · intro m hm b hb
    rw [hch] at hm
    rcases List.mem_or_eq_of_mem_set hm with hm | rfl
    · exact h.in3 m hm b hb
    · rcases List.mem_append.1 hb with hb | hb
      · exact h.in3 l (List.mem_of_getElem? hl) b hb
      · rw [List.mem_singleton.1 hb]; exact hs
  · exact (h2.mono (fun k hk => .inr (.inr ⟨_, List.mem_of_getElem? hr, hk⟩))).set _ _ (fun _ => .inr (.inl rfl))
  · intro k hk
    rcases hk with rfl | rfl | ⟨r, hr2, hk⟩
    · exact .inl (.inl rfl)
    · exact .inl (.inr (.inl rfl))
    · rcases List.mem_or_eq_of_mem_set hr2 with hr2 | rfl
      · exact .inl (.inr (.inr ⟨r, hr2, hk⟩))
      · rcases h3 k hk with h4 | h4
        · exact .inl (.inr (.inr ⟨_, List.mem_of_getElem? hr, h4⟩))
        · exact .inr h4
/-- a message in another one's place -/
theorem BkAt.rep (h : BkAt w g gl c gd rows B) (hl : B.logs[o]? = some l) {gr : Nat} (hr : rows[o]? = some (some ⟨gr, 0, none⟩, rc)) (hs : s.size ≤ 1024) {n : Nat} (hn : n < l.length) :
    BkAt (((w.setCell ⟨gr, n * 3, none⟩ (.int .i64 (o : Int))).setCell ⟨gr, n * 3 + 1, none⟩ (.int .i64 (n : Int))).setCell ⟨gr, n * 3 + 2, none⟩ (.string s)) g gl c gd rows (B.change o n s) ∧
    Onl (bkOf g gl rows) w (((w.setCell ⟨gr, n * 3, none⟩ (.int .i64 (o : Int))).setCell ⟨gr, n * 3 + 1, none⟩ (.int .i64 (n : Int))).setCell ⟨gr, n * 3 + 2, none⟩ (.string s)) := by
  have hol : o < B.logs.length := (List.getElem?_eq_some_iff.1 hl).1
  have hrow := h.row o l _ hl hr
  have hown : ownOf (some (⟨gr, 0, none⟩ : Addr)) gr := rfl
  have hg : g ≠ gr := fun e => hrow.ne_blk h.book (by decide) (by rw [e]; exact hown)
  have hgl : gl ≠ gr := fun e => hrow.ne_blk h.logs (by decide) (by rw [e]; exact hown)
  have hch : (B.change o n s).logs = B.logs.set o (l.set n s) := by
    unfold Bk.change; simp only [log_of hl]; rw [if_neg (by omega)]
  have hS : Onl (one gr) w (((w.setCell ⟨gr, n * 3, none⟩ (.int .i64 (o : Int))).setCell ⟨gr, n * 3 + 1, none⟩ (.int .i64 (n : Int))).setCell ⟨gr, n * 3 + 2, none⟩ (.string s)) :=
    (((Onl.refl (one gr) w).set ⟨gr, n * 3, none⟩ _ (fun _ => rfl)).set ⟨gr, n * 3 + 1, none⟩ _ (fun _ => rfl)).set ⟨gr, n * 3 + 2, none⟩ _ (fun _ => rfl)
  obtain ⟨g', ex, he, _, hb, h2, h3, h4⟩ := hrow.shape (by omega)
  simp only [Option.some.injEq, Addr.mk.injEq] at he
  obtain ⟨rfl, _, _⟩ := he
  have hel := ecs_length o l 0
  have hb2 := ((hb.set_pre (i := n * 3) (by omega) (.int .i64 (o : Int))).set_pre (i := n * 3 + 1) (by rw [List.length_set]; omega) (.int .i64 (n : Int))).set_pre (i := n * 3 + 2) (by rw [List.length_set, List.length_set]; omega) (.string s)
  rw [ecs_set o s l n hn] at hb2
  have hlen2 : (ecs o 0 (l.set n s)).length = l.length * 3 := by rw [ecs_length, List.length_set]
  have hown2 : Own (((w.setCell ⟨gr, n * 3, none⟩ (.int .i64 (o : Int))).setCell ⟨gr, n * 3 + 1, none⟩ (.int .i64 (n : Int))).setCell ⟨gr, n * 3 + 2, none⟩ (.string s)) 0 42 3 (some ⟨gr, 0, none⟩) l.length rc (ecs o 0 (l.set n s)) :=
    Own.of_blk hb2 (Nat.zero_le _) hlen2 (by rw [List.length_append, hlen2]; rw [List.length_append, hel] at h4; exact h4) h2 h3
  refine ⟨⟨?_, ?_, ?_, ?_, h.apart, ?_, ?_, ?_, h.in4, h.in5⟩, hS.mono (fun k hk => .inr (.inr ⟨_, List.mem_of_getElem? hr, by rw [show k = gr from hk]; exact hown⟩))⟩
  · have := h.book.onl hS (fun e => hg e)
    unfold bcs at this ⊢
    rw [hch, List.length_set]
    exact this
  · have := h.logs.onl hS (fun e => hgl e)
    have e : List.zipWith rowV rows (B.change o n s).logs = List.zipWith rowV rows B.logs := by
      rw [hch]
      apply List.ext_getElem?
      intro j
      rw [List.getElem?_zipWith, List.getElem?_zipWith, List.getElem?_set]
      by_cases hj : o = j
      · subst hj
        rw [if_pos rfl, if_pos hol, hl, hr]
        simp [rowV]
      · rw [if_neg hj]
    rw [e]; exact this
  · rw [hch, List.length_set]; exact h.len
  · intro p m r hp hq
    rw [hch, List.getElem?_set] at hp
    by_cases hop : o = p
    · subst hop
      rw [if_pos rfl, if_pos hol] at hp
      obtain rfl := Option.some.inj hp
      rw [hr] at hq
      obtain rfl := Option.some.inj hq
      rw [List.length_set]
      exact hown2
    · rw [if_neg hop] at hp
      exact (h.row p m r hp hq).onl hS (fun k hk e => h.apart o p _ _ hop hr hq k (by rw [show k = gr from e]; exact hown) hk)
  · rw [hch, List.length_set]; exact h.in1
  · intro m hm
    rw [hch] at hm
    rcases List.mem_or_eq_of_mem_set hm with hm | rfl
    · exact h.in2 m hm
    · rw [List.length_set]; exact h.in2 l (List.mem_of_getElem? hl)
  · intro m hm b hb
    rw [hch] at hm
    rcases List.mem_or_eq_of_mem_set hm with hm | rfl
    · exact h.in3 m hm b hb
    · rcases List.mem_or_eq_of_mem_set hb with hb | rfl
      · exact h.in3 l (List.mem_of_getElem? hl) b hb
      · exact hs
end
/-- a disk alone -/
def DM (w : World) (F : Nat → Prop) (gd : Nat) (D : Dsk) : Prop := ∃ gs cs o cw, DskAt w gd gs cs o cw D ∧ ∀ k, F k ↔ dskOf gd gs o k
theorem DM.lt {w : World} {F : Nat → Prop} {gd : Nat} {D : Dsk} (h : DM w F gd D) {k : Nat} (hk : F k) : k < w.heap.size := by
  obtain ⟨gs, cs, o, cw, h1, h2⟩ := h; exact h1.lt ((h2 k).1 hk)
theorem DM.onl {S : Nat → Prop} {w w' : World} {F : Nat → Prop} {gd : Nat} {D : Dsk} (h : DM w F gd D) (ho : Onl S w w') (hs : ∀ k, F k → ¬ S k) : DM w' F gd D := by
  obtain ⟨gs, cs, o, cw, h1, h2⟩ := h; exact ⟨gs, cs, o, cw, h1.onl ho (fun k hk => hs k ((h2 k).2 hk)), h2⟩
def DWent (w : World) (F : Nat → Prop) (gd : Nat) (w' : World) (D : Dsk) : Prop := ∃ F', DM w' F' gd D ∧ (∀ k, F' k → F k ∨ w.heap.size ≤ k) ∧ Onl F w w'
theorem DWent.of {w : World} {F : Nat → Prop} {gd : Nat} {w' : World} {D : Dsk} (h : DM w F gd D) (ho : Onl non w w') : DWent w F gd w' D :=
  ⟨F, h.onl ho (fun _ _ h => h), fun _ hk => .inl hk, ho.mono (fun _ h => h.elim)⟩
theorem DWent.andThen {w w1 w2 : World} {F : Nat → Prop} {gd : Nat} {D D' : Dsk} (h : DWent w F gd w1 D) (k : ∀ F', DM w1 F' gd D → DWent w1 F' gd w2 D') : DWent w F gd w2 D' := by
  obtain ⟨F1, hm, hf, ho⟩ := h
  obtain ⟨F2, hm2, hf2, ho2⟩ := k F1 hm
  refine ⟨F2, hm2, fun k hk => ?_, ho.trans ho2 (fun k hk hk1 => ?_)⟩
  · rcases hf2 k hk with h | h
    · exact hf k h
    · exact .inr (Nat.le_trans ho.size h)
  · rcases hf k hk1 with h | h
    · exact h
    · omega
theorem DskAt.dm {w : World} {gd gs cs : Nat} {o : Option Addr} {cw : Nat} {D : Dsk} (h : DskAt w gd gs cs o cw D) : DM w (dskOf gd gs o) gd D := ⟨gs, cs, o, cw, h, fun _ => Iff.rfl⟩
end Go.Proofs.Ytenngchidlfaeaa
/- Words: structs compared. -/
namespace Go.Proofs.Ytenngchidlfaeaa
open Go.RowKit

theorem fields42 : Try.prog.underlying 42 = some (.struct (Try.prog.fieldsOf 42)) := by kernel_rfl
theorem held42 : Try.prog.stoodInHeld 42 = false := by kernel_rfl
theorem fields23 : Try.prog.underlying 23 = some (.struct (Try.prog.fieldsOf 23)) := by kernel_rfl
theorem held23 : Try.prog.stoodInHeld 23 = false := by kernel_rfl
theorem size9 (w : World) : (sizeOf 9).run Try.prog w = .ok 1 w := by kernel_rfl
theorem isAgg9 (w : World) : (isAgg 9).run Try.prog w = .ok false w := by kernel_rfl
theorem isAgg3' (w : World) : (isAgg 3).run Try.prog w = .ok false w := by kernel_rfl
theorem isAgg42 (w : World) : (isAgg 42).run Try.prog w = .ok true w := by kernel_rfl
theorem size42 (w : World) : (sizeOf 42).run Try.prog w = .ok 3 w := by kernel_rfl
theorem isAgg23 (w : World) : (isAgg 23).run Try.prog w = .ok true w := by kernel_rfl
theorem size23 (w : World) : (sizeOf 23).run Try.prog w = .ok 5 w := by kernel_rfl
/-- two messages equal, as the program asks it -/
def eqE (a b : Int) (s : ByteArray) (a' b' : Int) (s' : ByteArray) : Bool := a == a' && (b == b' && s.toList == s'.toList)
theorem run_eq42 (w : World) (a b a' b' : Int) (s s' : ByteArray) : (Op.equalIn 10000 42 (.agg #[.int .i64 a, .int .i64 b, .string s]) (.agg #[.int .i64 a', .int .i64 b', .string s'])).run Try.prog w = .ok (eqE a b s a' b' s') w := by
  have s3 := size3
  have s9 := size9
  have a3 := isAgg3'
  have a9 := isAgg9
  have u3 := Try.underlying3
  have u9 := Try.underlying9
  rw [show (10000 : Nat) = 9999 + 1 from rfl, run_equalIn_agg w 9999 42 _ _ fields42 held42]
  simp only [Program.fieldsOf, Try.underlying42]
  unfold eqE
  go_simp
  by_cases h1 : a = a' <;> by_cases h2 : b = b' <;> by_cases h9 : s.toList = s'.toList <;> simp [h1, h2, h9]
theorem eql42 (w : World) (a b a' b' : Int) (s s' : ByteArray) : (binOp .eql 42 (.agg #[.int .i64 a, .int .i64 b, .string s]) (.agg #[.int .i64 a', .int .i64 b', .string s'])).run Try.prog w = .ok (.bool (eqE a b s a' b' s')) w := by
  rw [run_eql_struct, run_eq42]; rfl
theorem neq42 (w : World) (a b a' b' : Int) (s s' : ByteArray) : (binOp .neq 42 (.agg #[.int .i64 a, .int .i64 b, .string s]) (.agg #[.int .i64 a', .int .i64 b', .string s'])).run Try.prog w = .ok (.bool (!eqE a b s a' b' s')) w := by
  rw [run_neq_struct, run_eq42]; rfl
theorem eqE_iff (a b a' b' : Int) (s s' : ByteArray) : eqE a b s a' b' s' = decide (a = a' ∧ b = b' ∧ s = s') := by
  unfold eqE
  by_cases h1 : a = a' <;> by_cases h2 : b = b' <;> by_cases h3 : s = s'
  all_goals simp [h1, h2, h3]
  all_goals exact fun h => h3 (ba_toList_inj h)
/-- two frames equal, as the program asks it -/
def eqF (a b c d : Int) (s : ByteArray) (a' b' c' d' : Int) (s' : ByteArray) : Bool := a == a' && (b == b' && (c == c' && (d == d' && s.toList == s'.toList)))
theorem run_eq23 (w : World) (a b c d a' b' c' d' : Int) (s s' : ByteArray) : (Op.equalIn 10000 23 (.agg #[.int .i64 a, .int .i64 b, .int .i64 c, .int .i64 d, .string s]) (.agg #[.int .i64 a', .int .i64 b', .int .i64 c', .int .i64 d', .string s'])).run Try.prog w = .ok (eqF a b c d s a' b' c' d' s') w := by
  have s3 := size3
  have s9 := size9
  have a3 := isAgg3'
  have a9 := isAgg9
  have u3 := Try.underlying3
  have u9 := Try.underlying9
  rw [show (10000 : Nat) = 9999 + 1 from rfl, run_equalIn_agg w 9999 23 _ _ fields23 held23]
  simp only [Program.fieldsOf, Try.underlying23]
  unfold eqF
  go_simp
  by_cases h1 : a = a' <;> by_cases h2 : b = b' <;> by_cases h3 : c = c' <;> by_cases h4 : d = d' <;> by_cases h9 : s.toList = s'.toList <;> simp [h1, h2, h3, h4, h9]
theorem eql23 (w : World) (a b c d a' b' c' d' : Int) (s s' : ByteArray) : (binOp .eql 23 (.agg #[.int .i64 a, .int .i64 b, .int .i64 c, .int .i64 d, .string s]) (.agg #[.int .i64 a', .int .i64 b', .int .i64 c', .int .i64 d', .string s'])).run Try.prog w = .ok (.bool (eqF a b c d s a' b' c' d' s')) w := by
  rw [run_eql_struct, run_eq23]; rfl
theorem neq23 (w : World) (a b c d a' b' c' d' : Int) (s s' : ByteArray) : (binOp .neq 23 (.agg #[.int .i64 a, .int .i64 b, .int .i64 c, .int .i64 d, .string s]) (.agg #[.int .i64 a', .int .i64 b', .int .i64 c', .int .i64 d', .string s'])).run Try.prog w = .ok (.bool (!eqF a b c d s a' b' c' d' s')) w := by
  rw [run_neq_struct, run_eq23]; rfl
theorem eqF_iff (a b c d a' b' c' d' : Int) (s s' : ByteArray) : eqF a b c d s a' b' c' d' s' = decide (a = a' ∧ b = b' ∧ c = c' ∧ d = d' ∧ s = s') := by
  unfold eqF
  by_cases h1 : a = a' <;> by_cases h2 : b = b' <;> by_cases h3 : c = c' <;> by_cases h4 : d = d' <;> by_cases h5 : s = s'
  all_goals simp [h1, h2, h3, h4, h5]
  all_goals exact fun h => h5 (ba_toList_inj h)
end Go.Proofs.Ytenngchidlfaeaa
