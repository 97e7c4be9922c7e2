/- A1: texts Gf Mul Rs Div Fld Fam Dec C0 C2, joined. -/
import Derived.WalkKit
import Derived.Deep.QuietTactic
import Derived.BigQuiet
import Derived.WalkLawsBesides
import Derived.WalkSpells
import Derived.Lib.Hide
/- The field of 256 elements of the radio chapter: its product, plain laws of it. -/
namespace Rad

/-- One shift: twice an element. -/
def tstep (a : Nat) : Nat := if a * 2 ≥ 256 then (a * 2) ^^^ 285 else a * 2
/-- tstep i times -/
def tpow : Nat → Nat → Nat
  | 0, a => a
  | i + 1, a => tstep (tpow i a)
def sel (b i x : Nat) : Nat := if b.testBit i then x else 0
/-- The product. -/
def gm (a b : Nat) : Nat :=
  sel b 0 (tpow 0 a) ^^^ sel b 1 (tpow 1 a) ^^^ sel b 2 (tpow 2 a) ^^^ sel b 3 (tpow 3 a) ^^^ sel b 4 (tpow 4 a) ^^^ sel b 5 (tpow 5 a) ^^^ sel b 6 (tpow 6 a) ^^^ sel b 7 (tpow 7 a)

theorem xor_lt {a b : Nat} (ha : a < 256) (hb : b < 256) : a ^^^ b < 256 := Nat.xor_lt_two_pow (n := 8) ha hb
theorem tstep_lt : ∀ {a : Nat}, a < 256 → tstep a < 256 := by
  have h : ∀ a, a < 256 → tstep a < 256 := by decide +kernel
  exact fun {a} => h a
theorem tpow_lt (i : Nat) {a : Nat} (h : a < 256) : tpow i a < 256 := by
  induction i with
  | zero => exact h
  | succ i ih => exact tstep_lt ih
theorem sel_lt {b i x : Nat} (h : x < 256) : sel b i x < 256 := by unfold sel; split <;> omega
theorem gm_lt {a : Nat} (ha : a < 256) (b : Nat) : gm a b < 256 := by
  unfold gm
  repeat (first | apply xor_lt | exact sel_lt (tpow_lt _ ha))

theorem tstep_eq : ∀ a, a < 256 → tstep a = (a <<< 1) ^^^ (if a.testBit 7 then 285 else 0) := by decide +kernel
theorem xor_mid (a b c d : Nat) : (a ^^^ b) ^^^ (c ^^^ d) = (a ^^^ c) ^^^ (b ^^^ d) := by
  rw [Nat.xor_assoc, Nat.xor_assoc, ← Nat.xor_assoc b, Nat.xor_comm b c, Nat.xor_assoc c]
theorem tstep_xor {a b : Nat} (ha : a < 256) (hb : b < 256) : tstep (a ^^^ b) = tstep a ^^^ tstep b := by
  rw [tstep_eq _ (xor_lt ha hb), tstep_eq _ ha, tstep_eq _ hb, Nat.shiftLeft_xor_distrib, Nat.testBit_xor, xor_mid]
  cases a.testBit 7 <;> cases b.testBit 7 <;> simp
theorem tpow_xor (i : Nat) {a b : Nat} (ha : a < 256) (hb : b < 256) : tpow i (a ^^^ b) = tpow i a ^^^ tpow i b := by
  induction i with
  | zero => rfl
  | succ i ih => rw [tpow, ih, tstep_xor (tpow_lt i ha) (tpow_lt i hb)]; rfl
theorem sel_xor_right (b i x y : Nat) : sel b i (x ^^^ y) = sel b i x ^^^ sel b i y := by unfold sel; split <;> simp
theorem sel_xor_left (b c i x : Nat) : sel (b ^^^ c) i x = sel b i x ^^^ sel c i x := by
  unfold sel; rw [Nat.testBit_xor]
  cases b.testBit i <;> cases c.testBit i <;> simp
theorem gm_xor_left {a b : Nat} (ha : a < 256) (hb : b < 256) (c : Nat) : gm (a ^^^ b) c = gm a c ^^^ gm b c := by
  unfold gm
  simp only [tpow_xor _ ha hb, sel_xor_right]
  ac_rfl
theorem gm_xor_right (a b c : Nat) : gm a (b ^^^ c) = gm a b ^^^ gm a c := by
  unfold gm
  simp only [sel_xor_left]
  ac_rfl
theorem gm_zero_right (a : Nat) : gm a 0 = 0 := by simp [gm, sel]
theorem gm_zero_left (b : Nat) : gm 0 b = 0 := by
  have h : ∀ i, tpow i 0 = 0 := by intro i; induction i with | zero => rfl | succ i ih => rw [tpow, ih]; rfl
  simp [gm, sel, h]
theorem gm_one_right (a : Nat) : gm a 1 = a := by
  have h : ∀ i, 0 < i → (1 : Nat).testBit i = false := by
    intro i hi
    cases i with
    | zero => omega
    | succ i => simp [Nat.testBit_succ]
  simp [gm, sel, h, tpow]
/-- an element by its bits -/
theorem bits_eq : ∀ b, b < 256 → b = sel b 0 1 ^^^ sel b 1 2 ^^^ sel b 2 4 ^^^ sel b 3 8 ^^^ sel b 4 16 ^^^ sel b 5 32 ^^^ sel b 6 64 ^^^ sel b 7 128 := by decide +kernel
theorem gm_sel_right (a b i x : Nat) : gm a (sel b i x) = sel b i (gm a x) := by unfold sel; split <;> simp [gm_zero_right]
theorem gm_sel_left (a b i x : Nat) : gm (sel b i x) a = sel b i (gm x a) := by unfold sel; split <;> simp [gm_zero_left]
/-- what holds of the eight powers holds of all elements, for additive functions -/
theorem additive_ext {f g : Nat → Nat} (hf : ∀ a b, a < 256 → b < 256 → f (a ^^^ b) = f a ^^^ f b) (hg : ∀ a b, a < 256 → b < 256 → g (a ^^^ b) = g a ^^^ g b)
    (f0 : f 0 = 0) (g0 : g 0 = 0) (h : ∀ i, i < 8 → f (2 ^ i) = g (2 ^ i)) : ∀ b, b < 256 → f b = g b := by
  intro b hb
  have e : ∀ i, i < 8 → f (sel b i (2 ^ i)) = g (sel b i (2 ^ i)) := by
    intro i hi; unfold sel; split
    · exact h i hi
    · rw [f0, g0]
  have hl : ∀ i, i < 8 → sel b i (2 ^ i) < 256 := by
    intro i hi; apply sel_lt; exact Nat.pow_lt_pow_right (a := 2) (by omega) hi
  have l0 := hl 0 (by omega); have l1 := hl 1 (by omega); have l2 := hl 2 (by omega); have l3 := hl 3 (by omega)
  have l4 := hl 4 (by omega); have l5 := hl 5 (by omega); have l6 := hl 6 (by omega); have l7 := hl 7 (by omega)
  have e0 := e 0 (by omega); have e1 := e 1 (by omega); have e2 := e 2 (by omega); have e3 := e 3 (by omega)
  have e4 := e 4 (by omega); have e5 := e 5 (by omega); have e6 := e 6 (by omega); have e7 := e 7 (by omega)
  have hb' : b = sel b 0 (2 ^ 0) ^^^ sel b 1 (2 ^ 1) ^^^ sel b 2 (2 ^ 2) ^^^ sel b 3 (2 ^ 3) ^^^ sel b 4 (2 ^ 4) ^^^ sel b 5 (2 ^ 5) ^^^ sel b 6 (2 ^ 6) ^^^ sel b 7 (2 ^ 7) := bits_eq b hb
  generalize sel b 0 (2 ^ 0) = x0 at *
  generalize sel b 1 (2 ^ 1) = x1 at *
  generalize sel b 2 (2 ^ 2) = x2 at *
  generalize sel b 3 (2 ^ 3) = x3 at *
  generalize sel b 4 (2 ^ 4) = x4 at *
  generalize sel b 5 (2 ^ 5) = x5 at *
  generalize sel b 6 (2 ^ 6) = x6 at *
  generalize sel b 7 (2 ^ 7) = x7 at *
  have k1 := xor_lt l0 l1; have k2 := xor_lt k1 l2; have k3 := xor_lt k2 l3; have k4 := xor_lt k3 l4; have k5 := xor_lt k4 l5; have k6 := xor_lt k5 l6
  rw [hb', hf _ _ k6 l7, hf _ _ k5 l6, hf _ _ k4 l5, hf _ _ k3 l4, hf _ _ k2 l3, hf _ _ k1 l2, hf _ _ l0 l1,
    hg _ _ k6 l7, hg _ _ k5 l6, hg _ _ k4 l5, hg _ _ k3 l4, hg _ _ k2 l3, hg _ _ k1 l2, hg _ _ l0 l1, e0, e1, e2, e3, e4, e5, e6, e7]
theorem gm_comm {a b : Nat} (ha : a < 256) (hb : b < 256) : gm a b = gm b a := by
  refine additive_ext (f := fun b => gm a b) (g := fun b => gm b a) (fun x y _ _ => gm_xor_right a x y) (fun x y hx hy => gm_xor_left hx hy a) (gm_zero_right a) (gm_zero_left a) ?_ b hb
  have h : ∀ a, a < 256 → ∀ i, i < 8 → gm a (2 ^ i) = gm (2 ^ i) a := by decide +kernel
  exact h a ha
theorem gm_one_left {a : Nat} (ha : a < 256) : gm 1 a = a := by rw [gm_comm (by omega) ha, gm_one_right]
theorem gm_tstep {a b : Nat} (ha : a < 256) (hb : b < 256) : gm a (tstep b) = tstep (gm a b) := by
  refine additive_ext (f := fun b => gm a (tstep b)) (g := fun b => tstep (gm a b)) ?_ ?_ ?_ ?_ ?_ b hb
  · intro x y hx hy; show gm a (tstep (x ^^^ y)) = _; rw [tstep_xor hx hy, gm_xor_right]
  · intro x y hx hy; show tstep (gm a (x ^^^ y)) = _; rw [gm_xor_right, tstep_xor (gm_lt ha _) (gm_lt ha _)]
  · show gm a (tstep 0) = 0; exact gm_zero_right a
  · show tstep (gm a 0) = 0; rw [gm_zero_right]; rfl
  · have h : ∀ a, a < 256 → ∀ i, i < 8 → gm a (tstep (2 ^ i)) = tstep (gm a (2 ^ i)) := by decide +kernel
    exact h a ha
theorem gm_tpow {a b : Nat} (ha : a < 256) (hb : b < 256) (i : Nat) : gm a (tpow i b) = tpow i (gm a b) := by
  induction i with
  | zero => rfl
  | succ i ih => rw [tpow, gm_tstep ha (tpow_lt i hb), ih]; rfl
theorem gm_two_pow : ∀ a, a < 256 → ∀ i, i < 8 → gm a (2 ^ i) = tpow i a := by decide +kernel
theorem gm_assoc {a b c : Nat} (ha : a < 256) (hb : b < 256) (hc : c < 256) : gm (gm a b) c = gm a (gm b c) := by
  refine additive_ext (f := fun c => gm (gm a b) c) (g := fun c => gm a (gm b c)) ?_ ?_ ?_ ?_ ?_ c hc
  · intro x y hx hy; exact gm_xor_right _ _ _
  · intro x y hx hy; show gm a (gm b (x ^^^ y)) = _; rw [gm_xor_right, gm_xor_right]
  · exact gm_zero_right _
  · show gm a (gm b 0) = 0; rw [gm_zero_right, gm_zero_right]
  · intro i hi
    show gm (gm a b) (2 ^ i) = gm a (gm b (2 ^ i))
    rw [gm_two_pow _ (gm_lt ha b) i hi, gm_two_pow _ hb i hi, gm_tpow ha hb]

/-- powers -/
def gpow (a : Nat) : Nat → Nat
  | 0 => 1
  | n + 1 => gm (gpow a n) a
theorem gpow_lt {a : Nat} (ha : a < 256) : ∀ n, gpow a n < 256
  | 0 => by show 1 < 256; omega
  | n + 1 => gm_lt (gpow_lt ha n) a
theorem gpow_add {a : Nat} (ha : a < 256) (m n : Nat) : gpow a (m + n) = gm (gpow a m) (gpow a n) := by
  induction n with
  | zero => show gpow a m = gm _ 1; rw [gm_one_right]
  | succ n ih => show gm (gpow a (m + n)) a = gm (gpow a m) (gm (gpow a n) a); rw [ih, gm_assoc (gpow_lt ha m) (gpow_lt ha n) ha]
/-- the power 254, by squares -/
def inv254 (a : Nat) : Nat :=
  let a2 := gm a a; let a3 := gm a2 a; let a6 := gm a3 a3; let a7 := gm a6 a; let a14 := gm a7 a7; let a15 := gm a14 a; let a30 := gm a15 a15; let a31 := gm a30 a
  let a62 := gm a31 a31; let a63 := gm a62 a; let a126 := gm a63 a63; let a127 := gm a126 a; gm a127 a127
theorem gpow_254 {a : Nat} (ha : a < 256) : gpow a 254 = inv254 a := by
  have h2 : gpow a 2 = gm a a := by show gm (gm 1 a) a = _; rw [gm_one_left ha]
  have h3 : gpow a 3 = gm (gm a a) a := by show gm (gpow a 2) a = _; rw [h2]
  unfold inv254
  simp only
  rw [show 254 = 127 + 127 from rfl, gpow_add ha 127 127, show gpow a 127 = gm (gpow a 126) a from rfl, show 126 = 63 + 63 from rfl, gpow_add ha 63 63, show gpow a 63 = gm (gpow a 62) a from rfl,
    show 62 = 31 + 31 from rfl, gpow_add ha 31 31, show gpow a 31 = gm (gpow a 30) a from rfl, show 30 = 15 + 15 from rfl, gpow_add ha 15 15, show gpow a 15 = gm (gpow a 14) a from rfl,
    show 14 = 7 + 7 from rfl, gpow_add ha 7 7, show gpow a 7 = gm (gpow a 6) a from rfl, show 6 = 3 + 3 from rfl, gpow_add ha 3 3, h3]
theorem inv254_ok : ∀ a, a < 256 → a ≠ 0 → gm a (inv254 a) = 1 := by decide +kernel
/-- the inverse -/
def ginv (a : Nat) : Nat := gpow a 254
theorem ginv_lt {a : Nat} (ha : a < 256) : ginv a < 256 := gpow_lt ha _
theorem gm_ginv {a : Nat} (ha : a < 256) (h : a ≠ 0) : gm a (ginv a) = 1 := by unfold ginv; rw [gpow_254 ha]; exact inv254_ok a ha h
theorem gm_eq_zero {a b : Nat} (ha : a < 256) (hb : b < 256) (h : gm a b = 0) : a = 0 ∨ b = 0 := by
  by_cases h0 : a = 0
  · exact .inl h0
  · right
    have : gm (ginv a) (gm a b) = b := by rw [← gm_assoc (ginv_lt ha) ha hb, gm_comm (ginv_lt ha) ha, gm_ginv ha h0, gm_one_left hb]
    rw [← this, h, gm_zero_right]
theorem xor_eq_zero {a b : Nat} (h : a ^^^ b = 0) : a = b := by
  have : a ^^^ b ^^^ b = 0 ^^^ b := by rw [h]
  simpa [Nat.xor_assoc] using this
theorem gm_cancel {a b c : Nat} (ha : a < 256) (hb : b < 256) (hc : c < 256) (h0 : a ≠ 0) (h : gm a b = gm a c) : b = c := by
  have h1 : gm a (b ^^^ c) = 0 := by rw [gm_xor_right, h, Nat.xor_self]
  rcases gm_eq_zero ha (xor_lt hb hc) h1 with h2 | h2
  · exact absurd h2 h0
  · exact xor_eq_zero h2
end Rad
/- The product of the field computed as the reference does: polynomials are multiplied, then reduced. -/
namespace Rad

/-- one step of the reduction -/
def rstep (i n : Nat) : Nat := if n.testBit i then n ^^^ 285 <<< (i - 8) else n
/-- k steps, from the bit 7 + k down to the bit 8 -/
def redFrom : Nat → Nat → Nat
  | 0, n => n
  | k + 1, n => redFrom k (rstep (8 + k) n)
theorem rstep_xor (i m n : Nat) : rstep i (m ^^^ n) = rstep i m ^^^ rstep i n := by
  unfold rstep
  rw [Nat.testBit_xor]
  cases m.testBit i <;> cases n.testBit i <;> simp only [Bool.bne_false, Bool.bne_true, Bool.not_false, Bool.not_true, if_true, Bool.false_eq_true, if_false]
  · ac_rfl
  · ac_rfl
  · rw [xor_mid, Nat.xor_self, Nat.xor_zero]
theorem redFrom_xor : ∀ k m n, redFrom k (m ^^^ n) = redFrom k m ^^^ redFrom k n
  | 0, _, _ => rfl
  | k + 1, m, n => by show redFrom k (rstep (8 + k) (m ^^^ n)) = _; rw [rstep_xor, redFrom_xor k]; rfl
theorem redFrom_zero : ∀ k, redFrom k 0 = 0
  | 0 => rfl
  | k + 1 => by show redFrom k (rstep (8 + k) 0) = 0; rw [show rstep (8 + k) 0 = 0 from by simp [rstep]]; exact redFrom_zero k
/-- the polynomial product, of the first k bits of b -/
def clmul (a b : Nat) : Nat → Nat
  | 0 => 0
  | k + 1 => clmul a b k ^^^ sel b k (a <<< k)
theorem clmul_lt {a : Nat} (ha : a < 256) (b : Nat) : ∀ k, k ≤ 8 → clmul a b k < 32768
  | 0, _ => by show 0 < _; omega
  | k + 1, h => by
    have ih := clmul_lt ha b k (by omega)
    refine Nat.xor_lt_two_pow (n := 15) ih ?_
    unfold sel; split
    · rw [Nat.shiftLeft_eq]
      have : 2 ^ k ≤ 2 ^ 7 := Nat.pow_le_pow_right (by omega) (by omega)
      have := Nat.mul_le_mul (show a ≤ 255 by omega) this
      omega
    · omega
theorem red_sel (b k x : Nat) : redFrom 7 (sel b k x) = sel b k (redFrom 7 x) := by unfold sel; split <;> simp [redFrom_zero]
theorem red_shift : ∀ a, a < 256 → ∀ k, k < 8 → redFrom 7 (a <<< k) = tpow k a := by decide +kernel
theorem red_clmul {a : Nat} (ha : a < 256) (b : Nat) : redFrom 7 (clmul a b 8) = gm a b := by
  simp only [clmul, redFrom_xor, red_sel, Nat.zero_xor]
  rw [red_shift a ha 0 (by omega), red_shift a ha 1 (by omega), red_shift a ha 2 (by omega), red_shift a ha 3 (by omega), red_shift a ha 4 (by omega), red_shift a ha 5 (by omega),
    red_shift a ha 6 (by omega), red_shift a ha 7 (by omega)]
  rfl
/-- one step of the program's own loop -/
theorem gm_step {a b : Nat} (hb : b < 256) : gm a b = (if b % 2 = 1 then a else 0) ^^^ gm (tstep a) (b / 2) := by
  have h8 : b.testBit 8 = false := Nat.testBit_lt_two_pow (by omega)
  have hs : ∀ i, tpow i (tstep a) = tpow (i + 1) a := by intro i; induction i with | zero => rfl | succ i ih => rw [tpow, ih]; rfl
  have h0 : sel b 0 a = if b % 2 = 1 then a else 0 := by
    unfold sel; rw [Nat.testBit_zero]
    by_cases h : b % 2 = 1 <;> simp [h]
  have hd : ∀ i x, sel (b / 2) i x = sel b (i + 1) x := by intro i x; unfold sel; rw [Nat.testBit_succ]
  have h8' : ∀ x, sel b 8 x = 0 := by intro x; unfold sel; rw [h8]; rfl
  rw [← h0]
  unfold gm
  simp only [hd, hs, h8', Nat.xor_zero]
  show sel b 0 a ^^^ _ ^^^ _ ^^^ _ ^^^ _ ^^^ _ ^^^ _ ^^^ _ = _
  simp only [Nat.xor_assoc]
theorem inv_unique {a b : Nat} (ha : a < 256) (hb : b < 256) (h : gm a b = 1) : b = ginv a := by
  have h0 : a ≠ 0 := by intro e; subst e; rw [gm_zero_left] at h; omega
  exact gm_cancel ha hb (ginv_lt ha) h0 (h.trans (gm_ginv ha h0).symm)
theorem ginv_ne_zero {a : Nat} (ha : a < 256) (h0 : a ≠ 0) : ginv a ≠ 0 := by
  intro e; have := gm_ginv ha h0; rw [e, gm_zero_right] at this; omega
end Rad
/- The code of the radio chapter: words whose values at six powers of 2 are 0; two of them of one length differ in at least seven places. -/
namespace Rad

def Bytes (w : List Nat) : Prop := ∀ b ∈ w, b < 256
theorem Bytes.nil : Bytes [] := by intro b h; cases h
theorem Bytes.cons {b : Nat} {w : List Nat} (hb : b < 256) (h : Bytes w) : Bytes (b :: w) := by
  intro x hx; cases hx with
  | head => exact hb
  | tail _ hx => exact h x hx
theorem Bytes.head {b : Nat} {w : List Nat} (h : Bytes (b :: w)) : b < 256 := h b (by simp)
theorem Bytes.tail {b : Nat} {w : List Nat} (h : Bytes (b :: w)) : Bytes w := fun x hx => h x (by simp [hx])
theorem Bytes.append {v w : List Nat} (h : Bytes v) (h' : Bytes w) : Bytes (v ++ w) := by
  intro x hx; rcases List.mem_append.1 hx with hx | hx
  · exact h x hx
  · exact h' x hx

/-- the value of a word at an element -/
def val : List Nat → Nat → Nat
  | [], _ => 0
  | b :: w, a => gm b (gpow a w.length) ^^^ val w a
theorem val_lt {w : List Nat} (hw : Bytes w) (a : Nat) : val w a < 256 := by
  induction w with
  | nil => show 0 < 256; omega
  | cons b w ih => exact xor_lt (gm_lt hw.head _) (ih hw.tail)
/-- Horner's way, from a value on -/
def horner (a n : Nat) (w : List Nat) : Nat := w.foldl (fun n b => gm n a ^^^ b) n
theorem horner_eq {a : Nat} (ha : a < 256) {w : List Nat} (hw : Bytes w) : ∀ n, n < 256 → horner a n w = gm n (gpow a w.length) ^^^ val w a := by
  induction w with
  | nil => intro n hn; show n = gm n 1 ^^^ 0; rw [gm_one_right, Nat.xor_zero]
  | cons b w ih =>
    intro n hn
    show horner a (gm n a ^^^ b) w = _
    rw [ih hw.tail _ (xor_lt (gm_lt hn a) hw.head), gm_xor_left (gm_lt hn a) hw.head]
    show _ = gm n (gm (gpow a w.length) a) ^^^ (gm b (gpow a w.length) ^^^ val w a)
    rw [gm_assoc hn ha (gpow_lt ha _), gm_comm ha (gpow_lt ha _), Nat.xor_assoc]
theorem horner_val {a : Nat} (ha : a < 256) {w : List Nat} (hw : Bytes w) : horner a 0 w = val w a := by
  rw [horner_eq ha hw 0 (by omega), gm_zero_left, Nat.zero_xor]

def xors (v w : List Nat) : List Nat := List.zipWith (· ^^^ ·) v w
theorem xors_length {v w : List Nat} (h : v.length = w.length) : (xors v w).length = v.length := by simp [xors, h]
theorem xors_bytes : ∀ {v w : List Nat}, Bytes v → Bytes w → Bytes (xors v w)
  | [], _, _, _ => Bytes.nil
  | _ :: _, [], _, _ => Bytes.nil
  | _ :: _, _ :: _, hv, hw => Bytes.cons (xor_lt hv.head hw.head) (xors_bytes hv.tail hw.tail)
theorem val_xors (a : Nat) : ∀ {v w : List Nat}, Bytes v → Bytes w → v.length = w.length → val (xors v w) a = val v a ^^^ val w a
  | [], [], _, _, _ => by simp [xors, val]
  | [], _ :: _, _, _, h => by cases h
  | _ :: _, [], _, _, h => by cases h
  | b :: v, c :: w, hv, hw, h => by
    have h' : v.length = w.length := by simpa using h
    have hl := xors_length h'
    have ih := val_xors a hv.tail hw.tail h'
    show gm (b ^^^ c) (gpow a (xors v w).length) ^^^ val (xors v w) a = (gm b (gpow a v.length) ^^^ val v a) ^^^ (gm c (gpow a w.length) ^^^ val w a)
    rw [hl, ih, gm_xor_left hv.head hw.head, ← h', xor_mid]

/-- in how many places two words differ -/
def dist : List Nat → List Nat → Nat
  | [], _ => 0
  | _ :: _, [] => 0
  | b :: v, c :: w => (if b = c then 0 else 1) + dist v w
theorem dist_self : ∀ v, dist v v = 0
  | [] => rfl
  | b :: v => by simp [dist, dist_self v]
theorem dist_comm : ∀ v w, dist v w = dist w v
  | [], [] => rfl
  | [], _ :: _ => rfl
  | _ :: _, [] => rfl
  | b :: v, c :: w => by simp only [dist]; rw [dist_comm v w]; by_cases h : b = c <;> simp [h, eq_comm]
theorem dist_tri : ∀ {u v w : List Nat}, u.length = v.length → v.length = w.length → dist u w ≤ dist u v + dist v w
  | [], _, _, _, _ => by simp [dist]
  | _ :: _, [], _, h, _ => by cases h
  | _ :: _, _ :: _, [], _, h => by cases h
  | a :: u, b :: v, c :: w, h, h' => by
    have := dist_tri (u := u) (v := v) (w := w) (by simpa using h) (by simpa using h')
    simp only [dist]
    by_cases h1 : a = b
    · by_cases h2 : b = c
      · subst h1; subst h2; simp; omega
      · subst h1; simp [h2]; omega
    · by_cases h2 : b = c
      · subst h2; simp [h1]; omega
      · simp [h1, h2]; split <;> omega
theorem dist_zero : ∀ {v w : List Nat}, v.length = w.length → dist v w = 0 → v = w
  | [], [], _, _ => rfl
  | [], _ :: _, h, _ => by cases h
  | _ :: _, [], h, _ => by cases h
  | b :: v, c :: w, h, h0 => by
    simp only [dist] at h0
    by_cases hb : b = c
    · subst hb; rw [dist_zero (v := v) (w := w) (by simpa using h) (by omega)]
    · simp [hb] at h0

/-- what errors at places give, for a power -/
def syn (l : List (Nat × Nat)) (j : Nat) : Nat := l.foldr (fun p s => gm p.2 (gpow p.1 j) ^^^ s) 0
theorem syn_cons (p : Nat × Nat) (l : List (Nat × Nat)) (j : Nat) : syn (p :: l) j = gm p.2 (gpow p.1 j) ^^^ syn l j := rfl
def Pairs (l : List (Nat × Nat)) : Prop := ∀ p ∈ l, p.1 < 256 ∧ p.2 < 256
theorem syn_lt {l : List (Nat × Nat)} (h : Pairs l) (j : Nat) : syn l j < 256 := by
  induction l with
  | nil => show 0 < 256; omega
  | cons p l ih => exact xor_lt (gm_lt (h p (by simp)).2 _) (ih fun q hq => h q (by simp [hq]))
/-- the step of the elimination -/
theorem syn_step {x : Nat} (hx : x < 256) {l : List (Nat × Nat)} (h : Pairs l) (j : Nat) :
    syn (l.map fun p => (p.1, gm p.2 (p.1 ^^^ x))) j = syn l (j + 1) ^^^ gm x (syn l j) := by
  induction l with
  | nil => show 0 = 0 ^^^ gm x 0; rw [gm_zero_right]; rfl
  | cons p l ih =>
    have hp := h p (by simp)
    have hl : Pairs l := fun q hq => h q (by simp [hq])
    have hg := gpow_lt hp.1 j
    rw [List.map_cons, syn_cons, syn_cons, syn_cons, ih hl, gm_xor_right (b := gm p.2 (gpow p.1 j))]
    have e1 : gm (gm p.2 (p.1 ^^^ x)) (gpow p.1 j) = gm p.2 (gpow p.1 (j + 1)) ^^^ gm x (gm p.2 (gpow p.1 j)) := by
      rw [gm_xor_right, gm_xor_left (gm_lt hp.2 _) (gm_lt hp.2 _)]
      congr 1
      · rw [gm_assoc hp.2 hp.1 hg, gm_comm hp.1 hg]; rfl
      · rw [gm_comm hp.2 hx, gm_assoc hx hp.2 hg]
    show gm (gm p.2 (p.1 ^^^ x)) (gpow p.1 j) ^^^ _ = _
    rw [e1, xor_mid]
/-- at most m errors at different places that give 0 at m powers are none -/
theorem syn_zero (m : Nat) : ∀ l : List (Nat × Nat), Pairs l → (l.map (·.1)).Nodup → l.length ≤ m → (∀ j, j < m → syn l j = 0) → ∀ p ∈ l, p.2 = 0 := by
  induction m with
  | zero =>
    intro l _ _ hl _ p hp
    have : l = [] := List.eq_nil_of_length_eq_zero (by omega)
    subst this; cases hp
  | succ m ih =>
    intro l h hn hl hs
    cases l with
    | nil => intro p hp; cases hp
    | cons q l =>
      have hq := h q (by simp)
      have hl' : Pairs l := fun r hr => h r (by simp [hr])
      have hn' := List.nodup_cons.1 (by simpa using hn : (q.1 :: l.map (·.1)).Nodup)
      have key : ∀ p ∈ l, p.2 = 0 := by
        have hz := ih (l.map fun p => (p.1, gm p.2 (p.1 ^^^ q.1))) ?_ ?_ ?_ ?_
        · intro p hp
          have := hz (p.1, gm p.2 (p.1 ^^^ q.1)) (List.mem_map.2 ⟨p, hp, rfl⟩)
          rcases gm_eq_zero (hl' p hp).2 (xor_lt (hl' p hp).1 hq.1) this with h0 | h0
          · exact h0
          · have e := xor_eq_zero h0
            exact absurd (List.mem_map.2 ⟨p, hp, e⟩) hn'.1
        · intro r hr
          obtain ⟨p, hp, rfl⟩ := List.mem_map.1 hr
          exact ⟨(hl' p hp).1, gm_lt (hl' p hp).2 _⟩
        · rw [List.map_map]; exact hn'.2
        · simp at hl ⊢; omega
        · intro j hj
          have e := syn_step hq.1 h j
          rw [hs (j + 1) (by omega), hs j (by omega), gm_zero_right, List.map_cons, syn_cons] at e
          have e0 : gm (gm q.2 (q.1 ^^^ q.1)) (gpow q.1 j) = 0 := by rw [Nat.xor_self, gm_zero_right, gm_zero_left]
          have e' : gm (gm q.2 (q.1 ^^^ q.1)) (gpow q.1 j) ^^^ syn (l.map fun p => (p.1, gm p.2 (p.1 ^^^ q.1))) j = 0 ^^^ 0 := e
          rw [e0, Nat.zero_xor] at e'
          exact e'
      intro p hp
      cases hp with
      | tail _ hp => exact key p hp
      | head =>
        have h0 := hs 0 (by omega)
        rw [syn_cons] at h0
        have hz : syn l 0 = 0 := by
          clear h0 hs hn hl h hn' hl' ih
          induction l with
          | nil => rfl
          | cons r l ih' => rw [syn_cons, key r (by simp), gm_zero_left, Nat.zero_xor]; exact ih' fun p hp => key p (by simp [hp])
        rw [hz, Nat.xor_zero] at h0
        have : gm q.2 1 = 0 := h0
        rwa [gm_one_right] at this

/-- the powers of 2 below the 255th are different -/
theorem two_pow_tab : ∀ i, i < 255 → ∀ k, k < i → tpow k 1 ≠ tpow i 1 := by decide +kernel
theorem gpow_two (i : Nat) : gpow 2 i = tpow i 1 := by
  induction i with
  | zero => rfl
  | succ i ih =>
    show gm (gpow 2 i) 2 = tstep (tpow i 1)
    rw [ih]
    exact gm_two_pow _ (tpow_lt i (by omega)) 1 (by omega)
theorem gpow_two_ne {i k : Nat} (hi : i < 255) (hk : k < i) : gpow 2 k ≠ gpow 2 i := by
  rw [gpow_two, gpow_two]; exact two_pow_tab i hi k hk
theorem gpow_two_lt (i : Nat) : gpow 2 i < 256 := gpow_lt (by omega) i
theorem gpow_gpow {a : Nat} (ha : a < 256) (i j : Nat) : gpow (gpow a i) j = gpow a (i * j) := by
  induction j with
  | zero => rfl
  | succ j ih => rw [Nat.mul_succ, gpow_add ha, ← ih]; rfl
theorem gpow_swap {a : Nat} (ha : a < 256) (i j : Nat) : gpow (gpow a i) j = gpow (gpow a j) i := by
  rw [gpow_gpow ha, gpow_gpow ha, Nat.mul_comm]

/-- a word as errors at the powers of 2 -/
def places : List Nat → List (Nat × Nat)
  | [] => []
  | b :: w => (gpow 2 w.length, b) :: places w
theorem places_pairs {w : List Nat} (hw : Bytes w) : Pairs (places w) := by
  induction w with
  | nil => intro p hp; cases hp
  | cons b w ih =>
    intro p hp
    cases hp with
    | head => exact ⟨gpow_two_lt _, hw.head⟩
    | tail _ hp => exact ih hw.tail p hp
theorem val_places {w : List Nat} (j : Nat) : val w (gpow 2 j) = syn (places w) j := by
  induction w with
  | nil => rfl
  | cons b w ih => show gm b (gpow (gpow 2 j) w.length) ^^^ val w (gpow 2 j) = gm b (gpow (gpow 2 w.length) j) ^^^ syn (places w) j; rw [ih, gpow_swap (by omega)]
theorem places_mem {w : List Nat} {x : Nat} (h : x ∈ (places w).map (·.1)) : ∃ k, k < w.length ∧ x = gpow 2 k := by
  induction w with
  | nil => cases h
  | cons b w ih =>
    cases h with
    | head => exact ⟨w.length, by simp, rfl⟩
    | tail _ h => obtain ⟨k, hk, e⟩ := ih h; exact ⟨k, by simp; omega, e⟩
theorem places_nodup {w : List Nat} (h : w.length ≤ 255) : ((places w).map (·.1)).Nodup := by
  induction w with
  | nil => exact List.nodup_nil
  | cons b w ih =>
    refine List.nodup_cons.2 ⟨?_, ih (by simp at h; omega)⟩
    intro hm
    obtain ⟨k, hk, e⟩ := places_mem hm
    exact gpow_two_ne (by simp at h; omega) hk e.symm

def Code (w : List Nat) : Prop := ∀ j, j < 6 → val w (gpow 2 j) = 0
def weight (w : List Nat) : Nat := (w.filter (· != 0)).length
theorem syn_filter (l : List (Nat × Nat)) (j : Nat) : syn (l.filter (·.2 != 0)) j = syn l j := by
  induction l with
  | nil => rfl
  | cons p l ih =>
    by_cases h : p.2 = 0
    · rw [List.filter_cons_of_neg (by simp [h]), syn_cons, h, gm_zero_left, Nat.zero_xor, ih]
    · rw [List.filter_cons_of_pos (by simp [h]), syn_cons, syn_cons, ih]
theorem weight_places (w : List Nat) : ((places w).filter (·.2 != 0)).length = weight w := by
  induction w with
  | nil => rfl
  | cons b w ih =>
    unfold weight at ih ⊢
    show (((gpow 2 w.length, b) :: places w).filter (·.2 != 0)).length = _
    by_cases h : b = 0
    · rw [List.filter_cons_of_neg (by simp [h]), List.filter_cons_of_neg (by simp [h]), ih]
    · rw [List.filter_cons_of_pos (by simp [h]), List.filter_cons_of_pos (by simp [h]), List.length_cons, List.length_cons, ih]
theorem code_light {w : List Nat} (hw : Bytes w) (hl : w.length ≤ 255) (hc : Code w) (h6 : weight w ≤ 6) : weight w = 0 := by
  have hz := syn_zero 6 ((places w).filter (·.2 != 0)) (fun p hp => places_pairs hw p (List.mem_filter.1 hp).1)
    ((places_nodup hl).sublist ((List.filter_sublist).map _)) (by rw [weight_places]; exact h6)
    (fun j hj => by rw [syn_filter, ← val_places]; exact hc j hj)
  rw [← weight_places]
  cases hf : (places w).filter (·.2 != 0) with
  | nil => rfl
  | cons p l =>
    have hm : p ∈ (places w).filter (·.2 != 0) := by rw [hf]; simp
    have := (List.mem_filter.1 hm).2
    simp [hz p hm] at this
theorem weight_xors : ∀ {v w : List Nat}, v.length = w.length → weight (xors v w) = dist v w
  | [], _, _ => rfl
  | _ :: _, [], h => by cases h
  | b :: v, c :: w, h => by
    have ih := weight_xors (v := v) (w := w) (by simpa using h)
    unfold weight at ih ⊢
    show (((b ^^^ c) :: xors v w).filter (· != 0)).length = (if b = c then 0 else 1) + dist v w
    by_cases e : b = c
    · subst e; rw [List.filter_cons_of_neg (by simp), ih]; simp
    · rw [List.filter_cons_of_pos (by simp; exact fun h0 => e (xor_eq_zero h0)), List.length_cons, ih]; simp [e]; omega
/-- TWO CODE WORDS OF ONE LENGTH THAT DIFFER IN AT MOST SIX PLACES ARE ONE. -/
theorem code_apart {v w : List Nat} (hv : Bytes v) (hw : Bytes w) (h : v.length = w.length) (hl : v.length ≤ 255) (cv : Code v) (cw : Code w) (hd : dist v w ≤ 6) : v = w := by
  have hc : Code (xors v w) := by
    intro j hj; rw [val_xors _ hv hw h, cv j hj, cw j hj]; rfl
  have := code_light (xors_bytes hv hw) (by rw [xors_length h]; exact hl) hc (by rw [weight_xors h]; exact hd)
  rw [weight_xors h] at this
  exact dist_zero h this
end Rad
/- The code's generator and the check bytes, as lists. -/
namespace Rad

/-- one coefficient is multiplied in -/
def gput (g : List Nat) (a : Nat) (nx : List Nat) (i : Nat) : List Nat :=
  let n1 := nx.set i (nx.getD i 0 ^^^ g.getD i 0)
  n1.set (i + 1) (n1.getD (i + 1) 0 ^^^ gm (g.getD i 0) a)
def gpart (g : List Nat) (a : Nat) : Nat → List Nat
  | 0 => List.replicate (g.length + 1) 0
  | k + 1 => gput g a (gpart g a k) k
def gens : Nat → List Nat
  | 0 => [1]
  | j + 1 => gpart (gens j) (gpow 2 j) (gens j).length
theorem gput_length (g : List Nat) (a : Nat) (nx : List Nat) (i : Nat) : (gput g a nx i).length = nx.length := by simp [gput]
theorem gpart_length (g : List Nat) (a k : Nat) : (gpart g a k).length = g.length + 1 := by
  induction k with
  | zero => simp [gpart]
  | succ k ih => rw [gpart, gput_length, ih]
theorem gens_length (j : Nat) : (gens j).length = j + 1 := by
  induction j with
  | zero => rfl
  | succ j ih => rw [gens, gpart_length, ih]
theorem Bytes.getD {l : List Nat} (h : Bytes l) (i : Nat) : l.getD i 0 < 256 := by
  rw [List.getD_eq_getElem?_getD]
  rcases Nat.lt_or_ge i l.length with hi | hi
  · rw [List.getElem?_eq_getElem hi]; exact h _ (List.getElem_mem hi)
  · rw [List.getElem?_eq_none hi]; show 0 < 256; omega
theorem Bytes.set {l : List Nat} (h : Bytes l) (i : Nat) {x : Nat} (hx : x < 256) : Bytes (l.set i x) := by
  intro b hb
  rcases List.mem_or_eq_of_mem_set hb with hb | hb
  · exact h b hb
  · rw [hb]; exact hx
theorem Bytes.replicate (n : Nat) : Bytes (List.replicate n 0) := by
  intro b hb; rw [(List.mem_replicate.1 hb).2]; omega
theorem gput_bytes {g : List Nat} {a : Nat} {nx : List Nat} (hg : Bytes g) (hn : Bytes nx) (i : Nat) : Bytes (gput g a nx i) := by
  unfold gput
  have h1 := hn.set i (xor_lt (hn.getD i) (hg.getD i))
  exact h1.set _ (xor_lt (h1.getD _) (gm_lt (hg.getD i) _))
theorem gpart_bytes {g : List Nat} {a : Nat} (hg : Bytes g) (k : Nat) : Bytes (gpart g a k) := by
  induction k with
  | zero => exact Bytes.replicate _
  | succ k ih => exact gput_bytes hg ih k
theorem gens_bytes (j : Nat) : Bytes (gens j) := by
  induction j with
  | zero => intro b hb; simp [gens] at hb; omega
  | succ j ih => exact gpart_bytes ih _
theorem gens_six : gens 6 = [1, 63, 1, 218, 32, 227, 38] := by decide +kernel

/-! ### the division -/
def dput (g : List Nat) (c i : Nat) (rest : List Nat) (k : Nat) : List Nat := rest.set (i + k) (rest.getD (i + k) 0 ^^^ gm c (g.getD k 0))
def dpart (g : List Nat) (c i : Nat) (rest : List Nat) : Nat → List Nat
  | 0 => rest
  | k + 1 => dput g c i (dpart g c i rest k) k
def dround (g rest : List Nat) (i : Nat) : List Nat := dpart g (rest.getD i 0) i rest g.length
def drounds (g rest : List Nat) : Nat → List Nat
  | 0 => rest
  | i + 1 => dround g (drounds g rest i) i
theorem dpart_length (g : List Nat) (c i : Nat) (rest : List Nat) (k : Nat) : (dpart g c i rest k).length = rest.length := by
  induction k with
  | zero => rfl
  | succ k ih => rw [dpart, dput, List.length_set, ih]
theorem dround_length (g rest : List Nat) (i : Nat) : (dround g rest i).length = rest.length := dpart_length _ _ _ _ _
theorem drounds_length (g rest : List Nat) (k : Nat) : (drounds g rest k).length = rest.length := by
  induction k with
  | zero => rfl
  | succ k ih => rw [drounds, dround_length, ih]
theorem dpart_bytes {g rest : List Nat} (hr : Bytes rest) {c : Nat} (hc : c < 256) (i k : Nat) : Bytes (dpart g c i rest k) := by
  induction k with
  | zero => exact hr
  | succ k ih => exact ih.set _ (xor_lt (ih.getD _) (gm_lt hc _))
theorem dround_bytes {g rest : List Nat} (hr : Bytes rest) (i : Nat) : Bytes (dround g rest i) := dpart_bytes hr (hr.getD i) _ _
theorem drounds_bytes {g rest : List Nat} (hr : Bytes rest) (k : Nat) : Bytes (drounds g rest k) := by
  induction k with
  | zero => exact hr
  | succ k ih => exact dround_bytes ih _
theorem getD_set (l : List Nat) (i x p : Nat) : (l.set i x).getD p 0 = if i = p ∧ i < l.length then x else l.getD p 0 := by
  simp only [List.getD_eq_getElem?_getD, List.getElem?_set]
  by_cases h : i = p
  · subst h
    by_cases h2 : i < l.length
    · simp [h2]
    · simp [h2]
  · simp [h]
theorem dpart_getD (g : List Nat) (c i : Nat) (rest : List Nat) (p : Nat) : ∀ k, i + k ≤ rest.length →
    (dpart g c i rest k).getD p 0 = if i ≤ p ∧ p < i + k then rest.getD p 0 ^^^ gm c (g.getD (p - i) 0) else rest.getD p 0
  | 0, _ => by rw [if_neg (by omega)]; rfl
  | k + 1, h => by
    rw [dpart, dput, getD_set, dpart_length, dpart_getD g c i rest p k (by omega), dpart_getD g c i rest (i + k) k (by omega)]
    rw [if_neg (by omega : ¬ (i ≤ i + k ∧ i + k < i + k))]
    by_cases h1 : i + k = p
    · subst h1
      rw [if_pos ⟨rfl, by omega⟩, if_pos (by omega), show i + k - i = k from by omega]
    · rw [if_neg (by omega)]
      by_cases h2 : i ≤ p ∧ p < i + k
      · rw [if_pos h2, if_pos (by omega)]
      · rw [if_neg h2, if_neg (by omega)]
theorem list_ext_getD {l m : List Nat} (h : l.length = m.length) (he : ∀ p, p < l.length → l.getD p 0 = m.getD p 0) : l = m := by
  apply List.ext_getElem h
  intro p h1 h2
  have := he p h1
  simp only [List.getD_eq_getElem?_getD, List.getElem?_eq_getElem h1, List.getElem?_eq_getElem h2] at this
  exact this
theorem xors_getD {v w : List Nat} (h : v.length = w.length) (p : Nat) : (xors v w).getD p 0 = v.getD p 0 ^^^ w.getD p 0 := by
  simp only [List.getD_eq_getElem?_getD, xors, List.getElem?_zipWith]
  rcases Nat.lt_or_ge p v.length with hp | hp
  · rw [List.getElem?_eq_getElem hp, List.getElem?_eq_getElem (by omega : p < w.length)]; rfl
  · rw [List.getElem?_eq_none hp, List.getElem?_eq_none (by omega : w.length ≤ p)]; rfl
/-- what a round adds -/
def addend (g : List Nat) (c i n : Nat) : List Nat := List.replicate i 0 ++ (g.map (gm c) ++ List.replicate (n - i - g.length) 0)
theorem addend_length (g : List Nat) (c i n : Nat) (h : i + g.length ≤ n) : (addend g c i n).length = n := by simp [addend]; omega
theorem addend_getD (g : List Nat) (c i n p : Nat) : (addend g c i n).getD p 0 = if i ≤ p ∧ p < i + g.length then gm c (g.getD (p - i) 0) else 0 := by
  simp only [addend, List.getD_eq_getElem?_getD]
  by_cases h1 : p < i
  · rw [List.getElem?_append_left (by simpa using h1), if_neg (by omega)]
    simp [h1]
  · rw [List.getElem?_append_right (by simpa using h1), List.length_replicate]
    by_cases h2 : p < i + g.length
    · rw [List.getElem?_append_left (by simp; omega), if_pos (by omega), List.getElem?_map, List.getElem?_eq_getElem (by omega : p - i < g.length)]
      rfl
    · rw [List.getElem?_append_right (by simp; omega), if_neg (by omega)]
      simp only [List.getElem?_replicate]
      split <;> rfl
theorem dround_eq {g rest : List Nat} {i : Nat} (h : i + g.length ≤ rest.length) : dround g rest i = xors rest (addend g (rest.getD i 0) i rest.length) := by
  have hl := addend_length g (rest.getD i 0) i rest.length h
  apply list_ext_getD
  · rw [dround_length, xors_length hl.symm]
  · intro p _
    rw [dround, dpart_getD _ _ _ _ _ _ h, xors_getD hl.symm, addend_getD]
    split
    · rfl
    · rw [Nat.xor_zero]
theorem val_append {a : Nat} (ha : a < 256) : ∀ {v u : List Nat}, Bytes v → Bytes u → val (v ++ u) a = gm (val v a) (gpow a u.length) ^^^ val u a
  | [], u, _, _ => by simp [val, gm_zero_left]
  | b :: v, u, hv, hu => by
    have ih := val_append ha (v := v) (u := u) hv.tail hu
    show gm b (gpow a (v ++ u).length) ^^^ val (v ++ u) a = gm (gm b (gpow a v.length) ^^^ val v a) (gpow a u.length) ^^^ val u a
    rw [ih, List.length_append, gpow_add ha, gm_xor_left (gm_lt hv.head _) (val_lt hv.tail a), gm_assoc hv.head (gpow_lt ha _) (gpow_lt ha _), Nat.xor_assoc]
theorem val_zeros (a n : Nat) : val (List.replicate n 0) a = 0 := by
  induction n with
  | zero => rfl
  | succ n ih => rw [List.replicate_succ, val, ih, gm_zero_left]; rfl
theorem val_map {a c : Nat} (ha : a < 256) (hc : c < 256) : ∀ {g : List Nat}, Bytes g → val (g.map (gm c)) a = gm c (val g a)
  | [], _ => (gm_zero_right c).symm
  | b :: g, hg => by
    have ih := val_map ha hc (g := g) hg.tail
    show gm (gm c b) (gpow a (g.map (gm c)).length) ^^^ val (g.map (gm c)) a = gm c (gm b (gpow a g.length) ^^^ val g a)
    rw [ih, gm_xor_right, List.length_map, gm_assoc hc hg.head (gpow_lt ha _)]
theorem addend_bytes {g : List Nat} {c : Nat} (hc : c < 256) (i n : Nat) : Bytes (addend g c i n) := by
  refine (Bytes.replicate i).append (Bytes.append ?_ (Bytes.replicate _))
  intro b hb
  obtain ⟨x, _, rfl⟩ := List.mem_map.1 hb
  exact gm_lt hc x
theorem map_bytes {g : List Nat} {c : Nat} (hc : c < 256) : Bytes (g.map (gm c)) := by
  intro b hb
  obtain ⟨x, _, rfl⟩ := List.mem_map.1 hb
  exact gm_lt hc x
theorem val_addend {a : Nat} (ha : a < 256) {g : List Nat} (hg : Bytes g) {c : Nat} (hc : c < 256) (i n : Nat) (h0 : val g a = 0) : val (addend g c i n) a = 0 := by
  unfold addend
  rw [val_append ha (Bytes.replicate i) ((map_bytes hc).append (Bytes.replicate _)), val_zeros, gm_zero_left, Nat.zero_xor, val_append ha (map_bytes hc) (Bytes.replicate _), val_zeros,
    val_map ha hc hg, h0, gm_zero_right, gm_zero_left]; rfl
theorem val_dround {a : Nat} (ha : a < 256) {g rest : List Nat} (hg : Bytes g) (hr : Bytes rest) {i : Nat} (h : i + g.length ≤ rest.length) (h0 : val g a = 0) : val (dround g rest i) a = val rest a := by
  have hl := addend_length g (rest.getD i 0) i rest.length h
  rw [dround_eq h, val_xors a hr (addend_bytes (hr.getD i) _ _) hl.symm, val_addend ha hg (hr.getD i) _ _ h0, Nat.xor_zero]
theorem val_drounds {a : Nat} (ha : a < 256) {g rest : List Nat} (hg : Bytes g) (hr : Bytes rest) (h0 : val g a = 0) : ∀ k, k + g.length ≤ rest.length + 1 → val (drounds g rest k) a = val rest a
  | 0, _ => rfl
  | k + 1, h => by
    rw [drounds, val_dround ha hg (drounds_bytes hr k) (by rw [drounds_length]; omega) h0, val_drounds ha hg hr h0 k (by omega)]
/-- behind k rounds the first k places are 0, if the divisor begins with 1 -/
theorem drounds_zero {g rest : List Nat} (hg : 0 < g.length) (h1 : g.getD 0 0 = 1) : ∀ k, k + g.length ≤ rest.length + 1 → ∀ p, p < k → (drounds g rest k).getD p 0 = 0
  | 0, _, p, hp => by omega
  | k + 1, h, p, hp => by
    rw [drounds, dround, dpart_getD _ _ _ _ _ _ (by rw [drounds_length]; omega)]
    by_cases hk : p = k
    · subst hk
      rw [if_pos (by omega), Nat.sub_self, h1, gm_one_right, Nat.xor_self]
    · rw [if_neg (by omega)]
      exact drounds_zero hg h1 k (by omega) p (by omega)
/-- the check bytes -/
def chk (s : List Nat) : List Nat := (drounds (gens 6) (s ++ List.replicate 6 0) s.length).drop s.length
theorem chk_length (s : List Nat) : (chk s).length = 6 := by simp [chk, drounds_length]
theorem chk_bytes {s : List Nat} (hs : Bytes s) : Bytes (chk s) := fun b hb => drounds_bytes (hs.append (Bytes.replicate 6)) _ b (List.mem_of_mem_drop hb)
theorem gens_roots : ∀ j, j < 6 → val (gens 6) (gpow 2 j) = 0 := by rw [gens_six]; decide +kernel
theorem take_zero {l : List Nat} : ∀ {k : Nat}, k ≤ l.length → (∀ p, p < k → l.getD p 0 = 0) → l.take k = List.replicate k 0 := by
  intro k hk h
  apply list_ext_getD
  · simp; omega
  · intro p hp
    have hpk : p < k := by simp at hp; omega
    have := h p hpk
    simp only [List.getD_eq_getElem?_getD, List.getElem?_take, List.getElem?_replicate, hpk, if_true] at this ⊢
    rw [this]; rfl
/-- A STRING FOLLOWED BY ITS CHECK BYTES IS A CODE WORD. -/
theorem chk_code {s : List Nat} (hs : Bytes s) : Code (s ++ chk s) := by
  intro j hj
  have ha := gpow_two_lt j
  have hr := hs.append (Bytes.replicate 6)
  have hl : s.length + (gens 6).length ≤ (s ++ List.replicate 6 0).length + 1 := by rw [gens_length]; simp
  have e := val_drounds ha (gens_bytes 6) hr (gens_roots j hj) s.length hl
  have hz := take_zero (l := drounds (gens 6) (s ++ List.replicate 6 0) s.length) (k := s.length) (by rw [drounds_length]; simp) (drounds_zero (by rw [gens_length]; omega) (by rw [gens_six]; rfl) s.length hl)
  rw [← List.take_append_drop s.length (drounds (gens 6) (s ++ List.replicate 6 0) s.length), hz, show List.drop s.length (drounds (gens 6) (s ++ List.replicate 6 0) s.length) = chk s from rfl, val_append ha (Bytes.replicate _) (chk_bytes hs), val_zeros, gm_zero_left, Nat.zero_xor,
    val_append ha hs (Bytes.replicate 6), val_zeros, Nat.xor_zero, List.length_replicate] at e
  have e' : val (chk s) (gpow 2 j) = gm (val s (gpow 2 j)) (gpow (gpow 2 j) 6) := e
  rw [val_append ha hs (chk_bytes hs), chk_length, e', Nat.xor_self]

/-! ### the reference's divisor -/
def rput (g : List Nat) (a : Nat) (nx : List Nat) (i : Nat) : List Nat := nx.set (i + 1) (nx.getD (i + 1) 0 ^^^ gm (g.getD i 0) a)
def rpart (g : List Nat) (a : Nat) : Nat → List Nat
  | 0 => g ++ [0]
  | k + 1 => rput g a (rpart g a k) k
def rgens : Nat → List Nat
  | 0 => [1]
  | j + 1 => rpart (rgens j) (gpow 2 j) (rgens j).length
theorem rpart_length (g : List Nat) (a k : Nat) : (rpart g a k).length = g.length + 1 := by
  induction k with
  | zero => simp [rpart]
  | succ k ih => rw [rpart, rput, List.length_set, ih]
theorem rgens_length (j : Nat) : (rgens j).length = j + 1 := by
  induction j with
  | zero => rfl
  | succ j ih => rw [rgens, rpart_length, ih]
theorem rpart_bytes {g : List Nat} {a : Nat} (hg : Bytes g) (k : Nat) : Bytes (rpart g a k) := by
  induction k with
  | zero => exact hg.append (Bytes.replicate 1)
  | succ k ih => exact ih.set _ (xor_lt (ih.getD _) (gm_lt (hg.getD k) _))
theorem rgens_bytes (j : Nat) : Bytes (rgens j) := by
  induction j with
  | zero => intro b hb; simp [rgens] at hb; omega
  | succ j ih => exact rpart_bytes ih _
theorem rgens_six : rgens 6 = gens 6 := by decide +kernel
end Rad
/- The tables of powers and logarithms, as one list of 511 numbers. -/
namespace Rad

def fld : Nat → List Nat
  | 0 => List.replicate 511 0
  | n + 1 => ((fld n).set n (gpow 2 n)).set (255 + gpow 2 n) n
theorem fld_length (n : Nat) : (fld n).length = 511 := by
  induction n with
  | zero => exact List.length_replicate
  | succ n ih => rw [fld, List.length_set, List.length_set, ih]
theorem fld_exp : ∀ n, n ≤ 255 → ∀ i, i < n → (fld n).getD i 0 = gpow 2 i
  | 0, _, i, hi => by omega
  | n + 1, h, i, hi => by
    rw [fld, getD_set, getD_set, List.length_set, fld_length, if_neg (by omega)]
    by_cases e : n = i
    · subst e; rw [if_pos ⟨rfl, by omega⟩]
    · rw [if_neg (by omega)]; exact fld_exp n (by omega) i (by omega)
theorem fld_log : ∀ n, n ≤ 255 → ∀ i, i < n → (fld n).getD (255 + gpow 2 i) 0 = i
  | 0, _, i, hi => by omega
  | n + 1, h, i, hi => by
    have hl := gpow_two_lt n
    rw [fld, getD_set, getD_set, List.length_set, fld_length]
    by_cases e : n = i
    · subst e; rw [if_pos ⟨rfl, by omega⟩]
    · have hne := gpow_two_ne (i := n) (k := i) (by omega) (by omega)
      rw [if_neg (by omega), if_neg (by omega)]
      exact fld_log n (by omega) i (by omega)
theorem fld_lt : ∀ n, n ≤ 255 → Bytes (fld n)
  | 0, _ => Bytes.replicate _
  | n + 1, h => ((fld_lt n (by omega)).set _ (gpow_two_lt n)).set _ (by omega)
def powsFrom : Nat → Nat → List Nat
  | 0, _ => []
  | n + 1, x => x :: powsFrom n (tstep x)
theorem tpow_succ' (i x : Nat) : tpow i (tstep x) = tpow (i + 1) x := by induction i with | zero => rfl | succ i ih => rw [tpow, ih]; rfl
theorem powsFrom_mem : ∀ n x y, y ∈ powsFrom n x → ∃ i, i < n ∧ y = tpow i x
  | 0, _, _, h => by cases h
  | n + 1, x, y, h => by
    cases h with
    | head => exact ⟨0, by omega, rfl⟩
    | tail _ h => obtain ⟨i, hi, e⟩ := powsFrom_mem n _ y h; exact ⟨i + 1, by omega, by rw [e, tpow_succ']⟩
theorem pows_all : ∀ x, x < 256 → x = 0 ∨ x ∈ powsFrom 255 1 := by decide +kernel
theorem log_exists {x : Nat} (hx : x < 256) (h0 : x ≠ 0) : ∃ i, i < 255 ∧ x = gpow 2 i := by
  rcases pows_all x hx with h | h
  · exact absurd h h0
  · obtain ⟨i, hi, e⟩ := powsFrom_mem _ _ _ h
    exact ⟨i, hi, by rw [e, gpow_two]⟩
theorem gpow_two_255 : gpow 2 255 = 1 := by rw [gpow_two]; decide +kernel
theorem gpow_two_mod (n : Nat) : gpow 2 (n % 255) = gpow 2 n := by
  have h : ∀ q r, gpow 2 (255 * q + r) = gpow 2 r := by
    intro q r
    induction q with
    | zero => simp
    | succ q ih => rw [show 255 * (q + 1) + r = 255 + (255 * q + r) from by omega, gpow_add (by omega), gpow_two_255, gm_one_left (gpow_two_lt _), ih]
  conv => rhs; rw [← Nat.div_add_mod n 255]
  rw [h]
/-- a divided by b, by the tables -/
def tab : List Nat := fld 255
theorem tab_length : tab.length = 511 := fld_length _
theorem tab_exp {i : Nat} (h : i < 255) : tab.getD i 0 = gpow 2 i := fld_exp 255 (by omega) i h
theorem tab_log_lt {x : Nat} (hx : x < 256) (h0 : x ≠ 0) : tab.getD (255 + x) 0 < 255 := by
  obtain ⟨i, hi, rfl⟩ := log_exists hx h0
  rw [tab, fld_log 255 (by omega) i hi]; exact hi
theorem tab_log {x : Nat} (hx : x < 256) (h0 : x ≠ 0) : gpow 2 (tab.getD (255 + x) 0) = x := by
  obtain ⟨i, hi, rfl⟩ := log_exists hx h0
  rw [tab, fld_log 255 (by omega) i hi]
theorem gm_ginv_left {b : Nat} (hb : b < 256) (h0 : b ≠ 0) : gm (ginv b) b = 1 := by rw [gm_comm (ginv_lt hb) hb, gm_ginv hb h0]
theorem over_eq {a b : Nat} (ha : a < 256) (hb : b < 256) (ha0 : a ≠ 0) (hb0 : b ≠ 0) :
    tab.getD ((tab.getD (255 + a) 0 + 255 - tab.getD (255 + b) 0) % 255) 0 = gm a (ginv b) := by
  have la := tab_log_lt ha ha0
  have lb := tab_log_lt hb hb0
  have ea := tab_log ha ha0
  have eb := tab_log hb hb0
  generalize tab.getD (255 + a) 0 = i at *
  generalize tab.getD (255 + b) 0 = k at *
  rw [tab_exp (Nat.mod_lt _ (by omega)), gpow_two_mod]
  have h1 : gm (gpow 2 (i + 255 - k)) b = a := by
    rw [← eb, ← gpow_add (by omega), show i + 255 - k + k = 255 + i from by omega, gpow_add (by omega), gpow_two_255, gm_one_left (gpow_two_lt _), ea]
  have h2 : gm (gm (gpow 2 (i + 255 - k)) b) (ginv b) = gpow 2 (i + 255 - k) := by
    rw [gm_assoc (gpow_two_lt _) hb (ginv_lt hb), gm_ginv hb hb0, gm_one_right]
  rw [← h2, h1]
end Rad
/- At most two wrong bytes: what the values determine. -/
namespace Rad

def expl (ps : List (Nat × Nat)) (v : List Nat) : Bool := (List.range 6).all fun j => syn ps j == v.getD j 0
def pairsOf (n : Nat) (l : List (Nat × Nat)) : List (Nat × Nat) := l.map fun p => (gpow 2 (n - 1 - p.1), p.2)
def GoodF (n : Nat) (l : List (Nat × Nat)) : Prop := ∀ p ∈ l, p.1 < n ∧ p.2 < 256
/-- l is a list of at most two wrong bytes of a word of n bytes that gives the values v -/
structure Sol (n : Nat) (v : List Nat) (l : List (Nat × Nat)) : Prop where
  good : GoodF n l
  nz : ∀ p ∈ l, p.2 ≠ 0
  nodup : (l.map (·.1)).Nodup
  two : l.length ≤ 2
  syns : ∀ j, j < 6 → syn (pairsOf n l) j = v.getD j 0
theorem expl_iff (ps : List (Nat × Nat)) (v : List Nat) : expl ps v = true ↔ ∀ j, j < 6 → syn ps j = v.getD j 0 := by
  simp [expl]
def other (n v0 v1 i k : Nat) : Nat := gm (v1 ^^^ gm v0 (gpow 2 (n - 1 - i))) (ginv (gpow 2 (n - 1 - i) ^^^ gpow 2 (n - 1 - k)))
theorem gpow_ne {n i k : Nat} (hn : n ≤ 255) (hi : i < n) (hk : k < n) (h : i ≠ k) : gpow 2 (n - 1 - i) ≠ gpow 2 (n - 1 - k) := by
  rcases Nat.lt_or_ge i k with h1 | h1
  · exact fun e => gpow_two_ne (i := n - 1 - i) (k := n - 1 - k) (by omega) (by omega) e.symm
  · exact gpow_two_ne (i := n - 1 - k) (k := n - 1 - i) (by omega) (by omega)
theorem xor_ne {a b : Nat} (h : a ≠ b) : a ^^^ b ≠ 0 := fun e => h (xor_eq_zero e)
theorem other_eq {n v0 v1 i k a b : Nat} (hn : n ≤ 255) (hi : i < n) (hk : k < n) (hne : i ≠ k) (ha : a < 256) (hb : b < 256)
    (h0 : a ^^^ b = v0) (h1 : gm a (gpow 2 (n - 1 - i)) ^^^ gm b (gpow 2 (n - 1 - k)) = v1) : other n v0 v1 i k = b := by
  have hx := gpow_two_lt (n - 1 - i)
  have hy := gpow_two_lt (n - 1 - k)
  have hxy := xor_lt hx hy
  have hd := xor_ne (gpow_ne hn hi hk hne)
  have e : v1 ^^^ gm v0 (gpow 2 (n - 1 - i)) = gm b (gpow 2 (n - 1 - i) ^^^ gpow 2 (n - 1 - k)) := by
    rw [← h0, ← h1, gm_xor_left ha hb, gm_xor_right]
    generalize gm a (gpow 2 (n - 1 - i)) = p
    generalize gm b (gpow 2 (n - 1 - k)) = q
    generalize gm b (gpow 2 (n - 1 - i)) = r
    rw [← xor_mid p p q r, Nat.xor_self, Nat.zero_xor, Nat.xor_comm]
  rw [other, e, gm_assoc hb hxy (ginv_lt hxy), gm_ginv hxy hd, gm_one_right]
theorem syn_one (p : Nat × Nat) (j : Nat) : syn [p] j = gm p.2 (gpow p.1 j) := by simp [syn]
theorem syn_pair (p q : Nat × Nat) (j : Nat) : syn [p, q] j = gm p.2 (gpow p.1 j) ^^^ gm q.2 (gpow q.1 j) := by simp [syn]
theorem gpow_one {a : Nat} (ha : a < 256) : gpow a 1 = a := by show gm 1 a = a; exact gm_one_left ha
theorem sol_one {n : Nat} {v : List Nat} {i a : Nat} (h : Sol n v [(i, a)]) : a = v.getD 0 0 := by
  have := h.syns 0 (by omega)
  rw [pairsOf, List.map_cons, List.map_nil, syn_one] at this
  rw [← this]; show a = gm a 1; rw [gm_one_right]
theorem sol_swap {n : Nat} {v : List Nat} {p q : Nat × Nat} (h : Sol n v [p, q]) : Sol n v [q, p] := by
  refine ⟨fun r hr => h.good r (by simp at hr ⊢; exact hr.symm), fun r hr => h.nz r (by simp at hr ⊢; exact hr.symm), ?_, by simp, ?_⟩
  · have := h.nodup; simp at this ⊢; exact fun e => this e.symm
  · intro j hj
    rw [← h.syns j hj]
    simp only [pairsOf, List.map_cons, List.map_nil, syn_pair]
    exact Nat.xor_comm _ _
theorem sol_two {n : Nat} {v : List Nat} {i a k b : Nat} (hn : n ≤ 255) (h : Sol n v [(i, a), (k, b)]) : other n (v.getD 0 0) (v.getD 1 0) i k = b ∧ v.getD 0 0 ^^^ b = a := by
  have g1 := h.good (i, a) (by simp)
  have g2 := h.good (k, b) (by simp)
  have hne : i ≠ k := by have := h.nodup; simp at this; exact this
  have s0 := h.syns 0 (by omega)
  have s1 := h.syns 1 (by omega)
  simp only [pairsOf, List.map_cons, List.map_nil, syn_pair] at s0 s1
  rw [gpow_one (gpow_two_lt _), gpow_one (gpow_two_lt _)] at s1
  have e0 : a ^^^ b = v.getD 0 0 := by rw [← s0]; show a ^^^ b = gm a 1 ^^^ gm b 1; rw [gm_one_right, gm_one_right]
  refine ⟨other_eq hn g1.1 g2.1 hne g1.2 g2.2 e0 s1, ?_⟩
  rw [← e0, Nat.xor_assoc, Nat.xor_self, Nat.xor_zero]
def test1 (n : Nat) (v : List Nat) (i : Nat) : Prop := v.getD 0 0 ≠ 0 ∧ expl (pairsOf n [(i, v.getD 0 0)]) v = true
def test2 (n : Nat) (v : List Nat) (i k : Nat) : Prop :=
  v.getD 0 0 ^^^ other n (v.getD 0 0) (v.getD 1 0) i k ≠ 0 ∧ other n (v.getD 0 0) (v.getD 1 0) i k ≠ 0 ∧
    expl (pairsOf n [(i, v.getD 0 0 ^^^ other n (v.getD 0 0) (v.getD 1 0) i k), (k, other n (v.getD 0 0) (v.getD 1 0) i k)]) v = true
theorem sol_none {n : Nat} {v : List Nat} (hn : n ≤ 255) (hv : ∃ j, j < 6 ∧ v.getD j 0 ≠ 0) (h1 : ∀ i, i < n → ¬ test1 n v i) (h2 : ∀ i, i < n → ∀ k, k < i → ¬ test2 n v i k) :
    ∀ l, ¬ Sol n v l := by
  have key : ∀ i a k b, k < i → ¬ Sol n v [(i, a), (k, b)] := by
    intro i a k b hki h
    obtain ⟨e1, e2⟩ := sol_two hn h
    refine h2 i (h.good (i, a) (by simp)).1 k hki ⟨?_, ?_, ?_⟩
    · rw [e1, e2]; exact h.nz (i, a) (by simp)
    · rw [e1]; exact h.nz (k, b) (by simp)
    · rw [e1, e2]; exact (expl_iff _ _).2 h.syns
  intro l h
  match l, h with
  | [], h =>
    obtain ⟨j, hj, hz⟩ := hv
    exact hz (h.syns j hj).symm
  | [(i, a)], h =>
    have e := sol_one h
    refine h1 i (h.good (i, a) (by simp)).1 ⟨?_, ?_⟩
    · rw [← e]; exact h.nz (i, a) (by simp)
    · rw [← e]; exact (expl_iff _ _).2 h.syns
  | [(i, a), (k, b)], h =>
    have hne : i ≠ k := by have := h.nodup; simp at this; exact this
    rcases Nat.lt_or_ge k i with hk | hk
    · exact key i a k b hk h
    · exact key k b i a (by omega) (sol_swap h)
  | _ :: _ :: _ :: _, h => have := h.two; simp at this
theorem sol_of_test1 {n : Nat} {v : List Nat} {i : Nat} (hi : i < n) (hv : Bytes v) (h : test1 n v i) : Sol n v [(i, v.getD 0 0)] :=
  ⟨fun p hp => by simp at hp; subst hp; exact ⟨hi, hv.getD 0⟩, fun p hp => by simp at hp; subst hp; exact h.1, by simp, by simp, (expl_iff _ _).1 h.2⟩
theorem other_lt {n v0 v1 i k : Nat} (h0 : v0 < 256) (h1 : v1 < 256) : other n v0 v1 i k < 256 := gm_lt (xor_lt h1 (gm_lt h0 _)) _
theorem sol_of_test2 {n : Nat} {v : List Nat} {i k : Nat} (hi : i < n) (hk : k < i) (hv : Bytes v) (h : test2 n v i k) :
    Sol n v [(i, v.getD 0 0 ^^^ other n (v.getD 0 0) (v.getD 1 0) i k), (k, other n (v.getD 0 0) (v.getD 1 0) i k)] := by
  have ho := other_lt (n := n) (i := i) (k := k) (hv.getD 0) (hv.getD 1)
  refine ⟨?_, ?_, by simp; omega, by simp, (expl_iff _ _).1 h.2.2⟩
  · intro p hp
    simp at hp
    rcases hp with rfl | rfl
    · exact ⟨hi, xor_lt (hv.getD 0) ho⟩
    · exact ⟨Nat.lt_trans hk hi, ho⟩
  · intro p hp
    simp at hp
    rcases hp with rfl | rfl
    · exact h.1
    · exact h.2.1
end Rad
/- What is decoded: the code word that differs in at most two places, and the frame in it. -/
namespace Rad

structure Near (s w : List Nat) : Prop where
  len : w.length = s.length
  bytes : Bytes w
  code : Code w
  two : dist w s ≤ 2
theorem near_unique {s v w : List Nat} (hl : s.length ≤ 255) (hv : Near s v) (hw : Near s w) : v = w := by
  refine code_apart hv.bytes hw.bytes (hv.len.trans hw.len.symm) (by rw [hv.len]; exact hl) hv.code hw.code ?_
  have := dist_tri (u := v) (v := s) (w := w) hv.len hw.len.symm
  have h1 := hv.two
  have h2 := hw.two
  rw [dist_comm] at h2
  omega
/-- bytes changed -/
def flip (s : List Nat) (p : Nat × Nat) : List Nat := s.set p.1 (s.getD p.1 0 ^^^ p.2)
def applyF (s : List Nat) (l : List (Nat × Nat)) : List Nat := l.foldl flip s
theorem flip_length (s : List Nat) (p : Nat × Nat) : (flip s p).length = s.length := by simp [flip]
theorem applyF_length (l : List (Nat × Nat)) : ∀ s : List Nat, (applyF s l).length = s.length := by
  induction l with
  | nil => intro s; rfl
  | cons p l ih => intro s; show (applyF (flip s p) l).length = _; rw [ih, flip_length]
theorem flip_bytes {s : List Nat} (hs : Bytes s) {p : Nat × Nat} (hp : p.2 < 256) : Bytes (flip s p) := hs.set _ (xor_lt (hs.getD _) hp)
theorem applyF_bytes {n : Nat} (l : List (Nat × Nat)) : ∀ {s : List Nat}, Bytes s → GoodF n l → Bytes (applyF s l) := by
  induction l with
  | nil => intro s h _; exact h
  | cons p l ih => intro s h hg; exact ih (flip_bytes h (hg p (by simp)).2) (fun q hq => hg q (by simp [hq]))
theorem val_flip {a : Nat} (ha : a < 256) : ∀ {s : List Nat} {i e : Nat}, Bytes s → e < 256 → i < s.length → val (flip s (i, e)) a = val s a ^^^ gm e (gpow a (s.length - 1 - i))
  | [], i, e, _, _, h => by simp at h
  | b :: s, 0, e, hs, he, _ => by
    show gm (b ^^^ e) (gpow a s.length) ^^^ val s a = (gm b (gpow a s.length) ^^^ val s a) ^^^ gm e (gpow a (s.length + 1 - 1 - 0))
    rw [gm_xor_left hs.head he, show s.length + 1 - 1 - 0 = s.length from by omega]
    generalize gm b (gpow a s.length) = x
    generalize gm e (gpow a s.length) = y
    generalize val s a = z
    rw [Nat.xor_assoc, Nat.xor_comm y z, Nat.xor_assoc]
  | b :: s, i + 1, e, hs, he, h => by
    have ih := val_flip ha (s := s) (i := i) (e := e) hs.tail he (by simpa using h)
    have e1 : flip (b :: s) (i + 1, e) = b :: flip s (i, e) := rfl
    rw [e1]
    show gm b (gpow a (flip s (i, e)).length) ^^^ val (flip s (i, e)) a = (gm b (gpow a s.length) ^^^ val s a) ^^^ gm e (gpow a (s.length + 1 - 1 - (i + 1)))
    rw [ih, flip_length, show s.length + 1 - 1 - (i + 1) = s.length - 1 - i from by omega, Nat.xor_assoc]
theorem val_applyF {n j : Nat} (l : List (Nat × Nat)) : ∀ {s : List Nat}, Bytes s → s.length = n → GoodF n l → val (applyF s l) (gpow 2 j) = val s (gpow 2 j) ^^^ syn (pairsOf n l) j := by
  induction l with
  | nil => intro s _ _ _; show val s _ = val s _ ^^^ 0; rw [Nat.xor_zero]
  | cons p l ih =>
    intro s hs hl hg
    have gp := hg p (by simp)
    have e := ih (s := flip s p) (flip_bytes hs gp.2) ((flip_length s p).trans hl) (fun q hq => hg q (by simp [hq]))
    obtain ⟨i, x⟩ := p
    show val (applyF (flip s (i, x)) l) _ = val s _ ^^^ (gm x (gpow (gpow 2 (n - 1 - i)) j) ^^^ syn (pairsOf n l) j)
    rw [e, val_flip (gpow_two_lt j) hs gp.2 (by rw [hl]; exact gp.1), hl, Nat.xor_assoc, gpow_swap (by omega)]
theorem dist_flip_le : ∀ (s : List Nat) (p : Nat × Nat), dist (flip s p) s ≤ 1
  | [], _ => by simp [flip, dist]
  | b :: s, (0, e) => by
    show (if b ^^^ e = b then 0 else 1) + dist s s ≤ 1
    rw [dist_self]; split <;> omega
  | b :: s, (i + 1, e) => by
    show (if b = b then 0 else 1) + dist (flip s (i, e)) s ≤ 1
    have := dist_flip_le s (i, e)
    simp; exact this
/-- the places at which two words differ -/
def diffs : Nat → List Nat → List Nat → List (Nat × Nat)
  | _, [], _ => []
  | _, _ :: _, [] => []
  | i, b :: w, c :: s => if b = c then diffs (i + 1) w s else (i, b ^^^ c) :: diffs (i + 1) w s
theorem diffs_length : ∀ (i : Nat) (w s : List Nat), (diffs i w s).length = dist w s
  | _, [], _ => rfl
  | _, _ :: _, [] => rfl
  | i, b :: w, c :: s => by
    simp only [diffs, dist]
    split
    · rw [diffs_length]; omega
    · rw [List.length_cons, diffs_length]; omega
theorem diffs_mem : ∀ (i : Nat) (w s : List Nat) (p : Nat × Nat), Bytes w → Bytes s → p ∈ diffs i w s → i ≤ p.1 ∧ p.1 < i + w.length ∧ p.2 < 256 ∧ p.2 ≠ 0
  | _, [], _, p, _, _, h => by cases h
  | _, _ :: _, [], p, _, _, h => by cases h
  | i, b :: w, c :: s, p, hw, hs, h => by
    simp only [diffs] at h
    split at h
    · have := diffs_mem (i + 1) w s p hw.tail hs.tail h
      simp; omega
    · rename_i hne
      cases h with
      | head => exact ⟨Nat.le_refl _, by simp, xor_lt hw.head hs.head, xor_ne hne⟩
      | tail _ h =>
        have := diffs_mem (i + 1) w s p hw.tail hs.tail h
        simp; omega
theorem diffs_nodup : ∀ (i : Nat) (w s : List Nat), Bytes w → Bytes s → ((diffs i w s).map (·.1)).Nodup
  | _, [], _, _, _ => List.nodup_nil
  | _, _ :: _, [], _, _ => List.nodup_nil
  | i, b :: w, c :: s, hw, hs => by
    have ih := diffs_nodup (i + 1) w s hw.tail hs.tail
    simp only [diffs]
    split
    · exact ih
    · rw [List.map_cons, List.nodup_cons]
      refine ⟨?_, ih⟩
      intro hm
      obtain ⟨p, hp, e⟩ := List.mem_map.1 hm
      have := diffs_mem (i + 1) w s p hw.tail hs.tail hp
      have e' : p.1 = i := e
      omega
theorem diffs_places : ∀ (i n : Nat) (w s : List Nat), w.length = s.length → n = i + w.length → pairsOf n (diffs i w s) = (places (xors w s)).filter (·.2 != 0)
  | _, _, [], _, _, _ => rfl
  | _, _, _ :: _, [], h, _ => by cases h
  | i, n, b :: w, c :: s, h, hn => by
    have h' : w.length = s.length := by simpa using h
    have ih := diffs_places (i + 1) n w s h' (by simp at hn; omega)
    have e : places (xors (b :: w) (c :: s)) = (gpow 2 (xors w s).length, b ^^^ c) :: places (xors w s) := rfl
    rw [e, xors_length h']
    simp only [diffs]
    split
    · rename_i hbc
      subst hbc
      rw [List.filter_cons_of_neg (by simp)]
      exact ih
    · rename_i hbc
      rw [List.filter_cons_of_pos (by simpa using xor_ne hbc), pairsOf, List.map_cons]
      simp only [List.cons.injEq, Prod.mk.injEq, and_true]
      exact ⟨by congr 1; simp at hn; omega, ih⟩
/-- a near code word is found -/
theorem sol_of_near {s w v : List Nat} (hs : Bytes s) (hv : ∀ j, j < 6 → v.getD j 0 = val s (gpow 2 j)) (h : Near s w) : Sol s.length v (diffs 0 w s) := by
  refine ⟨?_, ?_, diffs_nodup _ _ _ h.bytes hs, by rw [diffs_length]; exact h.two, ?_⟩
  · intro p hp
    have := diffs_mem 0 w s p h.bytes hs hp
    exact ⟨by have := h.len; omega, this.2.2.1⟩
  · intro p hp
    exact (diffs_mem 0 w s p h.bytes hs hp).2.2.2
  · intro j hj
    rw [diffs_places 0 s.length w s h.len (by rw [h.len]; omega), syn_filter, ← val_places, val_xors _ h.bytes hs h.len, h.code j hj, Nat.zero_xor, hv j hj]
theorem dist_set_ne : ∀ (s t : List Nat) (i x : Nat), s.length = t.length → i < s.length → s.getD i 0 = t.getD i 0 → x ≠ t.getD i 0 → dist (s.set i x) t = dist s t + 1
  | [], _, i, x, _, h, _, _ => by simp at h
  | _ :: _, [], _, _, h, _, _, _ => by cases h
  | b :: s, c :: t, 0, x, h, _, he, hx => by
    have he' : b = c := he
    have hx' : x ≠ c := hx
    show (if x = c then 0 else 1) + dist s t = (if b = c then 0 else 1) + dist s t + 1
    rw [if_neg hx', if_pos he']; omega
  | b :: s, c :: t, i + 1, x, h, hi, he, hx => by
    have ih := dist_set_ne s t i x (by simpa using h) (by simpa using hi) he hx
    show (if b = c then 0 else 1) + dist (s.set i x) t = (if b = c then 0 else 1) + dist s t + 1
    rw [ih]; omega
theorem applyF_getD (l : List (Nat × Nat)) : ∀ (s : List Nat) (i : Nat), (∀ p ∈ l, p.1 ≠ i) → (applyF s l).getD i 0 = s.getD i 0 := by
  induction l with
  | nil => intro s i _; rfl
  | cons p l ih =>
    intro s i h
    show (applyF (flip s p) l).getD i 0 = _
    rw [ih (flip s p) i (fun q hq => h q (by simp [hq])), flip, getD_set, if_neg (fun e => h p (by simp) e.1)]
theorem applyF_snoc (s : List Nat) (l : List (Nat × Nat)) (p : Nat × Nat) : applyF s (l ++ [p]) = flip (applyF s l) p := by simp [applyF]
theorem dist_applyF {n : Nat} (s : List Nat) (hs : s.length = n) : ∀ l : List (Nat × Nat), GoodF n l → (∀ p ∈ l, p.2 ≠ 0) → (l.map (·.1)).Nodup → dist (applyF s l) s = l.length := by
  intro l
  generalize hr : l.reverse = r
  have hl : l = r.reverse := by rw [← hr, List.reverse_reverse]
  clear hr
  subst hl
  induction r with
  | nil => intro _ _ _; exact dist_self s
  | cons p r ih =>
    intro hg hz hn
    rw [List.reverse_cons] at hg hz hn ⊢
    rw [List.map_append, List.nodup_append] at hn
    have hne : ∀ q ∈ r.reverse, q.1 ≠ p.1 := fun q hq => hn.2.2 q.1 (List.mem_map.2 ⟨q, hq, rfl⟩) p.1 (by simp)
    have e := applyF_getD r.reverse s p.1 hne
    have gp := hg p (by simp)
    have ih' := ih (fun q hq => hg q (by simp at hq ⊢; exact .inl hq)) (fun q hq => hz q (by simp at hq ⊢; exact .inl hq)) hn.1
    rw [applyF_snoc, flip, dist_set_ne _ _ _ _ (applyF_length _ _) (by rw [applyF_length, hs]; exact gp.1) e, ih', List.length_append]; rfl
    rw [e]
    intro h
    have h2 : s.getD p.1 0 ^^^ (s.getD p.1 0 ^^^ p.2) = 0 := by rw [h, Nat.xor_self]
    rw [← Nat.xor_assoc, Nat.xor_self, Nat.zero_xor] at h2
    exact hz p (by simp) h2
theorem near_of_sol {s v : List Nat} {l : List (Nat × Nat)} (hs : Bytes s) (hv : ∀ j, j < 6 → v.getD j 0 = val s (gpow 2 j)) (h : Sol s.length v l) : Near s (applyF s l) ∧ dist (applyF s l) s = l.length := by
  have hd := dist_applyF s rfl l h.good h.nz h.nodup
  refine ⟨⟨applyF_length _ _, applyF_bytes l hs h.good, ?_, by rw [hd]; exact h.two⟩, hd⟩
  intro j hj
  rw [val_applyF l hs rfl h.good, h.syns j hj, hv j hj, Nat.xor_self]

/-! ### the reference's search -/
theorem near_self {s v : List Nat} (hs : Bytes s) (hv : ∀ j, j < 6 → v.getD j 0 = val s (gpow 2 j)) (h0 : ∀ j, j < 6 → v.getD j 0 = 0) : Near s s :=
  ⟨rfl, hs, fun j hj => by rw [← hv j hj]; exact h0 j hj, by rw [dist_self]; omega⟩
theorem near_one {s v : List Nat} {i : Nat} (hs : Bytes s) (hv : ∀ j, j < 6 → v.getD j 0 = val s (gpow 2 j)) (hi : i < s.length) {a : Nat} (ha : a < 256)
    (h : expl [(gpow 2 (s.length - 1 - i), a)] v = true) : Near s (flip s (i, a)) := by
  refine ⟨flip_length _ _, flip_bytes hs ha, ?_, by have := dist_flip_le s (i, a); omega⟩
  intro j hj
  rw [val_flip (gpow_two_lt j) hs ha hi, ← hv j hj, ← (expl_iff _ _).1 h j hj, syn_one, gpow_swap (by omega), Nat.xor_self]
theorem near_two {s v : List Nat} {i k : Nat} (hs : Bytes s) (hv : ∀ j, j < 6 → v.getD j 0 = val s (gpow 2 j)) (hi : i < s.length) (hk : k < s.length) {a b : Nat} (ha : a < 256) (hb : b < 256)
    (h : expl [(gpow 2 (s.length - 1 - i), a), (gpow 2 (s.length - 1 - k), b)] v = true) : Near s (flip (flip s (i, a)) (k, b)) := by
  have h1 := flip_bytes hs (p := (i, a)) ha
  refine ⟨by rw [flip_length, flip_length], flip_bytes h1 hb, ?_, ?_⟩
  · intro j hj
    rw [val_flip (gpow_two_lt j) h1 hb (by rw [flip_length]; exact hk), flip_length, val_flip (gpow_two_lt j) hs ha hi, ← hv j hj, ← (expl_iff _ _).1 h j hj, syn_pair]
    rw [gpow_swap (by omega : (2 : Nat) < 256) j, gpow_swap (by omega : (2 : Nat) < 256) j, Nat.xor_assoc, Nat.xor_self]
  · have e1 := dist_flip_le (flip s (i, a)) (k, b)
    have e2 := dist_flip_le s (i, a)
    have := dist_tri (u := flip (flip s (i, a)) (k, b)) (v := flip s (i, a)) (w := s) (by rw [flip_length]) (flip_length _ _)
    omega
theorem near_not {s v : List Nat} (hs : Bytes s) (hl : s.length ≤ 255) (hv : ∀ j, j < 6 → v.getD j 0 = val s (gpow 2 j)) (h0 : ∃ j, j < 6 ∧ v.getD j 0 ≠ 0)
    (h1 : ∀ i, i < s.length → expl [(gpow 2 (s.length - 1 - i), v.getD 0 0)] v ≠ true)
    (h2 : ∀ i, i < s.length → ∀ k, i < k → k < s.length → expl [(gpow 2 (s.length - 1 - i), v.getD 0 0 ^^^ other s.length (v.getD 0 0) (v.getD 1 0) i k), (gpow 2 (s.length - 1 - k), other s.length (v.getD 0 0) (v.getD 1 0) i k)] v ≠ true) :
    ∀ w, ¬ Near s w := by
  have key : ∀ i a k b, i < k → ¬ Sol s.length v [(i, a), (k, b)] := by
    intro i a k b hki h
    obtain ⟨e1, e2⟩ := sol_two hl h
    refine h2 i (h.good (i, a) (by simp)).1 k hki (h.good (k, b) (by simp)).1 ?_
    rw [e1, e2]
    exact (expl_iff _ _).2 h.syns
  intro w hw
  have h := sol_of_near hs hv hw
  generalize diffs 0 w s = l at h
  match l, h with
  | [], h =>
    obtain ⟨j, hj, hz⟩ := h0
    exact hz (h.syns j hj).symm
  | [(i, a)], h =>
    have e := sol_one h
    refine h1 i (h.good (i, a) (by simp)).1 ?_
    rw [← e]; exact (expl_iff _ _).2 h.syns
  | [(i, a), (k, b)], h =>
    have hne : i ≠ k := by have := h.nodup; simp at this; exact this
    rcases Nat.lt_or_ge i k with hk | hk
    · exact key i a k b hk h
    · exact key k b i a (by omega) (sol_swap h)
  | _ :: _ :: _ :: _, h => have := h.two; simp at this
end Rad
/- Laws on bits in the walk's own words. -/
namespace Go.Proofs.Ytenngchidlfaeaa
open Go.RowKit

theorem bxor (a b : Nat) (ha : a < 9223372036854775808) (hb : b < 9223372036854775808) : bits .xor .i64 (a : Int) (b : Int) = ((a ^^^ b : Nat) : Int) := by
  have hx : a ^^^ b < 2 ^ 63 := Nat.xor_lt_two_pow (by omega) (by omega)
  have h1 : (BitVec.ofInt 64 (a : Int)).toNat = a := by
    rw [BitVec.ofInt_natCast, BitVec.toNat_ofNat]; exact Nat.mod_eq_of_lt (by omega)
  have h2 : (BitVec.ofInt 64 (b : Int)).toNat = b := by
    rw [BitVec.ofInt_natCast, BitVec.toNat_ofNat]; exact Nat.mod_eq_of_lt (by omega)
  show IntKind.i64.wrap ((BitVec.ofInt 64 (a : Int) ^^^ BitVec.ofInt 64 (b : Int)).toNat : Int) = _
  rw [BitVec.toNat_xor, h1, h2, IntKind.wrap_i64]
  omega
theorem band1 (a : Nat) (ha : a < 9223372036854775808) : bits .and .i64 (a : Int) 1 = ((a % 2 : Nat) : Int) := by
  have h1 : (BitVec.ofInt 64 (a : Int)).toNat = a := by
    rw [BitVec.ofInt_natCast, BitVec.toNat_ofNat]; exact Nat.mod_eq_of_lt (by omega)
  show IntKind.i64.wrap ((BitVec.ofInt 64 (a : Int) &&& BitVec.ofInt 64 (1 : Int)).toNat : Int) = _
  rw [BitVec.toNat_and, h1, show (BitVec.ofInt 64 (1 : Int)).toNat = 1 from by decide, Nat.and_one_is_mod, IntKind.wrap_i64]
  omega
theorem band_bit (b k : Nat) (hb : b < 9223372036854775808) : (bits .and .i64 ((b : Int) / 2 ^ k) 1 == 1) = b.testBit k := by
  have e : ((b : Int) / 2 ^ k) = ((b / 2 ^ k : Nat) : Int) := by rw [Int.natCast_ediv, Int.natCast_pow]; rfl
  have h : b / 2 ^ k < 9223372036854775808 := Nat.lt_of_le_of_lt (Nat.div_le_self _ _) hb
  rw [e, band1 _ h, Nat.testBit_eq_decide_div_mod_eq]
  by_cases h1 : b / 2 ^ k % 2 = 1
  · rw [h1]; rfl
  · rw [show b / 2 ^ k % 2 = 0 from by omega]; rfl
theorem shl_cast (a k : Nat) (h : a * 2 ^ k < 9223372036854775808) : wrap64 ((a : Int) * 2 ^ k) = ((a <<< k : Nat) : Int) := by
  have e : ((a : Int) * 2 ^ k) = ((a * 2 ^ k : Nat) : Int) := by rw [Int.natCast_mul, Int.natCast_pow]; rfl
  rw [e, Nat.shiftLeft_eq]
  unfold wrap64
  omega
theorem retInt {k : IntKind} {a b : Int} (h : a = b) : Ending.returned (.int k a) = .returned (.int k b) := by rw [h]
theorem retBool {a b : Bool} (h : a = b) : Ending.returned (.bool a) = .returned (.bool b) := by rw [h]
theorem ne_bne {a b : Nat} (h : a ≠ b) : ((a : Int) != (b : Int)) = true := by rw [bne_iff_ne]; omega
theorem eq_bne {a b : Nat} (h : a = b) : ((a : Int) != (b : Int)) = false := by rw [h]; simp
theorem ne_beq {a b : Nat} (h : a ≠ b) : ((a : Int) == (b : Int)) = false := by rw [beq_eq_false_iff_ne]; omega
theorem valInt {k : IntKind} {a b : Int} (h : a = b) : Value.int k a = .int k b := by rw [h]
theorem ret2Int {k l : IntKind} {a b c d : Int} (h : a = b) (h' : c = d) : Ending.returned (.tuple #[.int k a, .int l c]) = .returned (.tuple #[.int k b, .int l d]) := by rw [h, h']
theorem tstep_ge {x : Nat} (h : 256 ≤ (x : Int) * 2) : Rad.tstep x = x * 2 ^^^ 285 := by unfold Rad.tstep; rw [if_pos (by omega)]
theorem tstep_lo {x : Nat} (h : (x : Int) * 2 < 256) : Rad.tstep x = x * 2 := by unfold Rad.tstep; rw [if_neg (by omega)]
end Go.Proofs.Ytenngchidlfaeaa
/- Words for strings and draws. -/
namespace Go.Proofs.Ytenngchidlfaeaa
open Go.RowKit

theorem qsame {P : Program} {f : FuncId} {args : Array Value} {w : World} {n : Nat} {v : Value}
    (h : Calls P f args (w.drewN n) fun e w' => e = .returned v ∧ w.drewN n = w') : Calls P f args (w.drewN n) fun e w'' => e = .returned v ∧ ∃ m, w'' = w.drewN m :=
  Calls.quiet_of_same (h.mono fun _ _ ⟨a, b⟩ => ⟨a, b.symm⟩)
/-- w' is w behind some draws -/
def Drw (w w' : World) : Prop := ∃ m, w' = w.drewN m
theorem Drw.refl (w : World) : Drw w w := ⟨0, rfl⟩
theorem Drw.drewN {a w : World} (h : Drw a w) (n : Nat) : Drw a (w.drewN n) := by obtain ⟨m, rfl⟩ := h; exact ⟨m + n, by simp⟩
theorem Drw.drew {a w : World} (h : Drw a w) : Drw a w.drew := h.drewN 1
theorem Drw.trans {a b c : World} (h : Drw a b) (k : Drw b c) : Drw a c := by obtain ⟨m, rfl⟩ := k; exact h.drewN m
theorem qdrw {P : Program} {f : FuncId} {args : Array Value} {w : World} {n : Nat} {v : Value}
    (h : Calls P f args (w.drewN n) fun e w' => e = .returned v ∧ Drw (w.drewN n) w') : Calls P f args (w.drewN n) fun e w'' => e = .returned v ∧ ∃ m, w'' = w.drewN m :=
  Calls.quiet_of h

/-- a string's bytes as numbers -/
def bl (s : ByteArray) : List Nat := s.data.toList.map UInt8.toNat
theorem bl_length (s : ByteArray) : (bl s).length = s.size := by simp [bl]
theorem bl_bytes (s : ByteArray) : Rad.Bytes (bl s) := by
  intro b hb; unfold bl at hb; obtain ⟨c, _, rfl⟩ := List.mem_map.1 hb; exact c.toNat_lt
theorem bl_get (s : ByteArray) (k : Nat) (h : k < s.size) : (bl s)[k]'(by rw [bl_length]; exact h) = s[k].toNat := by simp [bl]; rfl
theorem bl_take (s : ByteArray) (k : Nat) (h : k < s.size) : (bl s).take (k + 1) = (bl s).take k ++ [s[k].toNat] := by
  rw [List.take_succ_eq_append_getElem (by rw [bl_length]; exact h), bl_get s k h]
theorem map_toNat_inj : ∀ {l m : List UInt8}, l.map UInt8.toNat = m.map UInt8.toNat → l = m
  | [], [], _ => rfl
  | [], _ :: _, h => by simp at h
  | _ :: _, [], h => by simp at h
  | a :: l, b :: m, h => by
    simp only [List.map_cons, List.cons.injEq] at h
    rw [UInt8.toNat_inj.1 h.1, map_toNat_inj h.2]
theorem bl_inj {s t : ByteArray} (h : bl s = bl t) : s = t := by
  have : s.data.toList = t.data.toList := map_toNat_inj h
  cases s; cases t; simp at this; rw [this]
end Go.Proofs.Ytenngchidlfaeaa
