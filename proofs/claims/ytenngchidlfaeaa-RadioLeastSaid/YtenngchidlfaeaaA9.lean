/- A9: texts C15, joined. -/
import Derived.Test.YtenngchidlfaeaaA2
import Derived.Test.YtenngchidlfaeaaRows
import Derived.WalkKit
import Derived.ProofKit
import Derived.OpenShut
import Derived.ShutString
import Derived.Carry
import Derived.Lib.SmallJoins
/- Words for the rows: what a law leaves; arguments opened. -/
namespace Go.Proofs.Ytenngchidlfaeaa
open Go.ChangeShapes Go.WideShapes Go.ChangeAt Go.RowKit Go.Joins Go.Deep
open Go.ChangeMaps (open_string shut_string)

theorem own : ownKnob Try.prog.godebug = none := by kernel_rfl
theorem laidOut : laidOutB Try.prog = true := by kernel_rfl
section
variable {H : Type} {enc : TypeId × Value → H}
/-- what was read reads as it did where nothing old has turned -/
theorem stays_all {W W' : World} (hb : Below W.heap.size W W') : ∀ {ts : List TypeId} {vs : List Value} {ds : List (DataW H)} {ps : List MemPlace}, (∀ t ∈ ts, Try.prog.readableRec t = true ∧ t < Try.prog.types.size) →
    DataW.TrodAll enc Try.prog W 0 (fun _ => true) true ts vs ds ps → (∀ p ∈ ps, p.block < W.heap.size) → DataW.TrodAll enc Try.prog W' 0 (fun b => decide (b < W.heap.size)) true ts vs ds ps
  | [], vs, ds, ps, _, h, _ => by
    obtain ⟨rfl, rfl, rfl⟩ := trodAll_nil h
    exact trodAll_mk0
  | t :: ts, vs, ds, ps, ht, h, hp => by
    obtain ⟨v, vs', d, ds', p, q, rfl, rfl, rfl, h1, h2⟩ := trodAll_cons h
    refine trodAll_cons_mk ?_ (stays_all hb (fun t' ht' => ht t' (by simp [ht'])) h2 (fun x hx => hp x (by simp [hx])))
    have := ht t (by simp)
    exact Below.trod laidOut this.1 this.2 h1 hb (fun x hx => hp x (by simp [hx]))
/-- a law that returns true and leaves what there was -/
theorem law_post {f : Func} {s : ChangeSpec} {apart fresh handsOn : Bool} {W W' : World} {args : Array Value} {ds gs : List (DataW H)} {before : List MemPlace}
    (hr : f.resultTypes = #[4]) (ht0 : (f.params.toList.all fun t => Try.prog.readableRec t && decide (t < Try.prog.types.size)) = true) (hv : s.vars = [])
    (hfn : (s.fn H (ds ++ [])).results = [.lit (.bool true)] ∧ (s.fn H (ds ++ [])).args = ds ∧ (s.fn H (ds ++ [])).vars = [])
    (hW : DataW.Whole enc Try.prog f.params.toList s.vars apart W args.toList ds gs before) (hb : Below W.heap.size W W') :
    s.post enc Try.prog f apart fresh handsOn false W args (.bool true) W' := by
  have ht : ∀ t ∈ f.params.toList, Try.prog.readableRec t = true ∧ t < Try.prog.types.size := fun t htm => by
    have := List.all_eq_true.1 ht0 t htm
    simpa only [Bool.and_eq_true, decide_eq_true_eq] using this
  have hlt : ∀ p ∈ before, p.block < W.heap.size := fun p hp => hW.lt p hp
  have hW0 := hW
  obtain ⟨p, q, hA, hV, rfl, hz, hn⟩ := hW
  rw [hv] at hV
  have hgq : gs = [] ∧ q = [] := by
    cases gs with
    | nil => exact ⟨rfl, hV⟩
    | cons g gs => exact hV.elim
  obtain ⟨rfl, rfl⟩ := hgq
  refine ⟨ds, [], p ++ [], [], p, [], hW0, ?_, ?_, ?_, World.keptBut_mono (fun x hx => ⟨hx, ?_⟩) (hb.frame (· ∈ p ++ [])), fun h => by cases h⟩
  · rw [hr, hfn.1]
    exact trodAll_mk1 (shut_bool Try.underlying4 _)
  · rw [hfn.2.1]
    exact stays_all hb ht hA (fun x hx => hlt x (by simp [hx]))
  · rw [hv, hfn.2.2]; rfl
  · simpa using hx
/-- the cells of a struct of one-cell fields, each with its reading -/
theorem struct_cells {W : World} {base : Nat} {spare : Nat → Bool} {held : Bool} {t : TypeId} {fuel : Nat} {cs : List Value} {x : DataW H × List MemPlace} (ht : Try.prog.underlying t = some (.struct (Try.prog.fieldsOf t))) (hone : oneCellFields Try.prog (Try.prog.fieldsOf t) = true)
    (hC : Try.prog.cellsOf t = (Try.prog.fieldsOf t).size) {tys : Array TypeId} (htys : (Try.prog.fieldsOf t).map (·.type) = tys) (h : DataW.trod enc Try.prog W base spare held fuel t cs = some x) :
    cs.length = tys.size ∧ ∃ n, ∀ (i : Nat) (τ : TypeId), tys[i]? = some τ → ∃ v y, cs[i]? = some v ∧ DataW.trod enc Try.prog W base spare held n τ [v] = some y := by
  obtain ⟨xs, n, _, _, hl, hxl, hf⟩ := DataW.trod_struct ht h
  have hsz : tys.size = (Try.prog.fieldsOf t).size := by rw [← htys, Array.size_map]
  refine ⟨by rw [hl, hC, hsz], n, fun i τ hi => ?_⟩
  rw [← htys, Array.getElem?_map] at hi
  obtain ⟨f, hfi, hft⟩ := Option.map_eq_some_iff.1 hi
  have hil : i < (Try.prog.fieldsOf t).size := (Array.getElem?_eq_some_iff.1 hfi).1
  obtain ⟨h1, h2⟩ := hone_of hone i f hfi
  have h3 := hf i f hfi
  have hic : i < cs.length := by rw [hl, hC]; exact hil
  have hix : i < xs.length := by rw [hxl]; exact hil
  rw [h1, h2, List.drop_eq_getElem_cons hic, List.take_succ_cons, List.take_zero, List.getElem?_eq_getElem hix, hft] at h3
  exact ⟨cs[i], xs[i], List.getElem?_eq_getElem hic, h3⟩
theorem ftys23 : (Try.prog.fieldsOf 23).map (·.type) = #[3, 3, 3, 3, 9] := by kernel_rfl
theorem ftys42 : (Try.prog.fieldsOf 42).map (·.type) = #[3, 3, 9] := by kernel_rfl
theorem fone23 : oneCellFields Try.prog (Try.prog.fieldsOf 23) = true := by kernel_rfl
theorem fone42 : oneCellFields Try.prog (Try.prog.fieldsOf 42) = true := by kernel_rfl
theorem fcel23 : Try.prog.cellsOf 23 = (Try.prog.fieldsOf 23).size := by kernel_rfl
theorem fcel42 : Try.prog.cellsOf 42 = (Try.prog.fieldsOf 42).size := by kernel_rfl
theorem fund23 : Try.prog.underlying 23 = some (.struct (Try.prog.fieldsOf 23)) := by kernel_rfl
theorem fund42 : Try.prog.underlying 42 = some (.struct (Try.prog.fieldsOf 42)) := by kernel_rfl
theorem cell_int {W : World} {base : Nat} {spare : Nat → Bool} {held : Bool} {n : Nat} {v : Value} {y : DataW H × List MemPlace} (h : DataW.trod enc Try.prog W base spare held n 3 [v] = some y) : ∃ a, v = .int .i64 a ∧ (Lit.int .i64 a).wf = true := by
  obtain ⟨a, ea, _, wa⟩ := DataW.trod_int Try.underlying3 h
  exact ⟨a, by simpa using ea, wa⟩
theorem cell_string {W : World} {base : Nat} {spare : Nat → Bool} {held : Bool} {n : Nat} {v : Value} {y : DataW H × List MemPlace} (h : DataW.trod enc Try.prog W base spare held n 9 [v] = some y) : ∃ s, v = .string s ∧ s.size ≤ maxLen := by
  obtain ⟨s, es, _, ws⟩ := DataW.trod_string Try.underlying9 h
  exact ⟨s, by simpa using es, ws⟩
theorem wf_range {a : Int} (h : (Lit.int .i64 a).wf = true) : -9223372036854775808 ≤ a ∧ a ≤ 9223372036854775807 := by
  simp only [Lit.wf, Bool.and_eq_true, decide_eq_true_eq] at h
  exact ⟨h.1, h.2⟩
set_option maxRecDepth 100000 in
theorem open_frame {W : World} {r : Reach} {b0 base : Nat} {spare : Nat → Bool} {held : Bool} {v : Value} {d : DataW H} {p : List MemPlace} (hv : Value.okWide Try.prog W r b0 23 v) (h : DataW.Trod enc Try.prog W base spare held 23 v d p) :
    ∃ (a b c e : Int) (s : ByteArray), v = .agg #[.int .i64 a, .int .i64 b, .int .i64 c, .int .i64 e, .string s] ∧ (Lit.int .i64 a).wf = true ∧ (Lit.int .i64 b).wf = true ∧ (Lit.int .i64 c).wf = true ∧ (Lit.int .i64 e).wf = true ∧ s.size ≤ maxLen := by
  obtain ⟨cs, rfl, hsz⟩ := okWide_struct fund23 hv
  obtain ⟨l⟩ := cs
  obtain ⟨fuel, hf⟩ := h
  obtain ⟨hl, n, hc⟩ := struct_cells fund23 fone23 fcel23 ftys23 hf
  simp only [Value.cells] at hl hc
  match l, hl, hc with
  | [v0, v1, v2, v3, v4], _, hc =>
    obtain ⟨u0, y0, e0, t0⟩ := hc 0 3 rfl
    obtain ⟨u1, y1, e1, t1⟩ := hc 1 3 rfl
    obtain ⟨u2, y2, e2, t2⟩ := hc 2 3 rfl
    obtain ⟨u3, y3, e3, t3⟩ := hc 3 3 rfl
    obtain ⟨u4, y4, e4, t4⟩ := hc 4 9 rfl
    obtain ⟨a, rfl, wa⟩ := cell_int t0
    obtain ⟨b, rfl, wb⟩ := cell_int t1
    obtain ⟨c, rfl, wc⟩ := cell_int t2
    obtain ⟨e, rfl, we⟩ := cell_int t3
    obtain ⟨s, rfl, ws⟩ := cell_string t4
    refine ⟨a, b, c, e, s, ?_, wa, wb, wc, we, ws⟩
    simp at e0 e1 e2 e3 e4
    rw [e0, e1, e2, e3, e4]
end
end Go.Proofs.Ytenngchidlfaeaa
