/-
  The argument of VtparseAsks, opened: two slices of actions, two numbers. Conditions: none; plain lemmas.
-/
import Derived.Test.YtopaeikddlpecaaDoorRow4
import Derived.Test.YtopaeikddlpecaaDoorAskW
import Derived.Lib.SmallJoins
namespace Go.Proofs.YtopaeikddlpecaaDoor
open Go.ChangeShapes Go.WideShapes Go.ChangeAt Go.RowKit

theorem slice_of {H : Type} {enc : TypeId × Value → H} {W : World} {fuel : Nat} {t e : TypeId} {v : Value} {x : DataW H × List MemPlace} (ht : Tryd.prog.underlying t = some (.slice e))
    (h : DataW.trod enc Tryd.prog W 0 (fun _ => true) true fuel t [v] = some x) : ∃ A n c, v = .slice A n c := by
  rcases Go.Deep.open_slice ht h with ⟨hc, _⟩ | ⟨a, len, cap, m, n1, D, Pl, hc, _⟩
  · simp only [List.cons.injEq, and_true] at hc
    exact ⟨_, _, _, hc⟩
  · simp only [List.cons.injEq, and_true] at hc
    exact ⟨_, _, _, hc⟩

set_option maxRecDepth 100000 in
theorem open_ask {H : Type} {enc : TypeId × Value → H} {W : World} {base : Nat} {v : Value} {d : DataW H} {p : List MemPlace} (hv : Value.okWide Tryd.prog W .any base 44 v)
    (h : DataW.Trod enc Tryd.prog W 0 (fun _ => true) true 44 v d p) :
    ∃ (A B : Option Addr) (n c m k : Nat) (i other : Int) (ps qs : List PAct), v = .agg #[.slice A n c, .slice B m k, .int .i64 i, .int .i64 other] ∧ ActsIn W (fun k => k < W.heap.size) A n ps ∧ ActsIn W (fun k => k < W.heap.size) B m qs ∧
      n + m + 3 ≤ Rows.uptoBulk d ∧ (∀ q ∈ ps, q.params.length + 1 ≤ Rows.uptoBulk d) ∧ ∀ q ∈ qs, q.params.length + 1 ≤ Rows.uptoBulk d := by
  obtain ⟨x0, x1, x2, x3, y0, y1, y2, y3, n0, rfl, rfl, rfl, t0, t1, t2, t3⟩ := Joins.open_agg4 Tryd.underlying44 (by kernel_rfl) (by kernel_rfl) hv h
  have s0 : DataW.trod enc Tryd.prog W 0 (fun _ => true) true n0 25 [x0] = some y0 := t0
  have s1 : DataW.trod enc Tryd.prog W 0 (fun _ => true) true n0 25 [x1] = some y1 := t1
  have s2 : DataW.trod enc Tryd.prog W 0 (fun _ => true) true n0 3 [x2] = some y2 := t2
  have s3 : DataW.trod enc Tryd.prog W 0 (fun _ => true) true n0 3 [x3] = some y3 := t3
  clear t0 t1 t2 t3
  obtain ⟨A, n, c, rfl⟩ := slice_of Tryd.underlying25 s0
  obtain ⟨B, m, k, rfl⟩ := slice_of Tryd.underlying25 s1
  obtain ⟨i, e2, _⟩ := DataW.trod_int Tryd.underlying3 s2
  obtain ⟨other, e3, _⟩ := DataW.trod_int Tryd.underlying3 s3
  simp only [List.cons.injEq, and_true] at e2 e3
  subst e2 e3
  obtain ⟨ps, h1, _, h2, h3, _⟩ := open_acts (d := y0.1) (p := y0.2) ⟨n0, by simpa [Value.cells] using s0⟩
  obtain ⟨qs, g1, _, g2, g3, _⟩ := open_acts (d := y1.1) (p := y1.2) ⟨n0, by simpa [Value.cells] using s1⟩
  refine ⟨A, B, n, c, m, k, i, other, ps, qs, rfl, h1, g1, ?_, fun q hq => ?_, fun q hq => ?_⟩
  · simp only [bulk_agg, bulk_cons]
    omega
  · simp only [bulk_agg, bulk_cons]
    have := h3 q hq
    omega
  · simp only [bulk_agg, bulk_cons]
    have := g3 q hq
    omega
end Go.Proofs.YtopaeikddlpecaaDoor
