/-
  From what VtparseWrites' row lists ('laid') to the tables of unicode/utf8 and of strconv's powers; a world for its witness. Conditions: the row's list.
-/
import Derived.Test.YtopaeikddlpecaaDoorRow4
import Derived.Test.YtopaeikddlpecaaDoorWrw
import Derived.Lib.LaidTab
import Derived.Lib.SmallJoins
namespace Go.Proofs.YtopaeikddlpecaaDoor
open Go.ChangeShapes Go.WideShapes Go.ChangeAt Go.RowKit

theorem tabs_reads {W : World} (h3 : Lib.VarReads Tryd.prog W "unicode/utf8.first" Rows.laid_unicode_utf8_first) (h4 : Lib.VarReads Tryd.prog W "unicode/utf8.acceptRanges" Rows.laid_unicode_utf8_acceptRanges) : Tabs W := by
  obtain ⟨g, t, cs, fuel, p, hg, hty, hvar, hd⟩ := h3
  obtain rfl := Option.some.inj (gFirst.symm.trans hg)
  obtain rfl := Option.some.inj (gFirstT.symm.trans hty)
  rw [laid_first_eq] at hd
  have hcs := Lib.cells_of_tab Tryd.underlying107 Tryd.underlying5 cellsU8 cellsFirst hd
  obtain ⟨g', t', cs', fuel', p', hg', hty', hvar', hd'⟩ := h4
  obtain rfl := Option.some.inj (gAccept.symm.trans hg')
  obtain rfl := Option.some.inj (gAcceptT.symm.trans hty')
  rw [laid_accept_eq] at hd'
  have key : ∀ i, i < 16 → W.cell? ⟨1, 2 * i, none⟩ = some (.int .u8 ((acc i).getD 0 0)) ∧ W.cell? ⟨1, 2 * i + 1, none⟩ = some (.int .u8 ((acc i).getD 1 0)) := by
    intro i hi
    obtain ⟨fu, d, q, hdi, he⟩ := Lib.array_elem Tryd.underlying110 hd' i hi
    simp only [List.getElem?_map, List.getElem?_range hi, Option.map_some, Option.some.injEq] at hdi
    subst hdi
    rw [cellsRange] at he
    have hc := Lib.ints_of_struct Tryd.underlying109 (fun j f hj => by
      match j, hj with
      | 0, hj => simp at hj; subst hj; exact ⟨Tryd.underlying5, rfl, cellsU8⟩
      | 1, hj => simp at hj; subst hj; exact ⟨Tryd.underlying5, rfl, cellsU8⟩
      | j + 2, hj => simp at hj) (by rw [cellsRange]; rfl) he
    have hl : ∃ a b, acc i = [a, b] := by
      unfold acc
      split <;> exact ⟨_, _, rfl⟩
    obtain ⟨a, b, hab⟩ := hl
    rw [hab] at hc
    have e0 := congrArg (·[0]?) hc
    have e1 := congrArg (·[1]?) hc
    simp only [List.getElem?_take, List.getElem?_drop] at e0 e1
    rw [hab]
    constructor
    · rw [World.var?_cell hg' hvar' (2 * i), ← Array.getElem?_toList]
      simpa [Nat.mul_comm] using e0
    · rw [World.var?_cell hg' hvar' (2 * i + 1), ← Array.getElem?_toList]
      simpa [Nat.mul_comm] using e1
  refine ⟨fun x h0 h1 => ?_, (key 0 (by omega)).1, (key 0 (by omega)).2, (key 1 (by omega)).1, (key 1 (by omega)).2, (key 2 (by omega)).1, (key 2 (by omega)).2, (key 3 (by omega)).1, (key 3 (by omega)).2, (key 4 (by omega)).1, (key 4 (by omega)).2⟩
  rw [World.var?_cell hg hvar x.toNat, ← Array.getElem?_toList, hcs]
  have hx := first_tab ⟨x.toNat, by omega⟩
  simp only at hx
  have e : ((x.toNat : Nat) : Int) = x := by omega
  rw [e] at hx
  simp only [List.getElem?_map, hx, Option.map_some]
  have := fstB_nonneg x
  congr 2
  omega

theorem gPow : Tryd.prog.globalNamed "internal/strconv.uint64pow10" = some 2 := by kernel_rfl
theorem gPowT : (Tryd.prog.globals[2]?).map (·.type) = some 117 := by kernel_rfl
theorem cellsU64 : Tryd.prog.cellsOf 102 = 1 := by kernel_rfl
theorem cellsPow : Tryd.prog.cellsOf 117 = 20 := by kernel_rfl
theorem laid_pow_eq : (Rows.laid_internal_strconv_uint64pow10 : DataW Unit) = Lib.tabData .u64 Lib.pow10Tab := by rfl
theorem pow_reads {W : World} (h : Lib.VarReads Tryd.prog W "internal/strconv.uint64pow10" Rows.laid_internal_strconv_uint64pow10) : Pow W := by
  obtain ⟨g, t, cs, fuel, p, hg, hty, hvar, hd⟩ := h
  obtain rfl := Option.some.inj (gPow.symm.trans hg)
  obtain rfl := Option.some.inj (gPowT.symm.trans hty)
  rw [laid_pow_eq] at hd
  unfold Pow Lib.TabIs
  rw [hvar, ← Lib.cells_of_tab Tryd.underlying117 Tryd.underlying102 cellsU64 cellsPow hd]

def laid5 : List (String × DataW Unit) := [("math/bits.deBruijn32tab", Rows.laid_math_bits_deBruijn32tab), ("math/bits.deBruijn64tab", Rows.laid_math_bits_deBruijn64tab), ("internal/strconv.uint64pow10", Rows.laid_internal_strconv_uint64pow10), ("unicode/utf8.acceptRanges", Rows.laid_unicode_utf8_acceptRanges), ("unicode/utf8.first", Rows.laid_unicode_utf8_first)]
theorem tabs5 {W : World} (h : laidMet Tryd.prog laid5 W) : Tabs W :=
  tabs_reads (Lib.laidMet.reads h (by simp [laid5])) (Lib.laidMet.reads h (by simp [laid5]))
theorem pow5 {W : World} (h : laidMet Tryd.prog laid5 W) : Pow W := pow_reads (Lib.laidMet.reads h (by simp [laid5]))

set_option maxRecDepth 100000 in
theorem open_act1 {H : Type} {enc : TypeId × Value → H} {W : World} {base : Nat} {v : Value} {d : DataW H} {p : List MemPlace} (hv : Value.okWide Tryd.prog W .any base 35 v)
    (h : DataW.Trod enc Tryd.prog W 0 (fun _ => true) true 35 v d p) :
    ∃ (q : PAct) (A : Option Addr) (n k : Nat), v = .agg #[.int .i64 q.kind, .int .i32 q.rune, .int .u8 q.fin, .int .u8 q.priv, .slice A n k, .string q.inter, .string q.text] ∧ Rd W (fun k => k < W.heap.size) 1 A n (ints q.params) ∧ n ≤ k ∧ q.params.length + q.inter.size + q.text.size + 5 ≤ Rows.uptoBulk d ∧ ActWF q := by
  obtain ⟨cs, rfl, _⟩ := okWide_struct Tryd.underlying35 hv
  obtain ⟨fuel, hf⟩ := h
  obtain ⟨l⟩ := cs
  obtain ⟨q, A, n, k, e, h1, h2, h3, h4⟩ := open_act (x := (d, p)) (by simpa [Value.cells] using hf)
  refine ⟨q, A, n, k, ?_, h1, h2, h3, h4⟩
  rw [show l = q.cells (.slice A n k) from e]
  rfl
theorem i64_wf {x : Int} (h : (Lit.int .i64 x).wf = true) : -9223372036854775808 ≤ x ∧ x ≤ 9223372036854775807 := by
  simpa [Lit.wf, IntKind.min, IntKind.max, IntKind.signed, IntKind.bits] using h

/-- a datum's numbers, as cells -/
def litCells : DataW Unit → Array Value
  | .agg l => (l.map fun | .lit (.int k z) => Value.int k z | _ => Value.int .i64 0).toArray
  | _ => #[]
noncomputable def laidWorld5 (os : Os) : World :=
  let w := laidWorld os
  { w with heap := ((w.heap.modify 4 (fun | .cells _ t frozen => .cells (litCells Rows.laid_math_bits_deBruijn32tab) t frozen | o => o)).modify 5 (fun | .cells _ t frozen => .cells (litCells Rows.laid_math_bits_deBruijn64tab) t frozen | o => o)).modify 2 (fun | .cells _ t frozen => .cells (litCells Rows.laid_internal_strconv_uint64pow10) t frozen | o => o) }
end Go.Proofs.YtopaeikddlpecaaDoor
