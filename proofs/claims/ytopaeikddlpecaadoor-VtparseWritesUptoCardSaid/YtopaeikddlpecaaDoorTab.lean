/-
  From what a row lists ('laid') to the tables of unicode/utf8 in memory ('Tabs'). Conditions: the row's list.
-/
import Derived.Test.YtopaeikddlpecaaDoorUtf
import Derived.Test.YtopaeikddlpecaaDoorRows
import Derived.Lib.LaidU8
namespace Go.Proofs.YtopaeikddlpecaaDoor
open Go.RowKit

theorem gFirst : Tryd.prog.globalNamed "unicode/utf8.first" = some 0 := by kernel_rfl
theorem gAccept : Tryd.prog.globalNamed "unicode/utf8.acceptRanges" = some 1 := by kernel_rfl
theorem gFirstT : (Tryd.prog.globals[0]?).map (·.type) = some 107 := by kernel_rfl
theorem gAcceptT : (Tryd.prog.globals[1]?).map (·.type) = some 110 := by kernel_rfl
theorem cellsU8 : Tryd.prog.cellsOf 5 = 1 := by kernel_rfl
theorem cellsFirst : Tryd.prog.cellsOf 107 = 256 := by kernel_rfl
theorem cellsRange : Tryd.prog.cellsOf 109 = 2 := by kernel_rfl

theorem first_tab : ∀ c : Fin 256, Go.Pinned.utf8FirstZ[c.val]? = some (fstB c.val).toNat := by decide +kernel
theorem fstB_nonneg (p : Int) : 0 ≤ fstB p := by
  unfold fstB
  repeat' split
  all_goals omega
theorem laid_first_eq : Rows.laid_unicode_utf8_first = Lib.tabData .u8 (Go.Pinned.utf8FirstZ.map fun n : Nat => (n : Int)) := by
  unfold Rows.laid_unicode_utf8_first Go.Pinned.utf8First Go.Pinned.numbers Lib.tabData
  rw [List.map_map]
  rfl
def acc (i : Nat) : List Int := match i with | 0 => [128, 191] | 1 => [160, 191] | 2 => [128, 159] | 3 => [144, 191] | 4 => [128, 143] | _ => [0, 0]
theorem laid_accept_eq : (Rows.laid_unicode_utf8_acceptRanges : DataW Unit) = .agg ((List.range 16).map fun i => .agg ((acc i).map fun z => .lit (.int .u8 z))) := rfl

theorem tabs_of {W : World} (h : laidMet Tryd.prog [("unicode/utf8.acceptRanges", Rows.laid_unicode_utf8_acceptRanges), ("unicode/utf8.first", Rows.laid_unicode_utf8_first)] W) : Tabs W := by
  have h3 := Lib.laidMet.reads h (n := "unicode/utf8.first") (d := Rows.laid_unicode_utf8_first) (by simp)
  have h4 := Lib.laidMet.reads h (n := "unicode/utf8.acceptRanges") (d := Rows.laid_unicode_utf8_acceptRanges) (by simp)
  obtain ⟨g, t, cs, fuel, p, hg, hty, hvar, hd⟩ := h3
  obtain rfl := Option.some.inj (gFirst.symm.trans hg)
  obtain rfl := Option.some.inj (gFirstT.symm.trans hty)
  rw [laid_first_eq] at hd
  have hcs := Lib.cells_of_tab Tryd.underlying107 Tryd.underlying5 cellsU8 cellsFirst hd
  obtain ⟨g', t', cs', fuel', p', hg', hty', hvar', hd'⟩ := h4
  obtain rfl := Option.some.inj (gAccept.symm.trans hg')
  obtain rfl := Option.some.inj (gAcceptT.symm.trans hty')
  rw [laid_accept_eq] at hd'
  have key : ∀ i, i < 16 → W.cell? ⟨1, 2 * i, none⟩ = some (.int .u8 ((acc i).getD 0 0)) ∧ W.cell? ⟨1, 2 * i + 1, none⟩ = some (.int .u8 ((acc i).getD 1 0)) := by
    intro i hi
    obtain ⟨fu, d, q, hdi, he⟩ := Lib.array_elem Tryd.underlying110 hd' i hi
    simp only [List.getElem?_map, List.getElem?_range hi, Option.map_some, Option.some.injEq] at hdi
    subst hdi
    rw [cellsRange] at he
    have hc := Lib.ints_of_struct Tryd.underlying109 (fun j f hj => by
      match j, hj with
      | 0, hj => simp at hj; subst hj; exact ⟨Tryd.underlying5, rfl, cellsU8⟩
      | 1, hj => simp at hj; subst hj; exact ⟨Tryd.underlying5, rfl, cellsU8⟩
      | j + 2, hj => simp at hj) (by rw [cellsRange]; rfl) he
    have hl : ∃ a b, acc i = [a, b] := by
      unfold acc
      split <;> exact ⟨_, _, rfl⟩
    obtain ⟨a, b, hab⟩ := hl
    rw [hab] at hc
    have e0 := congrArg (·[0]?) hc
    have e1 := congrArg (·[1]?) hc
    simp only [List.getElem?_take, List.getElem?_drop] at e0 e1
    rw [hab]
    constructor
    · rw [World.var?_cell hg' hvar' (2 * i), ← Array.getElem?_toList]
      simpa [Nat.mul_comm] using e0
    · rw [World.var?_cell hg' hvar' (2 * i + 1), ← Array.getElem?_toList]
      simpa [Nat.mul_comm] using e1
  refine ⟨fun x h0 h1 => ?_, (key 0 (by omega)).1, (key 0 (by omega)).2, (key 1 (by omega)).1, (key 1 (by omega)).2, (key 2 (by omega)).1, (key 2 (by omega)).2, (key 3 (by omega)).1, (key 3 (by omega)).2, (key 4 (by omega)).1, (key 4 (by omega)).2⟩
  rw [World.var?_cell hg hvar x.toNat, ← Array.getElem?_toList, hcs]
  have hx := first_tab ⟨x.toNat, by omega⟩
  simp only at hx
  have e : ((x.toNat : Nat) : Int) = x := by omega
  rw [e] at hx
  simp only [List.getElem?_map, hx, Option.map_some]
  have := fstB_nonneg x
  congr 2
  omega
end Go.Proofs.YtopaeikddlpecaaDoor
