/-
  Slices of slices: 'xs[m:]', 'xs[:m]' as facts for the walk, without a case on the capacity. Conditions: the bounds.
-/
import Derived.Test.YtopaeikddlpecaaDoorApp
import Derived.Laws.Slices
namespace Go.Proofs.YtopaeikddlpecaaDoor
open Go.RowKit

/-- 'xs[m:]' -/
theorem cut_lo {P : Program} (t e : TypeId) {i : TypeInfo} (ht : P.underlying t = some (.slice e)) (hi : P.info? e = some i) (size : Nat) (hsz : i.size = size) (A : Option Addr) (n c m : Nat) (hm : m ≤ n) (hc : n ≤ c) :
    ∃ A' : Option Addr, (∀ W : World, (Instr.slice t (.slice A n c) (some (.int .i64 (m : Int))) none none).run P W = .ok (.slice A' (n - m) (c - m)) W) ∧
      (∀ (w : World) (R : Nat → Prop) (xs : List Value), Rd w R size A n xs → Rd w R size A' (n - m) (xs.drop (m * size))) ∧
      (∀ (w : World) (F : Nat → Prop) (xs : List Value), Sl w F e size A n c xs → Sl w F e size A' (n - m) (c - m) (xs.drop (m * size))) := by
  refine ⟨if c = m then A else A.map (·.add (m * size)), fun W => ?_, fun w R xs h => h.cut hm hc, fun w F xs h => h.cut hm⟩
  have hel : P.elem t = e := by simp [Program.elem, ht]
  have hu : P.underlying t = some (.slice (P.elem t)) := by rw [hel]; exact ht
  rw [run_slice_l W t A n c hu .i64 (m : Int) (Int.natCast_nonneg _) (by omega), hel]
  simp [sizeOf, typeInfo, hi, hsz, sliced, Result.andThen]
end Go.Proofs.YtopaeikddlpecaaDoor
