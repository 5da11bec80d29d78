/-
  A slice of bools that came in, opened, with its bulk. Conditions: none; plain lemmas.
-/
import Derived.Test.YtopaeikddlpecaaDoorRow2
import Derived.Test.YtopaeikddlpecaaDoorPie
import Derived.Deep.Grids
namespace Go.Proofs.YtopaeikddlpecaaDoor
open Go.ChangeShapes Go.WideShapes Go.ChangeAt Go.RowKit

theorem open_flags {H : Type} {enc : TypeId × Value → H} {W : World} {A : Option Addr} {n c : Nat} {d : DataW H} {p : List MemPlace}
    (h : DataW.Trod enc Tryd.prog W 0 (fun _ => true) true 39 (.slice A n c) d p) :
    ∃ bs : List Bool, Rd W (fun k => k < W.heap.size) 1 A n (bools bs) ∧ n + 1 ≤ Rows.uptoBulk d := by
  obtain ⟨fuel, hf⟩ := h
  rcases Go.Deep.open_bools Tryd.underlying39 Tryd.underlying4 (by kernel_rfl) hf with ⟨hcs, hx⟩ | ⟨a, len, cap, B, hcs, _, hl, hm, hx, hr⟩
  · simp [Value.cells] at hcs
    obtain ⟨rfl, rfl, rfl⟩ := hcs
    refine ⟨[], Rd.nil _ _ _ _, ?_⟩
    have := bulk_one d
    omega
  · simp [Value.cells] at hcs
    obtain ⟨rfl, rfl, rfl⟩ := hcs
    have hd : d = _ := congrArg Prod.fst hx
    refine ⟨(List.range n).map B, ⟨by simp [bools], fun hn => ?_⟩, ?_⟩
    · obtain ⟨b, off, spot⟩ := a
      have h0 := hr 0 (by omega)
      have hspot : spot = none := by simpa [Addr.add] using World.cell?_spot h0
      subst hspot
      refine ⟨b, off, rfl, World.block_lt_of_cell? W _ (by simpa [Addr.add] using h0), World.block_lt_of_cell? W _ (by simpa [Addr.add] using h0), fun j u hu => ?_⟩
      have hj : j < n := by have := (List.getElem?_eq_some_iff.1 hu).1; simpa [bools] using this
      have h1 := hr j (by omega)
      rw [add_plain'] at h1
      rw [h1]
      simpa [bools, hj] using hu
    · rw [hd]
      simp only [Go.Deep.boolRow, bulk_slice]
      have := bulk_length ((List.range n).map fun i => (DataW.lit (.bool (B i)) : DataW H))
      simp only [List.length_map, List.length_range] at this
      omega
end Go.Proofs.YtopaeikddlpecaaDoor
