/-
  A slice of slices of bytes that came in, opened: 'Parts', with its bulk. Conditions: none; plain lemmas.
-/
import Derived.Test.YtopaeikddlpecaaDoorRow
import Derived.Test.YtopaeikddlpecaaDoorStrW
import Derived.Deep.Matrix
namespace Go.Proofs.YtopaeikddlpecaaDoor
open Go.ChangeShapes Go.WideShapes Go.ChangeAt Go.RowKit

theorem bulk_rows {H : Type} {ι : Type} (l : List ι) (f : ι → DataW H) (g : ι → List Int) (h : ∀ r ∈ l, 1 + (g r).length ≤ Rows.uptoBulk (f r)) : l.length + (l.map g).flatten.length ≤ Rows.uptoBulkAll (l.map f) := by
  induction l with
  | nil => simp [Rows.uptoBulkAll]
  | cons x l ih =>
    have h1 := h x (by simp)
    have h2 := ih fun r hr => h r (by simp [hr])
    simp only [List.map_cons, bulk_cons, List.flatten_cons, List.length_append, List.length_cons]
    omega
theorem flat_all (ls : List (List Int)) : flat ls ls.length = ls.flatten := by simp [flat]

theorem open_parts {H : Type} {enc : TypeId × Value → H} {W : World} {A : Option Addr} {n c : Nat} {d : DataW H} {p : List MemPlace}
    (h : DataW.Trod enc Tryd.prog W 0 (fun _ => true) true 28 (.slice A n c) d p) :
    ∃ ls : List (List Int), Parts W (fun k => k < W.heap.size) A n ls ∧ n + (flat ls n).length + 1 ≤ Rows.uptoBulk d ∧ ∀ l ∈ ls, Byts l := by
  obtain ⟨fuel, hf⟩ := h
  rcases Go.Deep.open_int_rows Tryd.underlying28 Tryd.underlying22 Tryd.underlying5 (by kernel_rfl) cellsU8 hf with ⟨hcs, hx⟩ | ⟨a, len, cap, B, L, C, Z, hcs, _, hl, hm, hx, hr⟩
  · simp [Value.cells] at hcs
    obtain ⟨rfl, rfl, rfl⟩ := hcs
    refine ⟨[], ⟨rfl, [], Rd.nil _ _ _ _, fun j l hj => by simp at hj⟩, ?_, fun l hl => by cases hl⟩
    have := bulk_one d
    simp [flat]
    omega
  · simp [Value.cells] at hcs
    obtain ⟨rfl, rfl, rfl⟩ := hcs
    have hd : d = _ := congrArg Prod.fst hx
    have hlen : ∀ r, r < n → ((Z r).take (L r)).length = L r := fun r h => by
      obtain ⟨_, h1, _, h2, _⟩ := hr r (by omega)
      rw [List.length_take]; omega
    refine ⟨(List.range n).map fun r => (Z r).take (L r), ⟨by simp, (List.range n).map fun r => .slice (B r) (L r) (C r), ⟨by simp, fun hn => ?_⟩, fun j l hj => ?_⟩, ?_, fun l hl => ?_⟩
    · obtain ⟨b, off, spot⟩ := a
      have h0 := (hr 0 (by omega)).1
      have hspot : spot = none := by simpa [Addr.add] using World.cell?_spot h0
      subst hspot
      refine ⟨b, off, rfl, World.block_lt_of_cell? W _ (by simpa [Addr.add] using h0), World.block_lt_of_cell? W _ (by simpa [Addr.add] using h0), fun j u hu => ?_⟩
      have hj : j < n := by have := (List.getElem?_eq_some_iff.1 hu).1; simp at this; omega
      have h1 := (hr j (by omega)).1
      rw [add_plain'] at h1
      rw [h1]
      simpa [List.getElem?_range, hj] using hu
    · have hjn : j < n := by have := (List.getElem?_eq_some_iff.1 hj).1; simpa using this
      simp only [List.getElem?_map, List.getElem?_range hjn, Option.map_some, Option.some.injEq] at hj
      subst hj
      obtain ⟨_, h1, _, h2, _, _, h3⟩ := hr j (by omega)
      refine ⟨B j, L j, C j, by simp [hjn], ⟨by rw [byts_length, hlen j hjn, Nat.mul_one], fun hn => ?_⟩, h1⟩
      rw [Nat.mul_one] at hn
      cases hB : B j with
      | none =>
        obtain ⟨_, _, _, _, _, h5, _⟩ := hr j (by omega)
        have := h5 hB
        omega
      | some a' =>
        obtain ⟨b, off, spot⟩ := a'
        have hc := (h3 _ hB).2
        have h0 := hc 0 (by omega)
        have hspot : spot = none := by simpa [Addr.add] using World.cell?_spot h0
        subst hspot
        refine ⟨b, off, rfl, World.block_lt_of_cell? W _ (by simpa [Addr.add] using h0), World.block_lt_of_cell? W _ (by simpa [Addr.add] using h0), fun i u hu => ?_⟩
        have hi : i < L j := by have := (List.getElem?_eq_some_iff.1 hu).1; rw [byts_length, hlen j hjn] at this; exact this
        have h1 := hc i (by omega)
        rw [add_plain'] at h1
        rw [h1]
        rw [byts_at (by rw [hlen j hjn]; exact hi)] at hu
        injection hu with hu
        rw [← hu]
        simp only [List.getD_eq_getElem?_getD, List.getElem?_take, if_pos hi]
    · have e : flat ((List.range n).map fun r => (Z r).take (L r)) n = ((List.range n).map fun r => (Z r).take (L r)).flatten := by
        have := flat_all ((List.range n).map fun r => (Z r).take (L r))
        simpa using this
      rw [e, hd, bulk_slice]
      have := bulk_rows (H := H) (List.range n) (fun r => Go.Deep.intRow .u8 (B r) (L r) (Z r)) (fun r => (Z r).take (L r)) (fun r hr' => by
        have hrn : r < n := by simpa using hr'
        rw [hlen r hrn]
        obtain ⟨_, h1, _, h2, _, h5, _⟩ := hr r (by omega)
        unfold Go.Deep.intRow
        cases hB : B r with
        | none => have := h5 hB; simp [Rows.uptoBulk]; omega
        | some a' =>
          simp only [bulk_slice]
          have h6 := bulk_length (lits (H := H) .u8 ((Z r).take (L r)))
          have h7 : (lits (H := H) .u8 ((Z r).take (L r))).length = L r := by simp [lits]; omega
          omega)
      simp only [List.length_range] at this
      omega
    · simp only [List.mem_map, List.mem_range] at hl
      obtain ⟨r, hrn, rfl⟩ := hl
      exact byts_wf fun x hx => (hr r (by omega)).2.2.2.2.1 x (List.mem_of_mem_take hx)
end Go.Proofs.YtopaeikddlpecaaDoor
