/-
  Walk: vtparse.Parser.Reset. Conditions: none but the parser in memory.
-/
import Derived.Test.YtopaeikddlpecaaDoorRl
import Derived.Test.YtopaeikddlpecaaDoorStrW
namespace Go.Proofs.YtopaeikddlpecaaDoor
open Go.RowKit

theorem Sim.clear {s : PS} {r : RS} (h : Sim s r) : Sim { s with out := [] } { r with out := [] } := ⟨h.state, h.dec, rfl, h.a, h.fresh, h.noInter, h.noText⟩
theorem Sim.ground_eq {s : PS} {r : RS} (h : Sim s r) : s.isGround = r.isGround := by unfold PS.isGround RS.isGround; rw [h.state, h.dec]

set_option maxHeartbeats 1600000 in
set_option maxRecDepth 100000 in
theorem reset_any (g : Nat) (s : PS) (F : Nat → Prop) (w : World) (h : @RepP avNo w F g s) :
    Calls Tryd.prog 22 #[.pointer (some ⟨g, 0, none⟩)] w fun e w' => e = .returned (.tuple #[]) ∧ ∃ F', @RepP avNo w' F' g PS0 ∧ Fr (· = g) w w' ∧ ∀ k, F' k → k = g ∨ w.heap.size ≤ k := by
  obtain ⟨m, h⟩ := h
  have hblk := @RepPM.blk avNo _ _ _ _ _ h
  have c0 : w.cell? ⟨g, 0, none⟩ = some (.bool true) := hblk.cell 0
  have lt := hblk.lt
  have HB := Lib.hid hblk
  clear h hblk
  go_enter Tryd.func22, Tryd.ntmps22
  go_wp2_with (first
    | (go_at_call 34; refine (pnone_any g w c0).mono ?_; rintro e w1 ⟨rfl, rfl⟩)
    | (go_at_call 16
       refine (@new_any avNo w (fun _ h => h.elim)).mono ?_
       rintro e w1 ⟨g1, F1, rfl, ⟨m1, h1⟩, hf, hF1⟩
       have hb1 := @RepPM.blk avNo _ _ _ _ _ h1
       have b0 : w1.cell? ⟨g1, 0, none⟩ = some (.bool true) := hb1.cell 0
       have b1 : w1.cell? ⟨g1, 1, none⟩ = some (.int .i64 0) := hb1.cell 1
       have b2 : w1.cell? ⟨g1, 2, none⟩ = some (.pointer (some ⟨m1.gd, 0, none⟩)) := hb1.cell 2
       have b3 : w1.cell? ⟨g1, 3, none⟩ = some (.int .i64 0) := hb1.cell 3
       have b4 : w1.cell? ⟨g1, 4, none⟩ = some (.int .i32 0) := hb1.cell 4
       have b5 : w1.cell? ⟨g1, 5, none⟩ = some (.int .u8 0) := hb1.cell 5
       have b6 : w1.cell? ⟨g1, 6, none⟩ = some (.int .u8 0) := hb1.cell 6
       have b7 : w1.cell? ⟨g1, 7, none⟩ = some (.slice m1.pA m1.pn m1.pc) := hb1.cell 7
       have b8 : w1.cell? ⟨g1, 8, none⟩ = some (.string ⟨#[]⟩) := hb1.cell 8
       have b9 : w1.cell? ⟨g1, 9, none⟩ = some (.string ⟨#[]⟩) := hb1.cell 9
       have b10 : w1.cell? ⟨g1, 10, none⟩ = some (.int .i64 0) := hb1.cell 10
       have b11 : w1.cell? ⟨g1, 11, none⟩ = some (.slice m1.oA 0 m1.oc) := hb1.cell 11
       have hg1 := HB.out.fr hf noB_no
       have d0 := hg1.cell 0
       have d1 := hg1.cell 1
       have d2 := hg1.cell 2
       have d3 := hg1.cell 3
       have d4 := hg1.cell 4
       have d5 := hg1.cell 5
       have d6 := hg1.cell 6
       have d7 := hg1.cell 7
       have d8 := hg1.cell 8
       have d9 := hg1.cell 9
       have d10 := hg1.cell 10
       have d11 := hg1.cell 11
       simp only [PS.blk, List.getElem?_toArray, List.getElem?_cons_zero, List.getElem?_cons_succ] at d0 d1 d2 d3 d4 d5 d6 d7 d8 d9 d10 d11
       have f0 := hg1.frozen 0
       have f1 := hg1.frozen 1
       have f2 := hg1.frozen 2
       have f3 := hg1.frozen 3
       have f4 := hg1.frozen 4
       have f5 := hg1.frozen 5
       have f6 := hg1.frozen 6
       have f7 := hg1.frozen 7
       have f8 := hg1.frozen 8
       have f9 := hg1.frozen 9
       have f10 := hg1.frozen 10
       have f11 := hg1.frozen 11
       have HG1 := Lib.hid hg1
       have H1 := Lib.hid h1
       have HF := Lib.hid hf
       have HF1 := Lib.hid hF1
       clear hb1 h1 hf hF1 hg1))
  go_end0
  have hput := (((((((((((HG1.out.put 0 (.bool true)).put 1 (.int .i64 0)).put 2 (.pointer (some ⟨m1.gd, 0, none⟩))).put 3 (.int .i64 0)).put 4 (.int .i32 0)).put 5 (.int .u8 0)).put 6 (.int .u8 0)).put 7 (.slice m1.pA m1.pn m1.pc)).put 8 (.string ⟨#[]⟩)).put 9 (.string ⟨#[]⟩)).put 10 (.int .i64 0)).put 11 (.slice m1.oA 0 m1.oc)
  have hf2 : Fr (· = g) w1 _ := ((((((((((((Fr.refl (· = g) w1).setCell (p := ⟨g, 0, none⟩) (fun _ => rfl) (.bool true)).setCell (p := ⟨g, 1, none⟩) (fun _ => rfl) (.int .i64 0)).setCell (p := ⟨g, 2, none⟩) (fun _ => rfl) (.pointer (some ⟨m1.gd, 0, none⟩))).setCell (p := ⟨g, 3, none⟩) (fun _ => rfl) (.int .i64 0)).setCell (p := ⟨g, 4, none⟩) (fun _ => rfl) (.int .i32 0)).setCell (p := ⟨g, 5, none⟩) (fun _ => rfl) (.int .u8 0)).setCell (p := ⟨g, 6, none⟩) (fun _ => rfl) (.int .u8 0)).setCell (p := ⟨g, 7, none⟩) (fun _ => rfl) (.slice m1.pA m1.pn m1.pc)).setCell (p := ⟨g, 8, none⟩) (fun _ => rfl) (.string ⟨#[]⟩)).setCell (p := ⟨g, 9, none⟩) (fun _ => rfl) (.string ⟨#[]⟩)).setCell (p := ⟨g, 10, none⟩) (fun _ => rfl) (.int .i64 0)).setCell (p := ⟨g, 11, none⟩) (fun _ => rfl) (.slice m1.oA 0 m1.oc)
  generalize (((((((((((w1.setCell ⟨g, 0, none⟩ (.bool true)).setCell ⟨g, 1, none⟩ (.int .i64 0)).setCell ⟨g, 2, none⟩ (.pointer (some ⟨m1.gd, 0, none⟩))).setCell ⟨g, 3, none⟩ (.int .i64 0)).setCell ⟨g, 4, none⟩ (.int .i32 0)).setCell ⟨g, 5, none⟩ (.int .u8 0)).setCell ⟨g, 6, none⟩ (.int .u8 0)).setCell ⟨g, 7, none⟩ (.slice m1.pA m1.pn m1.pc)).setCell ⟨g, 8, none⟩ (.string ⟨#[]⟩)).setCell ⟨g, 9, none⟩ (.string ⟨#[]⟩)).setCell ⟨g, 10, none⟩ (.int .i64 0)).setCell ⟨g, 11, none⟩ (.slice m1.oA 0 m1.oc) = wz at *
  have h1 := H1.out
  obtain ⟨hn, cs, hos, hoa⟩ := @RepPM.out avNo _ _ _ _ _ h1
  have fr : ∀ e, 53 ≠ e → Free w1 (· = g) e := fun e he => Free.blk HG1.out he
  have z1 := HF.out.size
  refine ⟨rfl, fun k => F1 k ∨ k = g, ⟨m1, @RepPM.mk avNo _ _ _ _ _ ?_ (.inr rfl) ?_ (fun _ h => h.elim) ((@RepPM.dec avNo _ _ _ _ _ h1).carry hf2 (fr _ (by decide)) (fr _ (by decide)) |>.mono fun k hk => .inl hk) (((@RepPM.par avNo _ _ _ _ _ h1).carry hf2 (fr _ (by decide))).mono fun k hk => .inl hk) ⟨hn, cs, (hos.carry hf2 (fr _ (by decide))).mono fun k hk => .inl hk, hoa.1, fun j p hp => by simp [PS0] at hp⟩⟩, (HF.out.mono fun _ _ h => h.elim).trans hf2 fun _ _ h => h, ?_⟩
  · simpa [PS.blk, PS0, act0] using hput
  · rintro k (hk | rfl)
    · exact Nat.lt_of_lt_of_le (@RepPM.dom avNo _ _ _ _ _ h1 k hk) hf2.size
    · exact Nat.lt_of_lt_of_le HG1.out.lt hf2.size
  · rintro k (hk | rfl)
    · exact .inr (HF1.out k hk)
    · exact .inl rfl

end Go.Proofs.YtopaeikddlpecaaDoor
