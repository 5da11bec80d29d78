/-
  Walk: lanyardref05.Same answers true for two slices of the same actions. Conditions: at most 67108864 actions, at most 64 parameters an action.
-/
import Derived.Test.YtopaeikddlpecaaDoorLive
import Derived.Deep.DeepCutAuto
namespace Go.Proofs.YtopaeikddlpecaaDoor
open Go.RowKit

theorem new_first (w : World) (a b : Array Value) (d e : TypeId) (i : Nat) : (((w.alloc (.cells a d)).alloc (.cells b e)).drew).cell? ⟨w.heap.size, i, none⟩ = a[i]? := (((Blk.new w d a).alloc _).drew).cell i
theorem new_second (w : World) (a b : Array Value) (d e : TypeId) (i : Nat) : (((w.alloc (.cells a d)).alloc (.cells b e)).drew).cell? ⟨w.heap.size + 1, i, none⟩ = b[i]? := by
  simp

/-- an action lies in its own block -/
def ActAt (w : World) (g : Nat) (a : PAct) (A : Option Addr) (n k : Nat) : Prop := g < w.heap.size ∧ ∀ i, w.cell? ⟨g, i, none⟩ = (#[Value.int .i64 a.kind, .int .i32 a.rune, .int .u8 a.fin, .int .u8 a.priv, .slice A n k, .string a.inter, .string a.text])[i]?

set_option maxHeartbeats 6400000 in
set_option maxRecDepth 100000 in
theorem same_any (ps : List PAct) (R1 R2 : Nat → Prop) (A B : Option Addr) (n c d : Nat) (w : World) (h1 : ActsIn w R1 A n ps) (h2 : ActsIn w R2 B n ps) (hn4 : n ≤ 67108864) (hps : ∀ p ∈ ps, p.params.length ≤ 64) :
    Calls Tryd.prog 13 #[.slice A n c, .slice B n d] w (TrueP w) := by
  have H1 := Lib.hid h1
  have H2 := Lib.hid h2
  have HPS := Lib.hid hps
  have hn : ps.length = n := h1.1.symm
  have HN := Lib.hid hn
  clear h1 h2 hn hps
  go_enter Tryd.func13, Tryd.ntmps13
  go_wp2
  go_loopw [5] (fun i wr => ∃ k : Nat, k ≤ n ∧ i = .int .i64 k ∧ Fr NoB w wr) (fun i _ => n - (intOf i).toNat)
  case atStart => exact ⟨0, Nat.zero_le _, rfl, Fr.refl _ _⟩
  case round =>
    obtain ⟨k, hk, rfl, hfr⟩ := hrel
    have HFR := Lib.hid hfr
    clear hfr
    by_cases hlt : k < n
    · have hkl : k < ps.length := by rw [HN.out]; exact hlt
      obtain ⟨ga, oa, A', n', k', hA, hRa, lta, hrd, hk', c0, c1', c2, c3, c4, c5, c6⟩ := (H1.out.fr HFR.out fun _ _ => noB_no).at_ (j := k) (List.getElem?_eq_getElem hkl)
      obtain ⟨gb, ob, B', m', l', hB, hRb, ltb, hrb, hl', d0, d1', d2, d3, d4, d5, d6⟩ := (H2.out.fr HFR.out fun _ _ => noB_no).at_ (j := k) (List.getElem?_eq_getElem hkl)
      have hp64 := HPS.out ps[k] (List.getElem_mem hkl)
      generalize ps[k] = a at *
      subst hA hB
      have hln : a.params.length = n' := by have := hrd.1; rw [ints_length] at this; omega
      have hlm : m' = n' := by have := hrb.1; rw [ints_length] at this; omega
      subst hlm
      rw [hln] at hp64
      have HRD := Lib.hid hrd
      have HRB := Lib.hid hrb
      have HLN := Lib.hid hln
      clear hrd hrb hln hkl hRa hRb
      obtain ⟨wo, rfl⟩ : ∃ wo : World, wo = wr := ⟨_, rfl⟩
      go_upto_region 6 with (fail)
      go_cut [6, 7] (fun v6 v7 wx => ∃ g6 g7, v6 = .pointer (some ⟨g6, 0, none⟩) ∧ v7 = .pointer (some ⟨g7, 0, none⟩) ∧ Fr NoB wo wx ∧ ActAt wx g6 a A' m' k' ∧ ActAt wx g7 a B' m' l')
      case first =>
        go_region
        all_goals
          go_wp2
          go_meet
        case rel =>
          first
            | exact ⟨_, _, rfl, rfl, (((Fr.refl _ _).alloc _).alloc _).drew, ⟨by simp <;> omega, fun i => new_first _ _ _ _ _ i⟩, ⟨by simp <;> omega, fun i => new_second _ _ _ _ _ i⟩⟩
            | exact ⟨_, _, rfl, rfl, (((Fr.refl _ _).alloc _).alloc _).drew, ⟨by simp <;> omega, fun i => new_second _ _ _ _ _ i⟩, ⟨by simp <;> omega, fun i => new_first _ _ _ _ _ i⟩⟩
        case rel =>
          first
            | exact ⟨_, _, rfl, rfl, (((Fr.refl _ _).alloc _).alloc _).drew, ⟨by simp <;> omega, fun i => new_first _ _ _ _ _ i⟩, ⟨by simp <;> omega, fun i => new_second _ _ _ _ _ i⟩⟩
            | exact ⟨_, _, rfl, rfl, (((Fr.refl _ _).alloc _).alloc _).drew, ⟨by simp <;> omega, fun i => new_second _ _ _ _ _ i⟩, ⟨by simp <;> omega, fun i => new_first _ _ _ _ _ i⟩⟩
      case rest =>
        obtain ⟨g6, g7, rfl, rfl, hfx, a6, a7⟩ := hcut
        clear c0 c1' c2 c3 c4 c5 c6 d0 d1' d2 d3 d4 d5 d6
        have HFX := Lib.hid hfx
        have A6 := Lib.hid a6
        have A7 := Lib.hid a7
        have l6 := a6.1
        have l7 := a7.1
        have c0 : wc.cell? ⟨g6, 0, none⟩ = some (.int .i64 a.kind) := a6.2 0
        have c1 : wc.cell? ⟨g6, 1, none⟩ = some (.int .i32 a.rune) := a6.2 1
        have c2 : wc.cell? ⟨g6, 2, none⟩ = some (.int .u8 a.fin) := a6.2 2
        have c3 : wc.cell? ⟨g6, 3, none⟩ = some (.int .u8 a.priv) := a6.2 3
        have c4 : wc.cell? ⟨g6, 4, none⟩ = some (.slice A' m' k') := a6.2 4
        have c5 : wc.cell? ⟨g6, 5, none⟩ = some (.string a.inter) := a6.2 5
        have c6 : wc.cell? ⟨g6, 6, none⟩ = some (.string a.text) := a6.2 6
        have d0 : wc.cell? ⟨g7, 0, none⟩ = some (.int .i64 a.kind) := a7.2 0
        have d1 : wc.cell? ⟨g7, 1, none⟩ = some (.int .i32 a.rune) := a7.2 1
        have d2 : wc.cell? ⟨g7, 2, none⟩ = some (.int .u8 a.fin) := a7.2 2
        have d3 : wc.cell? ⟨g7, 3, none⟩ = some (.int .u8 a.priv) := a7.2 3
        have d4 : wc.cell? ⟨g7, 4, none⟩ = some (.slice B' m' l') := a7.2 4
        have d5 : wc.cell? ⟨g7, 5, none⟩ = some (.string a.inter) := a7.2 5
        have d6 : wc.cell? ⟨g7, 6, none⟩ = some (.string a.text) := a7.2 6
        clear hfx a6 a7
        go_wp2
        clear c0 c1 c2 c3 c4 c5 c6 d0 d1 d2 d3 d4 d5 d6
        obtain ⟨wo2, rfl⟩ : ∃ wo2 : World, wo2 = wc := ⟨_, rfl⟩
        go_loopw [8] (fun i wr2 => ∃ j : Nat, j ≤ m' ∧ i = .int .i64 j ∧ Fr NoB wo2 wr2) (fun i _ => m' - (intOf i).toNat)
        case atStart => exact ⟨0, Nat.zero_le _, rfl, Fr.refl _ _⟩
        case round =>
          obtain ⟨j, hj, rfl, hfj⟩ := hrel
          have q6 : wr.cell? ⟨g6, 4, none⟩ = some (.slice A' m' k') := (hfj.cell_some (A6.out.2 4) noB_no)
          have q7 : wr.cell? ⟨g7, 4, none⟩ = some (.slice B' m' l') := (hfj.cell_some (A7.out.2 4) noB_no)
          have HFJ := Lib.hid (HFX.out.trans hfj fun _ _ h => h)
          have HFJ2 := Lib.hid hfj
          clear hfj
          by_cases hlj : j < m'
          · obtain ⟨g1, o1, u, hA, lt1, hu, e1⟩ := (HRD.out.fr HFJ.out fun _ _ => noB_no).at_ hlj
            rw [ints_at (by rw [HLN.out]; exact hlj)] at hu
            injection hu with hu
            subst hu
            obtain ⟨g2, o2, u, hB, lt2, hu, e2⟩ := (HRB.out.fr HFJ.out fun _ _ => noB_no).at_ hlj
            rw [ints_at (by rw [HLN.out]; exact hlj)] at hu
            injection hu with hu
            subst hu
            generalize a.params.getD j 0 = x at *
            subst hA hB
            go_wp2
            go_quiet (fail)
            go_wp2
            exact ⟨⟨j + 1, by omega, by go_num, HFJ2.out.drewN _⟩, by simp [intOf]; omega⟩
          · go_wp2
            exact ⟨⟨k + 1, by omega, by go_num, HFR.out.trans HFJ.out fun _ _ h => h⟩, by simp [intOf]; omega⟩
    · go_wp2
      go_ret
      exact ⟨rfl, HFR.out⟩
end Go.Proofs.YtopaeikddlpecaaDoor
