/-
  unicode/utf8.FullRune as a plain function of the bytes, walked. Conditions as in the text on DecodeRune.
-/
import Derived.Test.YtopaeikddlpecaaDoorUtf
namespace Go.Proofs.YtopaeikddlpecaaDoor
open Go.RowKit

def full (l : List Int) : Bool :=
  if l.length < 1 then false
  else if l.getD 0 0 < 194 then true
  else if 244 < l.getD 0 0 then true
  else if l.length < 2 then false
  else if l.getD 0 0 < 224 then true
  else if l.getD 1 0 < loB (l.getD 0 0) then true
  else if hiB (l.getD 0 0) < l.getD 1 0 then true
  else if l.length < 3 then false
  else if l.getD 0 0 < 240 then true
  else if l.getD 2 0 < 128 then true
  else if 191 < l.getD 2 0 then true
  else if l.length < 4 then false
  else true

theorem ft3 {n : Nat} {p0 p1 lo hi : Int} {X : Bool} (h : 3 ≤ n) (h0 : p0 < 240) :
    (if p1 < lo then true else if hi < p1 then true else if n < 3 then false else if p0 < 240 then true else X) = true := by
  rw [if_neg (c := n < 3) (by omega), if_pos (c := p0 < 240) h0]
  simp
theorem ft4 {n : Nat} {p0 p1 p2 lo hi : Int} (h : 4 ≤ n) :
    (if p1 < lo then true else if hi < p1 then true else if n < 3 then false else if p0 < 240 then true else if p2 < 128 then true else if 191 < p2 then true else if n < 4 then false else true) = true := by
  rw [if_neg (c := n < 3) (by omega), if_neg (c := n < 4) (by omega)]
  simp

def FullSays (w : World) (b : Bool) (e : Ending) (w' : World) : Prop := e = .returned (.bool b) ∧ Fr NoB w w'
theorem frNo_drewN {w w' : World} {n : Nat} (h : w' = w.drewN n) : Fr NoB w w' := by subst h; exact (Fr.refl _ _).drewN n

set_option maxHeartbeats 4000000 in
theorem full_big (g o n c : Nat) (p0 p1 p2 : Int) (d : Bool) (w : World) (hT : Tabs w) (lt : g < w.heap.size) (h1n : 1 ≤ n) (hnm : n ≤ 140737488351232)
    (b0 : 0 ≤ p0 ∧ p0 ≤ 255) (b1 : 0 ≤ p1 ∧ p1 ≤ 255) (b2 : 0 ≤ p2 ∧ p2 ≤ 255)
    (h0 : w.cell? ⟨g, o, none⟩ = some (.int .u8 p0)) (h1 : 2 ≤ (n : Int) → w.cell? ⟨g, o + 1, none⟩ = some (.int .u8 p1)) (h2 : 3 ≤ (n : Int) → w.cell? ⟨g, o + 2, none⟩ = some (.int .u8 p2))
    (hd : d = if n < 1 then false else if p0 < 194 then true else if 244 < p0 then true else if n < 2 then false else if p0 < 224 then true else if p1 < loB p0 then true else if hiB p0 < p1 then true
      else if n < 3 then false else if p0 < 240 then true else if p2 < 128 then true else if 191 < p2 then true else if n < 4 then false else true) :
    Calls Tryd.prog 83 #[.slice (some ⟨g, o, none⟩) n c] w (FullSays w d) := by
  have hx := hT.fst _ b0.1 b0.2
  obtain ⟨-, a0, a1, a2, a3, a4, a5, a6, a7, a8, a9⟩ := hT
  have HD := Lib.hid hd
  clear hd
  rcases (by omega : (p0 < 128 ∨ (128 ≤ p0 ∧ p0 < 194) ∨ 244 < p0 ∨ (194 ≤ p0 ∧ p0 < 224)) ∨ ((224 ≤ p0 ∧ p0 ≤ 224) ∨ (225 ≤ p0 ∧ p0 ≤ 236) ∨ (238 ≤ p0 ∧ p0 ≤ 239) ∨ (237 ≤ p0 ∧ p0 ≤ 237)) ∨ ((240 ≤ p0 ∧ p0 ≤ 240) ∨ (241 ≤ p0 ∧ p0 ≤ 243) ∨ (244 ≤ p0 ∧ p0 ≤ 244))) with HC | HC | HC
  · have HE := HD
    rcases HC with hc | hc | hc | hc
    all_goals
      unfold fstB at hx
      repeat (first | rw [if_pos (by omega)] at hx | rw [if_neg (by omega)] at hx)
      by_cases hn : 2 ≤ n
      · go_enter Tryd.func83, Tryd.ntmps83
        go_wp2
        all_goals
          go_ret
          refine ⟨?_, by first | exact Fr.refl _ _ | exact ((Fr.refl _ _).alloc _) | exact ((Fr.refl _ _).alloc _).drewN _⟩
          have hd := HE.out
          repeat (first | rw [if_pos (by omega)] at hd | rw [if_neg (by omega)] at hd)
          rw [hd]
          rfl
      · obtain rfl : n = 1 := by omega
        go_enter Tryd.func83, Tryd.ntmps83
        go_wp2
        try (go_quiet (fail); go_wp2)
        all_goals
          go_ret
          refine ⟨?_, by first | exact Fr.refl _ _ | exact ((Fr.refl _ _).alloc _) | exact ((Fr.refl _ _).alloc _).drewN _⟩
          have hd := HE.out
          repeat (first | rw [if_pos (by omega)] at hd | rw [if_neg (by omega)] at hd)
          rw [hd]
          rfl
  · rcases HC with hc | hc | hc | hc
    all_goals
      unfold fstB at hx
      repeat (first | rw [if_pos (by omega)] at hx | rw [if_neg (by omega)] at hx)
      have hlo : loB p0 = loB p0 := rfl
      conv at hlo => rhs; unfold loB
      repeat (first | rw [if_pos (by omega)] at hlo | rw [if_neg (by omega)] at hlo)
      have hhi : hiB p0 = hiB p0 := rfl
      conv at hhi => rhs; unfold hiB
      repeat (first | rw [if_pos (by omega)] at hhi | rw [if_neg (by omega)] at hhi)
      have hd := HD.out
      rw [hlo, hhi] at hd
      have HE := Lib.hid hd
      clear hd HD
      rcases (by omega : n = 1 ∨ n = 2 ∨ 3 ≤ n) with rfl | rfl | hn
      · clear h1 h2
        go_enter Tryd.func83, Tryd.ntmps83
        go_wp2
        go_quiet (fail)
        go_wp2
        all_goals
          go_ret
          refine ⟨?_, by first | exact Fr.refl _ _ | exact ((Fr.refl _ _).alloc _) | exact ((Fr.refl _ _).alloc _).drewN _⟩
          have hd := HE.out
          repeat (first | rw [if_pos (by omega)] at hd | rw [if_neg (by omega)] at hd)
          rw [hd]
          rfl
      · have h1 := h1 (by omega)
        clear h2
        rcases (by omega : p1 < loB p0 ∨ ¬ p1 < loB p0 ∧ hiB p0 < p1 ∨ ¬ p1 < loB p0 ∧ ¬ hiB p0 < p1) with q | ⟨q, q'⟩ | ⟨q, q'⟩
        · rw [hlo] at q
          clear hlo hhi
          have t1 := decide_eq_true q
          go_enter Tryd.func83, Tryd.ntmps83
          go_wp2
          go_quiet (fail)
          go_wp2
          all_goals
            go_ret
            refine ⟨?_, by first | exact Fr.refl _ _ | exact ((Fr.refl _ _).alloc _) | exact ((Fr.refl _ _).alloc _).drewN _⟩
            have hd := HE.out
            repeat (first | rw [if_pos (by omega)] at hd | rw [if_neg (by omega)] at hd)
            rw [hd]
            rfl
        · rw [hlo] at q
          rw [hhi] at q'
          clear hlo hhi
          have t1 := decide_eq_false q
          have t2 := decide_eq_true q'
          go_enter Tryd.func83, Tryd.ntmps83
          go_wp2
          go_quiet (fail)
          go_wp2
          all_goals
            go_ret
            refine ⟨?_, by first | exact Fr.refl _ _ | exact ((Fr.refl _ _).alloc _) | exact ((Fr.refl _ _).alloc _).drewN _⟩
            have hd := HE.out
            repeat (first | rw [if_pos (by omega)] at hd | rw [if_neg (by omega)] at hd)
            rw [hd]
            rfl
        · rw [hlo] at q
          rw [hhi] at q'
          clear hlo hhi
          have t1 := decide_eq_false q
          have t2 := decide_eq_false q'
          go_enter Tryd.func83, Tryd.ntmps83
          go_wp2
          go_quiet (fail)
          go_wp2
          all_goals
            go_ret
            refine ⟨?_, by first | exact Fr.refl _ _ | exact ((Fr.refl _ _).alloc _) | exact ((Fr.refl _ _).alloc _).drewN _⟩
            have hd := HE.out
            repeat (first | rw [if_pos (by omega)] at hd | rw [if_neg (by omega)] at hd)
            rw [hd]
            rfl
      · clear hlo hhi
        go_enter Tryd.func83, Tryd.ntmps83
        go_wp2
        all_goals
          go_ret
          refine ⟨?_, by first | exact Fr.refl _ _ | exact ((Fr.refl _ _).alloc _) | exact ((Fr.refl _ _).alloc _).drewN _⟩
          have hd := HE.out
          repeat (first | rw [if_pos (by omega)] at hd | rw [if_neg (by omega)] at hd)
          rw [hd, ft3 (by omega) (by omega)]
          rfl
  · rcases HC with hc | hc | hc
    all_goals
      unfold fstB at hx
      repeat (first | rw [if_pos (by omega)] at hx | rw [if_neg (by omega)] at hx)
      have hlo : loB p0 = loB p0 := rfl
      conv at hlo => rhs; unfold loB
      repeat (first | rw [if_pos (by omega)] at hlo | rw [if_neg (by omega)] at hlo)
      have hhi : hiB p0 = hiB p0 := rfl
      conv at hhi => rhs; unfold hiB
      repeat (first | rw [if_pos (by omega)] at hhi | rw [if_neg (by omega)] at hhi)
      have hd := HD.out
      rw [hlo, hhi] at hd
      have HE := Lib.hid hd
      clear hd HD
      rcases (by omega : n = 1 ∨ n = 2 ∨ n = 3 ∨ 4 ≤ n) with rfl | rfl | rfl | hn
      · clear h1 h2
        go_enter Tryd.func83, Tryd.ntmps83
        go_wp2
        go_quiet (fail)
        go_wp2
        all_goals
          go_ret
          refine ⟨?_, by first | exact Fr.refl _ _ | exact ((Fr.refl _ _).alloc _) | exact ((Fr.refl _ _).alloc _).drewN _⟩
          have hd := HE.out
          repeat (first | rw [if_pos (by omega)] at hd | rw [if_neg (by omega)] at hd)
          rw [hd]
          rfl
      · have h1 := h1 (by omega)
        clear h2
        rcases (by omega : p1 < loB p0 ∨ ¬ p1 < loB p0 ∧ hiB p0 < p1 ∨ ¬ p1 < loB p0 ∧ ¬ hiB p0 < p1) with q | ⟨q, q'⟩ | ⟨q, q'⟩
        · rw [hlo] at q
          clear hlo hhi
          have t1 := decide_eq_true q
          go_enter Tryd.func83, Tryd.ntmps83
          go_wp2
          go_quiet (fail)
          go_wp2
          all_goals
            go_ret
            refine ⟨?_, by first | exact Fr.refl _ _ | exact ((Fr.refl _ _).alloc _) | exact ((Fr.refl _ _).alloc _).drewN _⟩
            have hd := HE.out
            repeat (first | rw [if_pos (by omega)] at hd | rw [if_neg (by omega)] at hd)
            rw [hd]
            rfl
        · rw [hlo] at q
          rw [hhi] at q'
          clear hlo hhi
          have t1 := decide_eq_false q
          have t2 := decide_eq_true q'
          go_enter Tryd.func83, Tryd.ntmps83
          go_wp2
          go_quiet (fail)
          go_wp2
          all_goals
            go_ret
            refine ⟨?_, by first | exact Fr.refl _ _ | exact ((Fr.refl _ _).alloc _) | exact ((Fr.refl _ _).alloc _).drewN _⟩
            have hd := HE.out
            repeat (first | rw [if_pos (by omega)] at hd | rw [if_neg (by omega)] at hd)
            rw [hd]
            rfl
        · rw [hlo] at q
          rw [hhi] at q'
          clear hlo hhi
          have t1 := decide_eq_false q
          have t2 := decide_eq_false q'
          go_enter Tryd.func83, Tryd.ntmps83
          go_wp2
          go_quiet (fail)
          go_wp2
          all_goals
            go_ret
            refine ⟨?_, by first | exact Fr.refl _ _ | exact ((Fr.refl _ _).alloc _) | exact ((Fr.refl _ _).alloc _).drewN _⟩
            have hd := HE.out
            repeat (first | rw [if_pos (by omega)] at hd | rw [if_neg (by omega)] at hd)
            rw [hd]
            rfl
      · have h1 := h1 (by omega)
        have h2 := h2 (by omega)
        rcases (by omega : p1 < loB p0 ∨ ¬ p1 < loB p0 ∧ hiB p0 < p1 ∨ ¬ p1 < loB p0 ∧ ¬ hiB p0 < p1) with q | ⟨q, q'⟩ | ⟨q, q'⟩
        · rw [hlo] at q
          clear hlo hhi
          have t1 := decide_eq_true q
          go_enter Tryd.func83, Tryd.ntmps83
          go_wp2
          go_quiet (fail)
          go_wp2
          all_goals
            go_ret
            refine ⟨?_, by first | exact Fr.refl _ _ | exact ((Fr.refl _ _).alloc _) | exact ((Fr.refl _ _).alloc _).drewN _⟩
            have hd := HE.out
            repeat (first | rw [if_pos (by omega)] at hd | rw [if_neg (by omega)] at hd)
            rw [hd]
            rfl
        · rw [hlo] at q
          rw [hhi] at q'
          clear hlo hhi
          have t1 := decide_eq_false q
          have t2 := decide_eq_true q'
          go_enter Tryd.func83, Tryd.ntmps83
          go_wp2
          go_quiet (fail)
          go_wp2
          all_goals
            go_ret
            refine ⟨?_, by first | exact Fr.refl _ _ | exact ((Fr.refl _ _).alloc _) | exact ((Fr.refl _ _).alloc _).drewN _⟩
            have hd := HE.out
            repeat (first | rw [if_pos (by omega)] at hd | rw [if_neg (by omega)] at hd)
            rw [hd]
            rfl
        · rw [hlo] at q
          rw [hhi] at q'
          clear hlo hhi
          have t1 := decide_eq_false q
          have t2 := decide_eq_false q'
          go_enter Tryd.func83, Tryd.ntmps83
          go_wp2
          go_quiet (fail)
          go_wp2
          all_goals
            go_ret
            refine ⟨?_, by first | exact Fr.refl _ _ | exact ((Fr.refl _ _).alloc _) | exact ((Fr.refl _ _).alloc _).drewN _⟩
            have hd := HE.out
            repeat (first | rw [if_pos (by omega)] at hd | rw [if_neg (by omega)] at hd)
            rw [hd]
            rfl
      · clear hlo hhi
        go_enter Tryd.func83, Tryd.ntmps83
        go_wp2
        all_goals
          go_ret
          refine ⟨?_, by first | exact Fr.refl _ _ | exact ((Fr.refl _ _).alloc _) | exact ((Fr.refl _ _).alloc _).drewN _⟩
          have hd := HE.out
          repeat (first | rw [if_pos (by omega)] at hd | rw [if_neg (by omega)] at hd)
          rw [hd, ft4 (by omega)]
          rfl

/-- FullRune, of whatever bytes that there are -/
theorem full_any (A : Option Addr) (n c : Nat) (l : List Int) (R : Nat → Prop) (w : World) (hT : Tabs w) (hl : Rd w R 1 A n (byts l)) (h0 : 1 ≤ n) (hnm : n ≤ 140737488351232) (hB : Byts l) :
    Calls Tryd.prog 83 #[.slice A n c] w (FullSays w (full l)) := by
  have hll : l.length = n := by have := hl.1; rw [byts_length] at this; omega
  have hcell : ∀ k, k < n → ∃ g o, A = some ⟨g, o, none⟩ ∧ g < w.heap.size ∧ w.cell? ⟨g, o + k, none⟩ = some (.int .u8 (l.getD k 0)) := by
    intro k hk
    obtain ⟨g, o, u, hA, lt, hu, hc⟩ := hl.at_ hk
    rw [byts_at (by omega)] at hu
    injection hu with hu
    subst hu
    exact ⟨g, o, hA, lt, hc⟩
  obtain ⟨g, o, rfl, lt, hc0⟩ := hcell 0 h0
  have hc : ∀ k, k < n → w.cell? ⟨g, o + k, none⟩ = some (.int .u8 (l.getD k 0)) := by
    intro k hk
    obtain ⟨g', o', hA, _, hc⟩ := hcell k hk
    injection hA with hA
    injection hA with e1 e2
    subst e1
    subst e2
    exact hc
  rw [Nat.add_zero] at hc0
  exact full_big g o n c _ _ _ _ w hT lt h0 hnm (hB 0) (hB 1) (hB 2) hc0 (fun h => hc 1 (by omega)) (fun h => hc 2 (by omega)) (by rw [← hll]; rfl)
end Go.Proofs.YtopaeikddlpecaaDoor
