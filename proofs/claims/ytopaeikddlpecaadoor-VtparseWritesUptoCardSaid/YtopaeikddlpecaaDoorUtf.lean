/-
  unicode/utf8: DecodeRune, FullRune as plain functions of the bytes, walked. Conditions: the two tables hold what their text lays ('Tabs'); bytes are bytes.
-/
import Derived.Test.YtopaeikddlpecaaDoorBase
import Derived.ProofKit
import Derived.OpenShut
import Derived.WalkSpells
import Derived.Lib.Hide
import Derived.OwnWalk
import Derived.LoopTactic
import Derived.Outline
import Derived.Deep.QuietTactic
import Derived.BigQuiet
namespace Go.Proofs.YtopaeikddlpecaaDoor
open Go.RowKit

def fstB (p : Int) : Int :=
  if p < 128 then 240 else if p < 194 then 241 else if p < 224 then 2 else if p < 225 then 19 else if p < 237 then 3 else if p < 238 then 35 else if p < 240 then 3 else if p < 241 then 52 else if p < 244 then 4 else if p < 245 then 68 else 241

structure Tabs (w : World) : Prop where
  fst : ∀ p : Int, 0 ≤ p → p ≤ 255 → w.cell? ⟨0, p.toNat, none⟩ = some (.int .u8 (fstB p))
  a0 : w.cell? ⟨1, 0, none⟩ = some (.int .u8 128)
  a1 : w.cell? ⟨1, 1, none⟩ = some (.int .u8 191)
  a2 : w.cell? ⟨1, 2, none⟩ = some (.int .u8 160)
  a3 : w.cell? ⟨1, 3, none⟩ = some (.int .u8 191)
  a4 : w.cell? ⟨1, 4, none⟩ = some (.int .u8 128)
  a5 : w.cell? ⟨1, 5, none⟩ = some (.int .u8 159)
  a6 : w.cell? ⟨1, 6, none⟩ = some (.int .u8 144)
  a7 : w.cell? ⟨1, 7, none⟩ = some (.int .u8 191)
  a8 : w.cell? ⟨1, 8, none⟩ = some (.int .u8 128)
  a9 : w.cell? ⟨1, 9, none⟩ = some (.int .u8 143)

/-- the tables' blocks -/
def Tab (k : Nat) : Prop := k = 0 ∨ k = 1
theorem Tabs.fr {w w' : World} {G : Nat → Prop} (h : Tabs w) (hf : Fr G w w') (hG : ∀ k, Tab k → ¬ G k) : Tabs w' :=
  ⟨fun p h0 h1 => hf.cell_some (h.fst p h0 h1) (hG _ (.inl rfl)), hf.cell_some h.a0 (hG _ (.inr rfl)), hf.cell_some h.a1 (hG _ (.inr rfl)), hf.cell_some h.a2 (hG _ (.inr rfl)), hf.cell_some h.a3 (hG _ (.inr rfl)), hf.cell_some h.a4 (hG _ (.inr rfl)),
    hf.cell_some h.a5 (hG _ (.inr rfl)), hf.cell_some h.a6 (hG _ (.inr rfl)), hf.cell_some h.a7 (hG _ (.inr rfl)), hf.cell_some h.a8 (hG _ (.inr rfl)), hf.cell_some h.a9 (hG _ (.inr rfl))⟩
theorem Tabs.lt {w : World} (h : Tabs w) : ∀ k, Tab k → k < w.heap.size := by
  rintro k (rfl | rfl)
  · exact World.block_lt_of_cell? w _ (h.fst 0 (by omega) (by omega))
  · exact World.block_lt_of_cell? w _ h.a0

def loB (p : Int) : Int := if p = 224 then 160 else if p = 240 then 144 else 128
def hiB (p : Int) : Int := if p = 237 then 159 else if p = 244 then 143 else 191
def val2 (p b : Int) : Int := p % 32 * 64 + b % 64
def val3 (p b d : Int) : Int := p % 16 * 4096 + b % 64 * 64 + d % 64
def val4 (p b d f : Int) : Int := p % 8 * 262144 + b % 64 * 4096 + d % 64 * 64 + f % 64
theorem bad_rune (p : Int) : bits .or .i32 (bits .andNot .i32 p (wrap32 517543559168 / 2147483648)) (bits .and .i32 65533 (wrap32 517543559168 / 2147483648)) = 65533 := by
  have h : (wrap32 517543559168 / 2147483648 : Int) = -1 := by kernel_rfl
  rw [h]
  have h1 : bits .andNot .i32 p (-1) = 0 := by
    show IntKind.i32.wrap ((BitVec.ofInt 32 p &&& ~~~ (BitVec.ofInt 32 (-1))).toNat : Int) = 0
    have h2 : (BitVec.ofInt 32 (-1)) = BitVec.allOnes 32 := by decide
    rw [h2]
    simp
    decide
  rw [h1]
  decide

def dec (l : List Int) : Int × Int :=
  if l.length < 1 then (65533, 0)
  else if l.getD 0 0 < 128 then (l.getD 0 0, 1)
  else if l.getD 0 0 < 194 then (65533, 1)
  else if 244 < l.getD 0 0 then (65533, 1)
  else if l.length < 2 then (65533, 1)
  else if l.getD 1 0 < loB (l.getD 0 0) then (65533, 1)
  else if hiB (l.getD 0 0) < l.getD 1 0 then (65533, 1)
  else if l.getD 0 0 < 224 then (val2 (l.getD 0 0) (l.getD 1 0), 2)
  else if l.length < 3 then (65533, 1)
  else if l.getD 2 0 < 128 then (65533, 1)
  else if 191 < l.getD 2 0 then (65533, 1)
  else if l.getD 0 0 < 240 then (val3 (l.getD 0 0) (l.getD 1 0) (l.getD 2 0), 3)
  else if l.length < 4 then (65533, 1)
  else if l.getD 3 0 < 128 then (65533, 1)
  else if 191 < l.getD 3 0 then (65533, 1)
  else (val4 (l.getD 0 0) (l.getD 1 0) (l.getD 2 0) (l.getD 3 0), 4)

theorem sh3 {n : Nat} {p0 p1 lo hi : Int} {b X Y : Int × Int} (h : n < 3) (h0 : 224 ≤ p0) :
    (if n < 2 then b else if p1 < lo then b else if hi < p1 then b else if p0 < 224 then X else if n < 3 then b else Y) = b := by
  rw [if_neg (c := p0 < 224) (by omega), if_pos h]
  simp
theorem sh4 {n : Nat} {p0 p1 p2 lo hi : Int} {b X Y Z : Int × Int} (h : n < 4) (h0 : 240 ≤ p0) :
    (if n < 2 then b else if p1 < lo then b else if hi < p1 then b else if p0 < 224 then X else if n < 3 then b else if p2 < 128 then b else if 191 < p2 then b else if p0 < 240 then Y else if n < 4 then b else Z) = b := by
  rw [if_neg (c := p0 < 224) (by omega), if_neg (c := p0 < 240) (by omega), if_pos h]
  simp

def Byts (l : List Int) : Prop := ∀ k, 0 ≤ l.getD k 0 ∧ l.getD k 0 ≤ 255

set_option maxHeartbeats 2000000 in
theorem slow_big (g o n c : Nat) (l : List Int) (w : World) (hT : Tabs w) (lt : g < w.heap.size) (hn : l.length = n) (h1n : 1 ≤ n) (hnm : n ≤ 140737488351232) (hB : Byts l)
    (h0 : w.cell? ⟨g, o, none⟩ = some (.int .u8 (l.getD 0 0))) (h1 : 2 ≤ (n : Int) → w.cell? ⟨g, o + 1, none⟩ = some (.int .u8 (l.getD 1 0)))
    (h2 : 3 ≤ (n : Int) → w.cell? ⟨g, o + 2, none⟩ = some (.int .u8 (l.getD 2 0))) (h3 : 4 ≤ (n : Int) → w.cell? ⟨g, o + 3, none⟩ = some (.int .u8 (l.getD 3 0))) (hp : 128 ≤ l.getD 0 0) :
    Calls Tryd.prog 80 #[.slice (some ⟨g, o, none⟩) n c] w fun e w' => e = .returned (.tuple #[.int .i32 (dec l).1, .int .i64 (dec l).2]) ∧ Fr NoB w w' := by
  have h13 : 3 ≤ (n : Int) → w.cell? ⟨g, o + 1, none⟩ = some (.int .u8 (l.getD 1 0)) := fun h => h1 (by omega)
  have h14 : 4 ≤ (n : Int) → w.cell? ⟨g, o + 1, none⟩ = some (.int .u8 (l.getD 1 0)) := fun h => h1 (by omega)
  have h24 : 4 ≤ (n : Int) → w.cell? ⟨g, o + 2, none⟩ = some (.int .u8 (l.getD 2 0)) := fun h => h2 (by omega)
  have b0 := hB 0
  have b1 := hB 1
  have b2 := hB 2
  have b3 := hB 3
  have hx := hT.fst _ b0.1 b0.2
  obtain ⟨-, a0, a1, a2, a3, a4, a5, a6, a7, a8, a9⟩ := hT
  have hd : dec l = dec l := rfl
  conv at hd => rhs; unfold dec
  rw [hn] at hd
  clear hn hB
  generalize l.getD 0 0 = p0 at *
  generalize l.getD 1 0 = p1 at *
  generalize l.getD 2 0 = p2 at *
  generalize l.getD 3 0 = p3 at *
  generalize dec l = d at *
  have HD := Lib.hid hd
  clear hd
  rcases (by omega : p0 < 194 ∨ 244 < p0 ∨ (194 ≤ p0 ∧ p0 < 224) ∨ (224 ≤ p0 ∧ p0 ≤ 224) ∨ (225 ≤ p0 ∧ p0 ≤ 236) ∨ (238 ≤ p0 ∧ p0 ≤ 239) ∨ (237 ≤ p0 ∧ p0 ≤ 237) ∨ (240 ≤ p0 ∧ p0 ≤ 240) ∨ (241 ≤ p0 ∧ p0 ≤ 243) ∨ (244 ≤ p0 ∧ p0 ≤ 244)) with hc | hc | hc | hc | hc | hc | hc | hc | hc | hc
  all_goals
    unfold fstB at hx
    repeat (first | rw [if_pos (by omega)] at hx | rw [if_neg (by omega)] at hx)
    have hlo : loB p0 = loB p0 := rfl
    conv at hlo => rhs; unfold loB
    repeat (first | rw [if_pos (by omega)] at hlo | rw [if_neg (by omega)] at hlo)
    have hhi : hiB p0 = hiB p0 := rfl
    conv at hhi => rhs; unfold hiB
    repeat (first | rw [if_pos (by omega)] at hhi | rw [if_neg (by omega)] at hhi)
    have hd := HD.out
    rw [hlo, hhi] at hd
    have HE := Lib.hid hd
    clear hlo hhi hd HD
    go_enter Tryd.func80, Tryd.ntmps80
    go_wp2
    all_goals
      go_ret2
      refine ⟨?_, by repeat (first | exact Fr.refl _ _ | apply Fr.alloc)⟩
      have hd := HE.out
      repeat (first | rw [if_pos (by omega)] at hd | rw [if_neg (by omega)] at hd)
      first
        | (rw [hd]; rfl)
        | (rw [hd]; refine congrArg Ending.returned (congrArg Value.tuple ?_); exact congrArg (fun x => #[Value.int .i32 x, Value.int .i64 1]) (bad_rune p0))
        | (rw [hd, sh3 (by omega) (by omega)]; rfl)
        | (rw [hd, sh4 (by omega) (by omega)]; rfl)

/-- DecodeRune, of whatever bytes -/
theorem decode_any (A : Option Addr) (n c : Nat) (l : List Int) (R : Nat → Prop) (w : World) (hT : Tabs w) (hl : Rd w R 1 A n (byts l)) (hnm : n ≤ 140737488351232) (hB : Byts l) :
    Calls Tryd.prog 63 #[.slice A n c] w fun e w' => e = .returned (.tuple #[.int .i32 (dec l).1, .int .i64 (dec l).2]) ∧ Fr NoB w w' := by
  have hll : l.length = n := by have := hl.1; rw [byts_length] at this; omega
  rcases Nat.eq_zero_or_pos n with h0 | h0
  · have hd : dec l = (65533, 0) := by unfold dec; rw [if_pos (by omega)]
    rw [hd]
    subst h0
    clear hl hT hd hll
    go_enter Tryd.func63, Tryd.ntmps63
    go_wp2
    apply wp_loop_once
    go_wp2
    go_ret2
    exact ⟨rfl, Fr.refl _ _⟩
  · have hcell : ∀ k, k < n → ∃ g o, A = some ⟨g, o, none⟩ ∧ g < w.heap.size ∧ w.cell? ⟨g, o + k, none⟩ = some (.int .u8 (l.getD k 0)) := by
      intro k hk
      obtain ⟨g, o, u, hA, lt, hu, hc⟩ := hl.at_ hk
      rw [byts_at (by omega)] at hu
      injection hu with hu
      subst hu
      exact ⟨g, o, hA, lt, hc⟩
    obtain ⟨g, o, rfl, lt, hc0⟩ := hcell 0 h0
    have hc : ∀ k, k < n → w.cell? ⟨g, o + k, none⟩ = some (.int .u8 (l.getD k 0)) := by
      intro k hk
      obtain ⟨g', o', hA, _, hc⟩ := hcell k hk
      injection hA with hA
      injection hA with e1 e2
      subst e1
      subst e2
      exact hc
    rw [Nat.add_zero] at hc0
    by_cases hp : l.getD 0 0 < 128
    · have hd : dec l = (l.getD 0 0, 1) := by unfold dec; rw [if_neg (by omega), if_pos hp]
      rw [hd]
      have b0 := hB 0
      clear hl hT hd hll hcell hc hB
      generalize l.getD 0 0 = p0 at *
      go_enter Tryd.func63, Tryd.ntmps63
      go_wp2
      apply wp_loop_once
      go_wp2
      go_ret2
      exact ⟨rfl, Fr.refl _ _⟩
    · have S := slow_big g o n c l w hT lt hll h0 hnm hB hc0 (fun h => hc 1 (by omega)) (fun h => hc 2 (by omega)) (fun h => hc 3 (by omega)) (by omega)
      have b0 := hB 0
      clear hl hT hll hcell hc hB
      generalize dec l = d at *
      generalize l.getD 0 0 = p0 at *
      have HS := Lib.hid S
      clear S
      go_enter Tryd.func63, Tryd.ntmps63
      go_wp2
      apply wp_loop_once
      go_wp2_with (go_at_call 80; refine HS.out.mono ?_; rintro e w' ⟨rfl, hf⟩)
      go_ret2
      exact ⟨rfl, hf⟩
end Go.Proofs.YtopaeikddlpecaaDoor
