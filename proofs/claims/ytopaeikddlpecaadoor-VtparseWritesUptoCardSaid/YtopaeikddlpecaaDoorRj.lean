/-
  Walks of the document's parser: inText, graphic, take. Conditions: bounds on lengths and numbers ('RInv').
-/
import Derived.Test.YtopaeikddlpecaaDoorRi
import Derived.Test.YtopaeikddlpecaaDoorRf
namespace Go.Proofs.YtopaeikddlpecaaDoor
open Go.RowKit

set_option maxHeartbeats 1600000 in
theorem rintext_any (g : Nat) (x : Int) (r : RS) (F : Nat → Prop) (w : World) (h : RepR w F g r) (ho : r.out.length ≤ 67108864) (hx : 0 ≤ x ∧ x ≤ 255) :
    Calls Tryd.prog 57 #[.pointer (some ⟨g, 0, none⟩), .int .u8 x] w (PostR w F g (r.inText x)) := by
  have HL0 := Lib.hid (LeftR.refl h)
  have c0 := HL0.out.cell0
  have f0 := HL0.out.free 0
  have c6 : w.cell? ⟨g, 6, none⟩ = some (.string r.text) := by obtain ⟨m, hm⟩ := h; exact hm.blk.cell 6
  have CP := Lib.hid (rput_any g x r F w h hx)
  have CT := Lib.hid (rtell_any g { act0 with kind := 5, text := r.text } none 0 0 NoB r F w h (Rd.nil _ _ _ _) (Nat.le_refl _) (fun _ _ h => h.elim) ho)
  have hst : r.inText x = r.inText x := rfl
  conv at hst => rhs; unfold RS.inText
  generalize r.inText x = rr at *
  clear h
  by_cases k1 : r.state = 11
  · rw [if_pos k1] at hst
    rw [k1] at c0
    by_cases k2 : x = 127
    · rw [if_pos k2] at hst
      have HST := Lib.hid hst
      subst k2
      clear hst k1 CP CT
      go_enter Tryd.func57, Tryd.ntmps57
      go_wp2
      refine bodyPost_ret (results_none rfl _ _ _) rfl ⟨rfl, ?_⟩
      rw [HST.out]
      exact HL0.out
    · rw [if_neg k2] at hst
      have HST := Lib.hid hst
      have t2 := bne_f k2
      clear hst k1 k2 CT
      go_enter Tryd.func57, Tryd.ntmps57
      go_wp2_with (go_at_call 72; refine CP.out.mono ?_; rintro e w1 ⟨rfl, hl⟩; have HL := Lib.hid hl; clear hl)
      refine bodyPost_ret (results_none rfl _ _ _) rfl ⟨rfl, ?_⟩
      rw [HST.out]
      exact HL.out
  · rw [if_neg k1] at hst
    have t1 := bne_f k1
    by_cases k2 : x = 7
    · rw [if_pos k2] at hst
      have HST := Lib.hid hst
      subst k2
      clear hst k1 CP
      go_enter Tryd.func57, Tryd.ntmps57
      go_wp2_with (go_at_call 46
                   refine CT.out.mono ?_
                   rintro e w1 ⟨rfl, hl⟩
                   have c01 := hl.cell0
                   have f01 := hl.free 0
                   have HL := Lib.hid hl
                   clear hl)
      refine bodyPost_ret (results_none rfl _ _ _) rfl ⟨rfl, ?_⟩
      rw [HST.out]
      exact HL.out.st 0
    · rw [if_neg k2] at hst
      have t2 := bne_f k2
      by_cases k3 : 32 ≤ x
      · rw [if_pos k3] at hst
        have HST := Lib.hid hst
        clear hst k1 k2 CT
        go_enter Tryd.func57, Tryd.ntmps57
        go_wp2_with (go_at_call 72; refine CP.out.mono ?_; rintro e w1 ⟨rfl, hl⟩; have HL := Lib.hid hl; clear hl)
        go_end0
        refine ⟨rfl, ?_⟩
        rw [HST.out]
        exact HL.out
      · rw [if_neg k3] at hst
        have HST := Lib.hid hst
        have k3' : x < 32 := by omega
        clear hst k1 k2 k3 CT CP
        go_enter Tryd.func57, Tryd.ntmps57
        go_wp2
        go_end0
        refine ⟨rfl, ?_⟩
        rw [HST.out]
        exact HL0.out

/-- what the walks ask of the document's parser; N bounds what grows -/
structure RInv (N : Nat) (r : RS) : Prop where
  st : 0 ≤ r.state ∧ r.state ≤ 13
  out : r.out.length + r.dec.length ≤ N
  dec : Byts r.dec
  par : r.state ≠ 0 → r.state ≠ 13 → r.params.length ≤ 64 ∧ 0 ≤ r.many ∧ r.many ≤ 17 ∧ (1 ≤ r.many → r.many ≤ 16 → (r.params.length : Int) = r.many) ∧ ∀ k, -1 ≤ r.params.getD k 0 ∧ r.params.getD k 0 ≤ 65535
theorem Sim.rinv {N : Nat} {s : PS} {r : RS} (h : Sim s r) (hi : PInv N s) : RInv N r := by
  refine ⟨by rw [← h.state]; exact hi.st, by rw [← h.out, ← h.dec]; exact hi.out, by rw [← h.dec]; exact hi.dec, fun h0 h13 => ?_⟩
  obtain ⟨a1, a2, a3, a4, a5, a6, a7⟩ := h.a (by rw [h.state]; exact h0) (by rw [h.state]; exact h13)
  have hm := hi.many
  rw [← a3]
  refine ⟨by have := hi.parL; omega, by omega, by omega, fun k1 k2 => ?_, hi.parR⟩
  have := hi.par (by omega) (by omega)
  omega

set_option maxHeartbeats 1600000 in
theorem rgraphic_any (g : Nat) (x : Int) (r : RS) (F : Nat → Prop) (w : World) (N : Nat) (h : RepR w F g r) (hi : RInv N r) (hN : N ≤ 67108863) (hx : 32 ≤ x ∧ x ≤ 126) (hs : r.state ≤ 10) :
    Calls Tryd.prog 59 #[.pointer (some ⟨g, 0, none⟩), .int .u8 x] w (PostR w F g (r.graphic x)) := by
  have HL0 := Lib.hid (LeftR.refl h)
  have c0 := HL0.out.cell0
  have f0 := HL0.out.free 0
  have c5 : w.cell? ⟨g, 5, none⟩ = some (.string r.inter) := by obtain ⟨m, hm⟩ := h; exact hm.blk.cell 5
  have ho : r.out.length ≤ 67108864 := by have := hi.out; omega
  have CP := Lib.hid (rtell_any g (aPrint x) none 0 0 NoB r F w h (Rd.nil _ _ _ _) (Nat.le_refl _) (fun _ _ h => h.elim) ho)
  have CB := Lib.hid (rbegins_any g x r F w h ho (by omega))
  have CG := Lib.hid (rgather_any g x r F w h (by omega))
  have CT := Lib.hid (rtell_any g { act0 with kind := 3, fin := x, inter := r.inter } none 0 0 NoB r F w h (Rd.nil _ _ _ _) (Nat.le_refl _) (fun _ _ h => h.elim) ho)
  have CS := Lib.hid (fun (h3 : 3 ≤ r.state) => by
    obtain ⟨p1, p2, p3, p4, p5⟩ := hi.par (by omega) (by omega)
    exact rseq_any g x r F w h ho hx ⟨h3, hs⟩ ⟨p2, p3⟩ p1 p4 p5)
  have hst : r.graphic x = r.graphic x := rfl
  conv at hst => rhs; unfold RS.graphic
  generalize r.graphic x = rr at *
  have hS := hi.st
  clear h hi
  rcases (by omega : r.state = 0 ∨ r.state = 1 ∨ r.state = 2 ∨ 3 ≤ r.state) with k | k | k | k
  · rw [if_pos k] at hst
    have HST := Lib.hid hst
    rw [k] at c0
    clear hst k hs hS CB CG CT CS
    go_enter Tryd.func59, Tryd.ntmps59
    go_wp2_with (go_at_call 46; refine CP.out.mono ?_; rintro e w1 ⟨rfl, hl⟩; have HL := Lib.hid hl; clear hl)
    go_end0
    refine ⟨rfl, ?_⟩
    rw [HST.out]
    exact HL.out
  · rw [if_neg (by omega), if_pos k] at hst
    have HST := Lib.hid hst
    rw [k] at c0
    clear hst k hs hS CP CG CT CS
    go_enter Tryd.func59, Tryd.ntmps59
    go_wp2_with (go_at_call 73; refine CB.out.mono ?_; rintro e w1 ⟨rfl, hl⟩; have HL := Lib.hid hl; clear hl)
    go_end0
    refine ⟨rfl, ?_⟩
    rw [HST.out]
    exact HL.out
  · rw [if_neg (by omega), if_neg (by omega), if_pos k] at hst
    rw [k] at c0
    by_cases k2 : x < 48
    · rw [if_pos k2] at hst
      have HST := Lib.hid hst
      clear hst k hs hS CP CB CT CS
      go_enter Tryd.func59, Tryd.ntmps59
      go_wp2_with (go_at_call 74; refine CG.out.mono ?_; rintro e w1 ⟨rfl, hl⟩; have HL := Lib.hid hl; clear hl)
      refine bodyPost_ret (results_none rfl _ _ _) rfl ⟨rfl, ?_⟩
      rw [HST.out]
      exact HL.out
    · rw [if_neg k2] at hst
      have HST := Lib.hid hst
      have k2' : 48 ≤ x := by omega
      clear hst k hs hS CP CB CG CS k2
      go_enter Tryd.func59, Tryd.ntmps59
      go_wp2_with (go_at_call 46
                   refine CT.out.mono ?_
                   rintro e w1 ⟨rfl, hl⟩
                   have c01 := hl.cell0
                   have f01 := hl.free 0
                   have HL := Lib.hid hl
                   clear hl)
      go_end0
      refine ⟨rfl, ?_⟩
      rw [HST.out]
      exact HL.out.st 0
  · rw [if_neg (by omega), if_neg (by omega), if_neg (by omega)] at hst
    have HST := Lib.hid hst
    have CSS := Lib.hid (CS.out k)
    have t0 : (r.state == 0) = false := bne_f (by omega)
    have t1 : (r.state == 1) = false := bne_f (by omega)
    have t2 : (r.state == 2) = false := bne_f (by omega)
    clear hst k hs hS CP CB CG CT CS
    go_enter Tryd.func59, Tryd.ntmps59
    go_wp2_with (go_at_call 75; refine CSS.out.mono ?_; rintro e w1 ⟨rfl, hl⟩; have HL := Lib.hid hl; clear hl)
    go_end0
    refine ⟨rfl, ?_⟩
    rw [HST.out]
    exact HL.out
end Go.Proofs.YtopaeikddlpecaaDoor
