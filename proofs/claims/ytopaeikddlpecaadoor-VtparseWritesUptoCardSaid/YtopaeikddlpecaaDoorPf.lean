/-
  Walks: vtparse.Parser's counts, sequence. Conditions: bounds on lengths and numbers ('PInv').
-/
import Derived.Test.YtopaeikddlpecaaDoorPe
namespace Go.Proofs.YtopaeikddlpecaaDoor
open Go.RowKit

/-- what the walks ask of a parser's numbers; N bounds what grows -/
structure PInv (N : Nat) (s : PS) : Prop where
  st : 0 ≤ s.state ∧ s.state ≤ 13
  many : 0 ≤ s.many ∧ s.many ≤ N + 1
  par : s.many ≤ 16 → 1 ≤ s.many → (s.a.params.length : Int) = s.many
  parL : s.a.params.length ≤ 16
  parR : ∀ k, -1 ≤ s.a.params.getD k 0 ∧ s.a.params.getD k 0 ≤ 65535
  out : s.out.length + s.dec.length ≤ N
  dec : Byts s.dec

theorem par0_facts {N : Nat} {s : PS} (h : PInv N s) : s.par0.a.params.length ≤ 16 ∧ (s.par0.many ≤ 16 → (s.par0.a.params.length : Int) = s.par0.many) ∧ ∀ k, -1 ≤ s.par0.a.params.getD k 0 ∧ s.par0.a.params.getD k 0 ≤ 65535 := by
  have hm := h.many
  unfold PS.par0
  split
  · refine ⟨by simp, fun _ => rfl, fun k => ?_⟩
    cases k with
    | zero => simp
    | succ k => simp
  · exact ⟨h.parL, fun h1 => h.par h1 (by omega), h.parR⟩

def PS.counts (s : PS) (b first at_ : Int) : PS :=
  if at_ = 0 ∧ 60 ≤ b then { s with a := { s.a with priv := b }, state := first + 1 } else if (at_ = 0 ∨ at_ = 1) ∧ (b ≤ 57 ∨ b = 59) then { s.param b with state := first + 1 } else { s with state := first + 3 }

set_option maxHeartbeats 1600000 in
theorem counts_any [Inhabited AvoidSet] (g : Nat) (b first at_ : Int) (s : PS) (F : Nat → Prop) (w : World) (N : Nat) (h : RepP w F g s) (hi : PInv N s) (hN : N ≤ 67108863) (hb : 48 ≤ b ∧ b ≤ 63) (hf : 0 ≤ first ∧ first ≤ 7) (ha : 0 ≤ at_ ∧ at_ ≤ 2) :
    Calls Tryd.prog 71 #[.pointer (some ⟨g, 0, none⟩), .int .u8 b, .int .i64 first, .int .i64 at_] w (PostP w F g (s.counts b first at_)) := by
  have HH := Lib.hid h
  have c1 : w.cell? ⟨g, 1, none⟩ = some (.int .i64 s.state) := (LeftP.refl h).cell1
  have f1 := (LeftP.refl h).free1 1
  have c6 : w.cell? ⟨g, 6, none⟩ = some (.int .u8 s.a.priv) := by obtain ⟨m, hm⟩ := h; exact hm.blk.cell 6
  have f6 := (LeftP.refl h).free1 6
  have hp0 := par0_facts hi
  have CP := Lib.hid (fun hq => param_any g b s F w h hi.many.1 (by have := hi.many.2; omega) (by have := hp0.1; omega) hp0.2.1 hq hp0.2.2)
  clear h hi hp0
  have hst : s.counts b first at_ = s.counts b first at_ := rfl
  conv at hst => rhs; unfold PS.counts
  generalize s.counts b first at_ = r at *
  have HST := Lib.hid hst
  clear hst
  by_cases k1 : at_ = 0 ∧ 60 ≤ b
  · have hr := HST.out
    rw [if_pos k1] at hr
    rw [hr]
    obtain ⟨rfl, k2⟩ := k1
    clear hr CP
    go_enter Tryd.func71, Tryd.ntmps71
    go_wp2
    refine bodyPost_ret (results_none rfl _ _ _) rfl ⟨rfl, ?_⟩
    obtain ⟨m, hm⟩ := HH.out
    exact LeftP.trans (F1 := F) ((Fr.refl F w).setCell (p := ⟨g, 6, none⟩) (fun _ => hm.own) _) (fun _ h _ => h) (LeftP.put1 (hm.put { s with a := { s.a with priv := b } } 6 (.int .u8 b) rfl rfl rfl rfl) { s with a := { s.a with priv := b }, state := first + 1 } 1 (.int .i64 (first + 1)) rfl rfl rfl rfl)
  · by_cases k2 : (at_ = 0 ∨ at_ = 1) ∧ (b ≤ 57 ∨ b = 59)
    · have hr := HST.out
      rw [if_neg k1, if_pos k2] at hr
      rw [hr]
      have hq : b = 59 ∨ 48 ≤ b ∧ b ≤ 57 := by omega
      have CQ := Lib.hid (CP.out hq)
      obtain ⟨k3, k4⟩ := k2
      clear hr CP
      rcases k4 with k4 | k4
      · have t1 : b < 60 := by omega
        clear k1 hq
        rcases k3 with k3 | k3
        all_goals
          subst k3
          go_enter Tryd.func71, Tryd.ntmps71
          go_wp2_with (go_at_call 84; refine CQ.out.mono ?_; rintro e w1 ⟨rfl, hl1⟩; have d1 := hl1.cell1; have d2 := hl1.free1 1; have HL1 := Lib.hid hl1; clear hl1)
          refine bodyPost_ret (results_none rfl _ _ _) rfl ⟨rfl, ?_⟩
          exact HL1.out.st _
      · subst k4
        clear k1 hq
        rcases k3 with k3 | k3
        all_goals
          subst k3
          go_enter Tryd.func71, Tryd.ntmps71
          go_wp2_with (go_at_call 84; refine CQ.out.mono ?_; rintro e w1 ⟨rfl, hl1⟩; have d1 := hl1.cell1; have d2 := hl1.free1 1; have HL1 := Lib.hid hl1; clear hl1)
          refine bodyPost_ret (results_none rfl _ _ _) rfl ⟨rfl, ?_⟩
          exact HL1.out.st _
    · have hr := HST.out
      rw [if_neg k1, if_neg k2] at hr
      rw [hr]
      clear hr CP
      rcases (by omega : at_ = 2 ∨ (at_ = 0 ∨ at_ = 1) ∧ (b = 58 ∨ at_ = 1 ∧ 60 ≤ b)) with k3 | ⟨k3, k4⟩
      · subst k3
        clear k1 k2
        go_enter Tryd.func71, Tryd.ntmps71
        go_wp2
        go_end0
        exact ⟨rfl, (LeftP.refl HH.out).st _⟩
      · rcases k4 with k4 | ⟨k4, k5⟩
        · subst k4
          clear k1 k2
          rcases k3 with k3 | k3
          all_goals
            subst k3
            go_enter Tryd.func71, Tryd.ntmps71
            go_wp2
            go_end0
            exact ⟨rfl, (LeftP.refl HH.out).st _⟩
        · subst k4
          have t1 : 57 < b := by omega
          have t2 := bne_f (show b ≠ 59 by omega)
          clear k1 k2 k3
          go_enter Tryd.func71, Tryd.ntmps71
          go_wp2
          go_end0
          exact ⟨rfl, (LeftP.refl HH.out).st _⟩

/-! ### sequence -/
def PS.first (s : PS) : Int := if 7 ≤ s.state then 7 else 3
def PS.seq (s : PS) (b : Int) : PS :=
  if b = 127 then s else if 64 ≤ b ∧ s.state - s.first = 3 then { s with state := if s.first = 7 then 13 else 0 } else if 64 ≤ b ∧ s.first = 3 then s.ends b 4
  else if 64 ≤ b then { s with a := { s.a with fin := b }, state := 11 } else if s.state - s.first = 3 then s else if b < 48 then { s.inter b with state := s.first + 2 } else s.counts b s.first (s.state - s.first)

set_option maxHeartbeats 3200000 in
theorem seq_any [Inhabited AvoidSet] (g : Nat) (b : Int) (s : PS) (F : Nat → Prop) (w : World) (N : Nat) (h : RepP w F g s) (hi : PInv N s) (hN : N ≤ 67108863) (hb : 32 ≤ b ∧ b ≤ 127) (hs : 3 ≤ s.state ∧ s.state ≤ 10) :
    Calls Tryd.prog 53 #[.pointer (some ⟨g, 0, none⟩), .int .u8 b] w (PostP w F g (s.seq b)) := by
  have HH := Lib.hid h
  have c1 : w.cell? ⟨g, 1, none⟩ = some (.int .i64 s.state) := (LeftP.refl h).cell1
  have f1 := (LeftP.refl h).free1 1
  have c5 : w.cell? ⟨g, 5, none⟩ = some (.int .u8 s.a.fin) := by obtain ⟨m, hm⟩ := h; exact hm.blk.cell 5
  have f5 := (LeftP.refl h).free1 5
  have CI := Lib.hid (inter_any g b s F w h (by omega))
  have CE := Lib.hid (ends_any g b 4 s F w h (by have := hi.out; omega) (by have := hi.parL; omega))
  have CC := Lib.hid (fun hq first at_ hf ha => counts_any g b first at_ s F w N h hi hN hq hf ha)
  clear h hi
  have hst : s.seq b = s.seq b := rfl
  conv at hst => rhs; unfold PS.seq
  generalize s.seq b = r at *
  have hf2 : s.state < 7 ∧ s.first = 3 ∨ 7 ≤ s.state ∧ s.first = 7 := by unfold PS.first; split <;> omega
  rcases hf2 with ⟨h7, hf2⟩ | ⟨h7, hf2⟩
  · rw [hf2] at hst
    have HST := Lib.hid hst
    clear hst hf2
    rcases (by omega : b = 127 ∨ (b ≠ 127 ∧ 64 ≤ b ∧ s.state = 6) ∨ (b ≠ 127 ∧ 64 ≤ b ∧ s.state ≠ 6) ∨ (b < 64 ∧ s.state = 6) ∨ (b < 48 ∧ s.state ≠ 6) ∨ (b < 64 ∧ 48 ≤ b ∧ s.state ≠ 6)) with e1 | ⟨e1, e2, e3⟩ | ⟨e1, e2, e3⟩ | ⟨e1, e3⟩ | ⟨e1, e3⟩ | ⟨e1, e2, e3⟩
    · have hr := HST.out
      rw [if_pos e1] at hr
      rw [hr]
      have t1 := beq_t e1
      clear hr e1 CI CE CC
      go_enter Tryd.func53, Tryd.ntmps53
      go_wp2
      go_end0
      exact ⟨rfl, LeftP.refl HH.out⟩
    · have hr := HST.out
      rw [if_neg e1, if_pos ⟨e2, by omega⟩] at hr
      rw [hr]
      have t1 := bne_f e1
      have t2 : (s.state - 3 == 3) = true := beq_t (by omega)
      clear hr e1 CI CE CC e3
      go_enter Tryd.func53, Tryd.ntmps53
      go_wp2
      go_end0
      exact ⟨rfl, (LeftP.refl HH.out).st 0⟩
    · have hr := HST.out
      rw [if_neg e1, if_neg (by omega)] at hr
      have t1 := bne_f e1
      have t2 : (s.state - 3 == 3) = false := bne_f (by omega)
      rw [if_pos ⟨e2, rfl⟩] at hr
      rw [hr]
      clear hr e1 CI CC e3
      go_enter Tryd.func53, Tryd.ntmps53
      go_wp2_with (go_at_call 70; refine CE.out.mono ?_; rintro e w1 ⟨rfl, hl1⟩; have HL1 := Lib.hid hl1; clear hl1)
      go_end0
      exact ⟨rfl, HL1.out⟩
    · have hr := HST.out
      rw [if_neg (by omega), if_neg (by omega), if_neg (by omega), if_neg (by omega), if_pos (by omega)] at hr
      rw [hr]
      have t1 := bne_f (show b ≠ 127 by omega)
      have t2 : (s.state - 3 == 3) = true := beq_t (by omega)
      clear hr CI CE CC e3
      go_enter Tryd.func53, Tryd.ntmps53
      go_wp2
      go_end0
      exact ⟨rfl, LeftP.refl HH.out⟩
    · have hr := HST.out
      rw [if_neg (by omega), if_neg (by omega), if_neg (by omega), if_neg (by omega), if_neg (by omega), if_pos e1] at hr
      rw [hr]
      have t1 := bne_f (show b ≠ 127 by omega)
      have t2 : (s.state - 3 == 3) = false := bne_f (by omega)
      have t3 : b < 64 := by omega
      clear hr CE CC e3
      go_enter Tryd.func53, Tryd.ntmps53
      go_wp2_with (go_at_call 69; refine CI.out.mono ?_; rintro e w1 ⟨rfl, hl1⟩; have d1 := hl1.cell1; have d2 := hl1.free1 1; have HL1 := Lib.hid hl1; clear hl1)
      go_end0
      exact ⟨rfl, HL1.out.st _⟩
    · have hr := HST.out
      rw [if_neg (by omega), if_neg (by omega), if_neg (by omega), if_neg (by omega), if_neg (by omega), if_neg (by omega)] at hr
      rw [hr]
      have t1 := bne_f (show b ≠ 127 by omega)
      have t2 : (s.state - 3 == 3) = false := bne_f (by omega)
      have CQ := Lib.hid (CC.out (by omega) 3 (s.state - 3) (by omega) (by omega))
      clear hr CE CC CI e3
      go_enter Tryd.func53, Tryd.ntmps53
      go_wp2_with (go_at_call 71; refine CQ.out.mono ?_; rintro e w1 ⟨rfl, hl1⟩; have HL1 := Lib.hid hl1; clear hl1)
      go_end0
      exact ⟨rfl, HL1.out⟩
  · rw [hf2] at hst
    have HST := Lib.hid hst
    clear hst hf2
    rcases (by omega : b = 127 ∨ (b ≠ 127 ∧ 64 ≤ b ∧ s.state = 10) ∨ (b ≠ 127 ∧ 64 ≤ b ∧ s.state ≠ 10) ∨ (b < 64 ∧ s.state = 10) ∨ (b < 48 ∧ s.state ≠ 10) ∨ (b < 64 ∧ 48 ≤ b ∧ s.state ≠ 10)) with e1 | ⟨e1, e2, e3⟩ | ⟨e1, e2, e3⟩ | ⟨e1, e3⟩ | ⟨e1, e3⟩ | ⟨e1, e2, e3⟩
    · have hr := HST.out
      rw [if_pos e1] at hr
      rw [hr]
      have t1 := beq_t e1
      clear hr e1 CI CE CC
      go_enter Tryd.func53, Tryd.ntmps53
      go_wp2
      go_end0
      exact ⟨rfl, LeftP.refl HH.out⟩
    · have hr := HST.out
      rw [if_neg e1, if_pos ⟨e2, by omega⟩] at hr
      rw [hr]
      have t1 := bne_f e1
      have t2 : (s.state - 7 == 3) = true := beq_t (by omega)
      clear hr e1 CI CE CC e3
      go_enter Tryd.func53, Tryd.ntmps53
      go_wp2
      go_end0
      exact ⟨rfl, ((LeftP.refl HH.out).st 0).st 13⟩
    · have hr := HST.out
      rw [if_neg e1, if_neg (by omega)] at hr
      have t1 := bne_f e1
      have t2 : (s.state - 7 == 3) = false := bne_f (by omega)
      rw [if_neg (by omega), if_pos e2] at hr
      rw [hr]
      clear hr e1 CI CC CE e3
      go_enter Tryd.func53, Tryd.ntmps53
      go_wp2
      go_end0
      obtain ⟨m, hm⟩ := HH.out
      exact ⟨rfl, LeftP.trans (F1 := F) ((Fr.refl F w).setCell (p := ⟨g, 5, none⟩) (fun _ => hm.own) _) (fun _ h _ => h) (LeftP.put1 (hm.put { s with a := { s.a with fin := b } } 5 (.int .u8 b) rfl rfl rfl rfl) { s with a := { s.a with fin := b }, state := 11 } 1 (.int .i64 11) rfl rfl rfl rfl)⟩
    · have hr := HST.out
      rw [if_neg (by omega), if_neg (by omega), if_neg (by omega), if_neg (by omega), if_pos (by omega)] at hr
      rw [hr]
      have t1 := bne_f (show b ≠ 127 by omega)
      have t2 : (s.state - 7 == 3) = true := beq_t (by omega)
      clear hr CI CE CC e3
      go_enter Tryd.func53, Tryd.ntmps53
      go_wp2
      go_end0
      exact ⟨rfl, LeftP.refl HH.out⟩
    · have hr := HST.out
      rw [if_neg (by omega), if_neg (by omega), if_neg (by omega), if_neg (by omega), if_neg (by omega), if_pos e1] at hr
      rw [hr]
      have t1 := bne_f (show b ≠ 127 by omega)
      have t2 : (s.state - 7 == 3) = false := bne_f (by omega)
      have t3 : b < 64 := by omega
      clear hr CE CC e3
      go_enter Tryd.func53, Tryd.ntmps53
      go_wp2_with (go_at_call 69; refine CI.out.mono ?_; rintro e w1 ⟨rfl, hl1⟩; have d1 := hl1.cell1; have d2 := hl1.free1 1; have HL1 := Lib.hid hl1; clear hl1)
      go_end0
      exact ⟨rfl, HL1.out.st _⟩
    · have hr := HST.out
      rw [if_neg (by omega), if_neg (by omega), if_neg (by omega), if_neg (by omega), if_neg (by omega), if_neg (by omega)] at hr
      rw [hr]
      have t1 := bne_f (show b ≠ 127 by omega)
      have t2 : (s.state - 7 == 3) = false := bne_f (by omega)
      have CQ := Lib.hid (CC.out (by omega) 7 (s.state - 7) (by omega) (by omega))
      clear hr CE CC CI e3
      go_enter Tryd.func53, Tryd.ntmps53
      go_wp2_with (go_at_call 71; refine CQ.out.mono ?_; rintro e w1 ⟨rfl, hl1⟩; have HL1 := Lib.hid hl1; clear hl1)
      go_end0
      exact ⟨rfl, HL1.out⟩
end Go.Proofs.YtopaeikddlpecaaDoor
