/-
  Walks: vtparse.Parser's string, esc, counts. Conditions: bounds on lengths and numbers.
-/
import Derived.Test.YtopaeikddlpecaaDoorPd
namespace Go.Proofs.YtopaeikddlpecaaDoor
open Go.RowKit

section
variable {w w1 : World} {F : Nat → Prop} {g : Nat} {s1 : PS}
theorem LeftP.cell1 [Inhabited AvoidSet] (h : LeftP w F g s1 w1) : w1.cell? ⟨g, 1, none⟩ = some (.int .i64 s1.state) := by
  obtain ⟨F1, ⟨m, hr⟩, _, _⟩ := h
  exact hr.blk.cell 1
theorem LeftP.free1 [Inhabited AvoidSet] (h : LeftP w F g s1 w1) (i : Nat) : w1.frozen? ⟨g, i, none⟩ = false := by
  obtain ⟨F1, ⟨m, hr⟩, _, _⟩ := h
  exact hr.blk.frozen i
theorem LeftP.st [Inhabited AvoidSet] (h : LeftP w F g s1 w1) (st : Int) : LeftP w F g { s1 with state := st } (w1.setCell ⟨g, 1, none⟩ (.int .i64 st)) := by
  obtain ⟨F1, ⟨m, hr⟩, hf, hF⟩ := h
  exact LeftP.trans hf hF (LeftP.put1 hr _ 1 _ rfl rfl rfl rfl)
end
theorem bne_f {a b : Int} (h : a ≠ b) : (a == b) = false := beq_eq_false_iff_ne.2 h
theorem beq_t {a b : Int} (h : a = b) : (a == b) = true := beq_iff_eq.2 h

/-! ### string -/
def PS.str (s : PS) (b : Int) : PS :=
  if s.state = 13 then s else if s.state = 11 then (if b = 127 then s else s.text b) else if b = 7 then { s.tellK 5 with state := 0 } else if 32 ≤ b then s.text b else s

set_option maxHeartbeats 800000 in
theorem str_any [Inhabited AvoidSet] (g : Nat) (b : Int) (s : PS) (F : Nat → Prop) (w : World) (h : RepP w F g s) (hn : s.out.length ≤ 67108864) (hp : s.a.params.length ≤ 64) (hb : 0 ≤ b ∧ b ≤ 255) :
    Calls Tryd.prog 51 #[.pointer (some ⟨g, 0, none⟩), .int .u8 b] w (PostP w F g (s.str b)) := by
  have HH := Lib.hid h
  have c1 : w.cell? ⟨g, 1, none⟩ = some (.int .i64 s.state) := (LeftP.refl h).cell1
  have CX := Lib.hid (text_any g b s F w h hb)
  have CT := Lib.hid (tell_any g 5 s F w h hn hp)
  clear h
  have hst : s.str b = if s.state = 13 then s else if s.state = 11 then (if b = 127 then s else s.text b) else if b = 7 then { s.tellK 5 with state := 0 } else if 32 ≤ b then s.text b else s := rfl
  rcases (by omega : s.state = 13 ∨ (s.state ≠ 13 ∧ s.state = 11 ∧ b = 127) ∨ (s.state ≠ 13 ∧ s.state = 11 ∧ b ≠ 127) ∨ (s.state ≠ 13 ∧ s.state ≠ 11 ∧ b = 7) ∨ (s.state ≠ 13 ∧ s.state ≠ 11 ∧ b ≠ 7 ∧ 32 ≤ b) ∨ (s.state ≠ 13 ∧ s.state ≠ 11 ∧ b ≠ 7 ∧ b < 32))
    with e1 | ⟨e1, e2, e3⟩ | ⟨e1, e2, e3⟩ | ⟨e1, e2, e3⟩ | ⟨e1, e2, e3, e4⟩ | ⟨e1, e2, e3, e4⟩
  · rw [hst, if_pos e1]
    have t1 := beq_t e1
    clear hst e1
    go_enter Tryd.func51, Tryd.ntmps51
    go_wp2
    go_end0
    exact ⟨rfl, LeftP.refl HH.out⟩
  · rw [hst, if_neg e1, if_pos e2, if_pos e3]
    have t1 := bne_f e1
    have t2 := beq_t e2
    have t3 := beq_t e3
    clear hst e1 e2 e3
    go_enter Tryd.func51, Tryd.ntmps51
    go_wp2
    go_end0
    exact ⟨rfl, LeftP.refl HH.out⟩
  · rw [hst, if_neg e1, if_pos e2, if_neg e3]
    have t1 := bne_f e1
    have t2 := beq_t e2
    have t3 := bne_f e3
    clear hst e1 e2 e3
    go_enter Tryd.func51, Tryd.ntmps51
    go_wp2_with (go_at_call 68; refine CX.out.mono ?_; rintro e w1 ⟨rfl, hl1⟩; have HL1 := Lib.hid hl1; clear hl1)
    go_end0
    exact ⟨rfl, HL1.out⟩
  · rw [hst, if_neg e1, if_neg e2, if_pos e3]
    have t1 := bne_f e1
    have t2 := bne_f e2
    have t3 : (b == 127) = false := bne_f (by omega)
    have t4 := beq_t e3
    clear hst e1 e2 e3
    go_enter Tryd.func51, Tryd.ntmps51
    go_wp2_with (go_at_call 49; refine CT.out.mono ?_; rintro e w1 ⟨rfl, hl1⟩; have d1 := hl1.cell1; have d2 := hl1.free1 1; have HL1 := Lib.hid hl1; clear hl1)
    go_end0
    exact ⟨rfl, HL1.out.st 0⟩
  · rw [hst, if_neg e1, if_neg e2, if_neg e3, if_pos e4]
    have t1 := bne_f e1
    have t2 := bne_f e2
    have t3 := bne_f e3
    clear hst e1 e2 e3
    by_cases e5 : b = 127
    all_goals
      first | have t5 := beq_t e5 | have t5 := bne_f e5
      clear e5
      go_enter Tryd.func51, Tryd.ntmps51
      go_wp2_with (go_at_call 68; refine CX.out.mono ?_; rintro e w1 ⟨rfl, hl1⟩; have HL1 := Lib.hid hl1; clear hl1)
      go_end0
      exact ⟨rfl, HL1.out⟩
  · rw [hst, if_neg e1, if_neg e2, if_neg e3, if_neg (by omega)]
    have t1 := bne_f e1
    have t2 := bne_f e2
    have t3 := bne_f e3
    have t4 : (b == 127) = false := bne_f (by omega)
    clear hst e1 e2 e3
    go_enter Tryd.func51, Tryd.ntmps51
    go_wp2
    go_end0
    exact ⟨rfl, LeftP.refl HH.out⟩

/-! ### esc -/
def PS.esc (s : PS) (b : Int) : PS :=
  if b = 127 then s else if b < 48 then { s.inter b with state := 2 } else if s.state = 2 then s.ends b 3 else if b = 91 then { s with state := 3 } else if b = 93 then { s with state := 12 }
  else if b = 80 then { s with state := 7 } else if b = 88 then { s with state := 13 } else if b = 94 then { s with state := 13 } else if b = 95 then { s with state := 13 } else if b = 92 then { s with state := 0 } else s.ends b 3

set_option maxHeartbeats 1600000 in
theorem esc_any [Inhabited AvoidSet] (g : Nat) (b : Int) (s : PS) (F : Nat → Prop) (w : World) (h : RepP w F g s) (hn : s.out.length ≤ 67108864) (hp : s.a.params.length ≤ 64) (hb : 0 ≤ b ∧ b ≤ 255) :
    Calls Tryd.prog 52 #[.pointer (some ⟨g, 0, none⟩), .int .u8 b] w (PostP w F g (s.esc b)) := by
  have HH := Lib.hid h
  have c1 : w.cell? ⟨g, 1, none⟩ = some (.int .i64 s.state) := (LeftP.refl h).cell1
  have f1 := (LeftP.refl h).free1 1
  have CI := Lib.hid (inter_any g b s F w h hb)
  have CE := Lib.hid (ends_any g b 3 s F w h hn hp)
  clear h
  have hst : s.esc b = s.esc b := rfl
  conv at hst => rhs; unfold PS.esc
  generalize s.esc b = r at *
  have HST := Lib.hid hst
  clear hst
  have fin : ∀ st, r = { s with state := st } → PostP w F g r (.returned (.tuple #[])) (w.setCell ⟨g, 1, none⟩ (.int .i64 st)) := by
    rintro st rfl
    exact ⟨rfl, (LeftP.refl HH.out).st st⟩
  have FIN := Lib.hid fin
  clear fin
  rcases (by omega : b = 127 ∨ b < 48 ∨ (b ≠ 127 ∧ 48 ≤ b ∧ s.state = 2) ∨ (b ≠ 127 ∧ 48 ≤ b ∧ s.state ≠ 2)) with e1 | e1 | ⟨e1, e2, e3⟩ | ⟨e1, e2, e3⟩
  · have hr := HST.out
    rw [if_pos e1] at hr
    rw [hr]
    have t1 := beq_t e1
    clear e1 hr
    go_enter Tryd.func52, Tryd.ntmps52
    go_wp2
    go_end0
    exact ⟨rfl, LeftP.refl HH.out⟩
  · have hr := HST.out
    rw [if_neg (by omega), if_pos e1] at hr
    rw [hr]
    have t1 : (b == 127) = false := bne_f (by omega)
    clear hr
    go_enter Tryd.func52, Tryd.ntmps52
    go_wp2_with (go_at_call 69; refine CI.out.mono ?_; rintro e w1 ⟨rfl, hl1⟩; have d1 := hl1.cell1; have d2 := hl1.free1 1; have HL1 := Lib.hid hl1; clear hl1)
    go_end0
    exact ⟨rfl, HL1.out.st 2⟩
  · have hr := HST.out
    rw [if_neg e1, if_neg (by omega), if_pos e3] at hr
    rw [hr]
    have t1 := bne_f e1
    have t3 := beq_t e3
    clear hr e1 e3
    go_enter Tryd.func52, Tryd.ntmps52
    go_wp2_with (go_at_call 70; refine CE.out.mono ?_; rintro e w1 ⟨rfl, hl1⟩; have HL1 := Lib.hid hl1; clear hl1)
    go_end0
    exact ⟨rfl, HL1.out⟩
  · have hr := HST.out
    rw [if_neg e1, if_neg (by omega), if_neg e3] at hr
    have HRR := Lib.hid hr
    have t0 := bne_f e1
    have t3 := bne_f e3
    clear hr e1 e3 HST
    by_cases k1 : b = 91
    · subst k1
      clear t0 CI CE
      go_enter Tryd.func52, Tryd.ntmps52
      go_wp2
      go_end0
      exact FIN.out _ (by rw [HRR.out]; rfl)
    by_cases k2 : b = 93
    · subst k2
      clear t0 CI CE k1
      go_enter Tryd.func52, Tryd.ntmps52
      go_wp2
      go_end0
      exact FIN.out _ (by rw [HRR.out]; rfl)
    by_cases k3 : b = 80
    · subst k3
      clear t0 CI CE k1 k2
      go_enter Tryd.func52, Tryd.ntmps52
      go_wp2
      go_end0
      exact FIN.out _ (by rw [HRR.out]; rfl)
    by_cases k4 : b = 88
    · subst k4
      clear t0 CI CE k1 k2 k3
      go_enter Tryd.func52, Tryd.ntmps52
      go_wp2
      go_end0
      exact FIN.out _ (by rw [HRR.out]; rfl)
    by_cases k5 : b = 94
    · subst k5
      clear t0 CI CE k1 k2 k3 k4
      go_enter Tryd.func52, Tryd.ntmps52
      go_wp2
      go_end0
      exact FIN.out _ (by rw [HRR.out]; rfl)
    by_cases k6 : b = 95
    · subst k6
      clear t0 CI CE k1 k2 k3 k4 k5
      go_enter Tryd.func52, Tryd.ntmps52
      go_wp2
      go_end0
      exact FIN.out _ (by rw [HRR.out]; rfl)
    by_cases k7 : b = 92
    · subst k7
      clear t0 CI CE k1 k2 k3 k4 k5 k6
      go_enter Tryd.func52, Tryd.ntmps52
      go_wp2
      go_end0
      exact FIN.out _ (by rw [HRR.out]; rfl)
    have hr := HRR.out
    rw [if_neg k1, if_neg k2, if_neg k3, if_neg k4, if_neg k5, if_neg k6, if_neg k7] at hr
    rw [hr]
    have t1 := bne_f k1
    have t2 := bne_f k2
    have t4 := bne_f k3
    have t5 := bne_f k4
    have t6 := bne_f k5
    have t7 := bne_f k6
    have t8 := bne_f k7
    clear hr k1 k2 k3 k4 k5 k6 k7 HRR FIN
    go_enter Tryd.func52, Tryd.ntmps52
    go_wp2_with (go_at_call 70; refine CE.out.mono ?_; rintro e w1 ⟨rfl, hl1⟩; have HL1 := Lib.hid hl1; clear hl1)
    go_end0
    exact ⟨rfl, HL1.out⟩
end Go.Proofs.YtopaeikddlpecaaDoor
