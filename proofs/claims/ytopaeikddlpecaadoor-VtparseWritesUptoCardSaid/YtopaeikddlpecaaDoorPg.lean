/-
  Walk: vtparse.Parser.one: what a byte does. Conditions: bounds on lengths and numbers ('PInv'); the tables, which are not the parser's.
-/
import Derived.Test.YtopaeikddlpecaaDoorPf
namespace Go.Proofs.YtopaeikddlpecaaDoor
open Go.RowKit

def PS.pre (s : PS) (b : Int) : PS := if s.state = 0 ∧ b < 128 then s.flush else s
def PS.esc0 (s : PS) : PS := { s with state := 1, a := act0, many := 0 }
def PS.ends0 (s : PS) : PS := if s.state = 12 then s.tellK 5 else if s.state = 11 then s.tellK 6 else s
def PS.sw (s : PS) (b : Int) : PS :=
  if b = 24 ∨ b = 26 then ({ s with state := 0 } : PS).tells (aExec b) else if b = 27 then s.ends0.esc0 else if s.state = 0 then s.plain b else if s.state = 11 ∨ s.state = 12 ∨ s.state = 13 then s.str b
  else if 128 ≤ b then s else if b < 32 then (if s.state < 7 then s.tells (aExec b) else s) else if s.state = 1 ∨ s.state = 2 then s.esc b else s.seq b
def PS.one (s : PS) (b : Int) : PS := (s.pre b).sw b

theorem prints_out (s : PS) (l : List Int) : (s.prints l).dec = s.dec ∧ (s.prints l).state = s.state ∧ (s.prints l).many = s.many ∧ (s.prints l).a = s.a := ⟨rfl, rfl, rfl, rfl⟩
theorem flush_inv {N : Nat} {s : PS} (h : PInv N s) : PInv N s.flush := by
  refine ⟨h.st, h.many, h.par, h.parL, h.parR, ?_, Byts.nil⟩
  have h1 := prints_len { s with dec := [] } (runesOf s.dec)
  have h2 := runesOf_len s.dec
  have h3 := h.out
  show (({ s with dec := [] } : PS).prints (runesOf s.dec)).out.length + ([] : List Int).length ≤ N
  simp only [List.length_nil]
  have h4 : ({ s with dec := [] } : PS).out.length = s.out.length := rfl
  omega
theorem pre_inv {N : Nat} {s : PS} (h : PInv N s) (b : Int) : PInv N (s.pre b) := by
  unfold PS.pre
  split
  · exact flush_inv h
  · exact h

set_option maxHeartbeats 800000 in
theorem flushprint_pair [Inhabited AvoidSet] (g : Nat) (s : PS) (F : Nat → Prop) (w : World) (m : PM) (h : RepPM w F g s m) (hT : Tabs w) (N : Nat) (hi : PInv N s) (hN : N ≤ 67108863) :
    Calls Tryd.prog 30 #[.pointer (some ⟨m.gd, 0, none⟩)] w fun e w1 => ∃ A n c, e = .returned (.slice A n c) ∧
      Calls Tryd.prog 29 #[.pointer (some ⟨g, 0, none⟩), .slice A n c] w1 fun e w2 => e = .returned (.tuple #[]) ∧ LeftP w F g s.flush w2 := by
  refine (flush_any m.gd s.dec F w h.dec hT (by have := hi.out; omega) hi.dec).mono fun e w1 hk => ?_
  obtain ⟨A, n, c, he, hf, hr, hrd⟩ := after_flush h hk
  refine ⟨A, n, c, he, ?_⟩
  have hl : (runesOf s.dec).length = n := by have := hrd.1; rw [runes_length] at this; omega
  have h2 := runesOf_len s.dec
  refine (print_any g A n c _ _ F w1 hr hrd (by have := hi.out; show s.out.length + n ≤ _; omega)).mono fun e w2 hp => ⟨hp.1, ?_⟩
  exact LeftP.trans hf (fun k hk _ => hk) hp.2

theorem esc0_left [Inhabited AvoidSet] {w : World} {F : Nat → Prop} {g : Nat} {s : PS} {m : PM} (h : RepPM w F g s m) : LeftP w F g s.esc0 (((((((((w.setCell ⟨g, 1, none⟩ (.int .i64 1)).setCell ⟨g, 3, none⟩ (.int .i64 0)).setCell ⟨g, 4, none⟩ (.int .i32 0)).setCell ⟨g, 5, none⟩ (.int .u8 0)).setCell ⟨g, 6, none⟩ (.int .u8 0)).setCell ⟨g, 7, none⟩ (.slice none 0 0)).setCell ⟨g, 8, none⟩ (.string ⟨#[]⟩)).setCell ⟨g, 9, none⟩ (.string ⟨#[]⟩)).setCell ⟨g, 10, none⟩ (.int .i64 0)) := by
  refine h.parTurned _ (A' := none) (n' := 0) (c' := 0) ((((((((((Fr.refl (fun k => k = g ∨ Own m.pA k) w).setCell (p := ⟨g, 1, none⟩) (fun _ => .inl rfl) (.int .i64 1)).setCell (p := ⟨g, 3, none⟩) (fun _ => .inl rfl) (.int .i64 0)).setCell (p := ⟨g, 4, none⟩) (fun _ => .inl rfl) (.int .i32 0)).setCell (p := ⟨g, 5, none⟩) (fun _ => .inl rfl) (.int .u8 0)).setCell (p := ⟨g, 6, none⟩) (fun _ => .inl rfl) (.int .u8 0)).setCell (p := ⟨g, 7, none⟩) (fun _ => .inl rfl) (.slice none 0 0)).setCell (p := ⟨g, 8, none⟩) (fun _ => .inl rfl) (.string ⟨#[]⟩)).setCell (p := ⟨g, 9, none⟩) (fun _ => .inl rfl) (.string ⟨#[]⟩)).setCell (p := ⟨g, 10, none⟩) (fun _ => .inl rfl) (.int .i64 0)) ?_ (Sl.nil _ _ _ _) (fun k hk => by cases hk) rfl rfl
  have hb := (((((((((h.blk.put 1 (.int .i64 1)).put 3 (.int .i64 0)).put 4 (.int .i32 0)).put 5 (.int .u8 0)).put 6 (.int .u8 0)).put 7 (.slice none 0 0)).put 8 (.string ⟨#[]⟩)).put 9 (.string ⟨#[]⟩)).put 10 (.int .i64 0))
  simpa [PS.blk, PS.esc0, act0] using hb

set_option maxHeartbeats 6400000 in
set_option maxRecDepth 100000 in
theorem one_any [Inhabited AvoidSet] (g : Nat) (b : Int) (s0 : PS) (F0 : Nat → Prop) (w0 : World) (N : Nat) (h0 : RepP w0 F0 g s0) (hi0 : PInv N s0) (hN : N ≤ 67108862) (hT0 : Tabs w0) (hTF0 : ∀ k, Tab k → ¬ F0 k) (hb : 0 ≤ b) (hb' : b ≤ 255) :
    Calls Tryd.prog 35 #[.pointer (some ⟨g, 0, none⟩), .int .u8 b] w0 (PostP w0 F0 g (s0.one b)) := by
  have HH := Lib.hid h0
  have c1 : w0.cell? ⟨g, 1, none⟩ = some (.int .i64 s0.state) := (LeftP.refl h0).cell1
  obtain ⟨m, hm⟩ := h0
  have c2 : w0.cell? ⟨g, 2, none⟩ = some (.pointer (some ⟨m.gd, 0, none⟩)) := hm.blk.cell 2
  have CF := Lib.hid (flushprint_pair g s0 F0 w0 m hm hT0 N hi0 (by omega))
  have HT0 := Lib.hid hT0
  have HTF0 := Lib.hid hTF0
  have HI := Lib.hid (pre_inv hi0 b)
  have hone : s0.one b = (s0.pre b).sw b := rfl
  have hpre : s0.pre b = if s0.state = 0 ∧ b < 128 then s0.flush else s0 := rfl
  have HPRE := Lib.hid hpre
  generalize s0.one b = r at *
  have HONE := Lib.hid hone
  clear hm hT0 hTF0 hi0 hone hpre
  go_enter Tryd.func35, Tryd.ntmps35
  go_step
  go_cut [] (fun wx => LeftP w0 F0 g (s0.pre b) wx)
  case first =>
    by_cases k1 : s0.state = 0
    · by_cases k2 : b < 128
      · have t1 := beq_t k1
        have hp := HPRE.out
        rw [if_pos ⟨k1, k2⟩] at hp
        have HP := Lib.hid hp
        clear k1 hp
        go_wp2_with (first
          | (go_at_call 30
             refine CF.out.mono ?_
             rintro e w1 ⟨A1, n1, c3, rfl, hpr⟩
             have CP := Lib.hid hpr
             clear hpr)
          | (go_at_call 29
             refine CP.out.mono ?_
             rintro e w2 ⟨rfl, hl2⟩
             have HL2 := Lib.hid hl2
             clear hl2))
        go_meet
        case rel => rw [HP.out]; exact HL2.out
      · have t1 := beq_t k1
        have hp := HPRE.out
        rw [if_neg (fun h => k2 h.2)] at hp
        have HP := Lib.hid hp
        clear k1 hp
        go_wp2
        go_meet
        case rel => rw [HP.out]; exact LeftP.refl HH.out
    · have t1 := bne_f k1
      have hp := HPRE.out
      rw [if_neg (fun h => k1 h.1)] at hp
      have HP := Lib.hid hp
      clear k1 hp
      go_wp2
      go_meet
      case rel => rw [HP.out]; exact LeftP.refl HH.out
  case rest =>
    obtain ⟨F, ⟨m1, h⟩, hf1, hF1⟩ := hcut
    obtain ⟨w, rfl⟩ : ∃ w, w = wc := ⟨_, rfl⟩
    have fin : ∀ w' : World, LeftP w F g ((s0.pre b).sw b) w' → PostP w0 F0 g r (.returned (.tuple #[])) w' := fun w' hw' => by
      rw [HONE.out]
      exact ⟨rfl, LeftP.trans hf1 hF1 hw'⟩
    have hT := HT0.out.fr hf1 HTF0.out
    have hTF : ∀ k, Tab k → ¬ F k := fun k hk hn => HTF0.out k hk (hF1 k hn (HT0.out.lt k hk))
    have hi := HI.out
    clear c1 c2 HONE HT0 HTF0 HI CF HPRE HH hf1 hF1
    generalize s0.pre b = s at *
    have c1 : w.cell? ⟨g, 1, none⟩ = some (.int .i64 s.state) := h.blk.cell 1
    have f1 : w.frozen? ⟨g, 1, none⟩ = false := h.blk.frozen 1
    have hrep : RepP w F g s := ⟨_, h⟩
    have hon : s.out.length ≤ 67108863 := by have := hi.out; omega
    have hpn : s.a.params.length ≤ 64 := by have := hi.parL; omega
    have hsw : s.sw b = s.sw b := rfl
    conv at hsw => rhs; unfold PS.sw
    rw [hsw] at fin
    have FIN := Lib.hid fin
    have HR := Lib.hid h
    have HRP := Lib.hid hrep
    have hst := hi.st
    clear fin hsw h hrep
    rcases (by omega : (b = 24 ∨ b = 26) ∨ b = 27 ∨ (b ≠ 24 ∧ b ≠ 26 ∧ b ≠ 27)) with e1 | e1 | ⟨e1, e2, e3⟩
    · -- CAN, SUB
      have CE := Lib.hid (exec_any g b { s with state := 0 } F _ ⟨_, HR.out.put { s with state := 0 } 1 (.int .i64 0) rfl rfl rfl rfl⟩ (by show s.out.length ≤ _; omega))
      have fn := FIN.out
      rw [if_pos e1] at fn
      have FN := Lib.hid fn
      clear fn FIN hi hT hTF
      rcases e1 with e1 | e1
      all_goals
        subst e1
        go_wp2_with (go_at_call 48; refine CE.out.mono ?_; rintro e w1 ⟨rfl, hl1⟩; have HL1 := Lib.hid hl1; clear hl1)
        go_end0
        exact FN.out _ (LeftP.trans (F1 := F) ((Fr.refl F w).setCell (p := ⟨g, 1, none⟩) (fun _ => HR.out.own) _) (fun _ h _ => h) HL1.out)
    · -- ESC
      subst e1
      have fn := FIN.out
      rw [if_neg (by omega), if_pos rfl] at fn
      have FN := Lib.hid fn
      have CT5 := Lib.hid (tell_any g 5 s F w HRP.out (by omega) hpn)
      have CT6 := Lib.hid (tell_any g 6 s F w HRP.out (by omega) hpn)
      have he0 : s.ends0 = s.ends0 := rfl
      conv at he0 => rhs; unfold PS.ends0
      have HE0 := Lib.hid he0
      clear fn FIN hi hT hTF he0
      go_upto_if 36 with (fail)
      go_step
      go_step
      go_cut [] (fun wx => LeftP w F g s.ends0 wx)
      case first =>
        by_cases k1 : s.state = 12
        · have hp := HE0.out
          rw [if_pos k1] at hp
          have HP := Lib.hid hp
          have t1 := beq_t k1
          clear hp k1
          go_wp2_with (go_at_call 49; refine CT5.out.mono ?_; rintro e w1 ⟨rfl, hl1⟩; have HL1 := Lib.hid hl1; clear hl1)
          go_meet
          case rel => rw [HP.out]; exact HL1.out
        · by_cases k2 : s.state = 11
          · have hp := HE0.out
            rw [if_neg k1, if_pos k2] at hp
            have HP := Lib.hid hp
            have t1 := bne_f k1
            have t2 := beq_t k2
            clear hp k1 k2
            go_wp2_with (go_at_call 49; refine CT6.out.mono ?_; rintro e w1 ⟨rfl, hl1⟩; have HL1 := Lib.hid hl1; clear hl1)
            go_meet
            case rel => rw [HP.out]; exact HL1.out
          · have hp := HE0.out
            rw [if_neg k1, if_neg k2] at hp
            have HP := Lib.hid hp
            have t1 := bne_f k1
            have t2 := bne_f k2
            clear hp k1 k2
            go_wp2
            go_meet
            case rel => rw [HP.out]; exact LeftP.refl HRP.out
      case rest =>
        obtain ⟨F2, ⟨m2, h2⟩, hf2, hF2⟩ := hcut
        obtain ⟨w2, rfl⟩ : ∃ w2, w2 = wc := ⟨_, rfl⟩
        clear c1 f1 CT5 CT6 HE0
        have FN2 := Lib.hid (fun w' (h : LeftP w2 F2 g s.ends0.esc0 w') => FN.out w' (LeftP.trans hf2 hF2 h))
        clear hf2 hF2 FN
        generalize s.ends0 = s2 at *
        have c1 : w2.cell? ⟨g, 1, none⟩ = some (.int .i64 s2.state) := h2.blk.cell 1
        have c3 : w2.cell? ⟨g, 3, none⟩ = some (.int .i64 s2.a.kind) := h2.blk.cell 3
        have c4 : w2.cell? ⟨g, 4, none⟩ = some (.int .i32 s2.a.rune) := h2.blk.cell 4
        have c5 : w2.cell? ⟨g, 5, none⟩ = some (.int .u8 s2.a.fin) := h2.blk.cell 5
        have c6 : w2.cell? ⟨g, 6, none⟩ = some (.int .u8 s2.a.priv) := h2.blk.cell 6
        have c7 : w2.cell? ⟨g, 7, none⟩ = some (.slice m2.pA m2.pn m2.pc) := h2.blk.cell 7
        have c8 : w2.cell? ⟨g, 8, none⟩ = some (.string s2.a.inter) := h2.blk.cell 8
        have c9 : w2.cell? ⟨g, 9, none⟩ = some (.string s2.a.text) := h2.blk.cell 9
        have c10 : w2.cell? ⟨g, 10, none⟩ = some (.int .i64 s2.many) := h2.blk.cell 10
        have f1 := h2.blk.frozen 1
        have f3 := h2.blk.frozen 3
        have f4 := h2.blk.frozen 4
        have f5 := h2.blk.frozen 5
        have f6 := h2.blk.frozen 6
        have f7 := h2.blk.frozen 7
        have f8 := h2.blk.frozen 8
        have f9 := h2.blk.frozen 9
        have f10 := h2.blk.frozen 10
        have HR2 := Lib.hid h2
        clear h2
        go_wp2
        go_end0
        exact FN2.out _ (esc0_left HR2.out)
    · have t1 := bne_f e1
      have t2 := bne_f e2
      have t3 := bne_f e3
      have fn := FIN.out
      rw [if_neg (by omega), if_neg e3] at fn
      clear FIN e1 e2 e3
      by_cases k1 : s.state = 0
      · rw [if_pos k1] at fn
        have t4 := beq_t k1
        have CP := Lib.hid (plain_any g b s F w HRP.out hT hTF (by have := hi.out; omega) hi.dec ⟨hb, hb'⟩)
        have FN := Lib.hid fn
        clear fn k1 hT hTF hi hst
        go_wp2_with (go_at_call 50; refine CP.out.mono ?_; rintro e w1 ⟨rfl, hl1⟩; have HL1 := Lib.hid hl1; clear hl1)
        go_end0
        exact FN.out _ HL1.out
      · rw [if_neg k1] at fn
        have t4 := bne_f k1
        by_cases k2 : s.state = 11 ∨ s.state = 12 ∨ s.state = 13
        · rw [if_pos k2] at fn
          have CP := Lib.hid (str_any g b s F w HRP.out (by omega) hpn ⟨hb, hb'⟩)
          have FN := Lib.hid fn
          clear fn k1 hT hTF hi hst
          rcases k2 with k2 | k2 | k2
          all_goals
            rw [k2] at c1
            clear t4
            go_wp2_with (go_at_call 51; refine CP.out.mono ?_; rintro e w1 ⟨rfl, hl1⟩; have HL1 := Lib.hid hl1; clear hl1)
            go_end0
            exact FN.out _ HL1.out
        · rw [if_neg k2] at fn
          have t5 := bne_f (show s.state ≠ 11 by omega)
          have t6 := bne_f (show s.state ≠ 12 by omega)
          have t7 := bne_f (show s.state ≠ 13 by omega)
          by_cases k3 : 128 ≤ b
          · rw [if_pos k3] at fn
            have FN := Lib.hid fn
            clear fn k1 k2 hT hTF hi hst
            go_wp2
            go_end0
            exact FN.out _ (LeftP.refl HRP.out)
          · rw [if_neg k3] at fn
            have k3' : b < 128 := by omega
            clear k3
            by_cases k4 : b < 32
            · rw [if_pos k4] at fn
              by_cases k5 : s.state < 7
              · rw [if_pos k5] at fn
                have CP := Lib.hid (exec_any g b s F w HRP.out (by omega))
                have FN := Lib.hid fn
                clear fn k1 k2 hT hTF hi hst
                go_wp2_with (go_at_call 48; refine CP.out.mono ?_; rintro e w1 ⟨rfl, hl1⟩; have HL1 := Lib.hid hl1; clear hl1)
                go_end0
                exact FN.out _ HL1.out
              · rw [if_neg k5] at fn
                have k5' : 7 ≤ s.state := by omega
                have FN := Lib.hid fn
                clear fn k1 k2 hT hTF hi hst k5
                go_wp2
                go_end0
                exact FN.out _ (LeftP.refl HRP.out)
            · rw [if_neg k4] at fn
              have k4' : 32 ≤ b := by omega
              clear k4
              by_cases k5 : s.state = 1 ∨ s.state = 2
              · rw [if_pos k5] at fn
                have CP := Lib.hid (esc_any g b s F w HRP.out (by omega) hpn ⟨hb, hb'⟩)
                have FN := Lib.hid fn
                clear fn k1 k2 hT hTF hi hst t4 t5 t6 t7
                rcases k5 with k5 | k5
                all_goals
                  rw [k5] at c1
                  go_wp2_with (go_at_call 52; refine CP.out.mono ?_; rintro e w1 ⟨rfl, hl1⟩; have HL1 := Lib.hid hl1; clear hl1)
                  go_end0
                  exact FN.out _ HL1.out
              · rw [if_neg k5] at fn
                have CP := Lib.hid (seq_any g b s F w N HRP.out hi (by omega) ⟨k4', by omega⟩ (by omega))
                have FN := Lib.hid fn
                have t8 := bne_f (show s.state ≠ 1 by omega)
                have t9 := bne_f (show s.state ≠ 2 by omega)
                clear fn k1 k2 hT hTF hi hst k5
                go_wp2_with (go_at_call 53; refine CP.out.mono ?_; rintro e w1 ⟨rfl, hl1⟩; have HL1 := Lib.hid hl1; clear hl1)
                go_end0
                exact FN.out _ HL1.out
end Go.Proofs.YtopaeikddlpecaaDoor
