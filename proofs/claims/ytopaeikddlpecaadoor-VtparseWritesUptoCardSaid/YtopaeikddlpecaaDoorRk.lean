/-
  Walk of the document's parser: take. Conditions: bounds on lengths and numbers ('RInv').
-/
import Derived.Test.YtopaeikddlpecaaDoorRj
namespace Go.Proofs.YtopaeikddlpecaaDoor
open Go.RowKit

/-- behind the decoder's Put: the slice that it gives, and the parser -/
theorem after_dput {W w1 : World} {F : Nat → Prop} {g : Nat} {r : RS} {m : RM} {e : Ending} {l : List Int} (h : RepRM W F g r m) (k : DPutP W g (r.blk m) m.dA l e w1) :
    ∃ A n c F1, e = .returned (.slice A n c) ∧ Fr F W w1 ∧ RepR w1 F1 g { r with dec := (decLoop l).2 } ∧ Rd w1 (Off F1) 1 A n (runes (decLoop l).1) ∧ ∀ k, F1 k → k < W.heap.size → F k := by
  obtain ⟨A2, n2, c2, A3, n3, c3, he, hs2, hb, hs3, hA3, hf⟩ := k
  have hX : ∀ k, (k = g ∨ Own m.dA k) → F k := by
    rintro k (rfl | hk)
    · exact h.own
    · exact h.dec.inF hk
  have fr : ∀ e, 59 ≠ e → 5 ≠ e → Free W (fun k => k = g ∨ Own m.dA k) e := by
    rintro e h1 h2 k (rfl | hk)
    · exact Free.blk h.blk h1 k rfl
    · exact Free.own h.dec h2 k hk
  have hold : ∀ k, Own A3 k → k < W.heap.size → F k := fun k hk hlt => h.dec.inF (hA3 k hk hlt)
  obtain ⟨hn, cs, hos, hoa⟩ := h.out
  refine ⟨A2, n2, c2, fun k => F k ∨ Own A3 k, he, hf.mono fun k _ hk => hX k hk, ⟨{ m with dA := A3, dn := n3, dc := c3 }, ?_, .inl h.own, ?_, hs3.mono fun k hk => .inr hk, (h.par.carry hf (fr _ (by decide) (by decide))).mono fun k hk => .inl hk, hn, cs, (hos.carry hf (fr _ (by decide) (by decide))).mono fun k hk => .inl hk, ?_⟩, ?_, ?_⟩
  · simpa [RS.blk] using hb
  · rintro k (hk | hk)
    · exact Nat.lt_of_lt_of_le (h.dom k hk) hf.size
    · exact hs3.inB hk
  · refine ((hoa.mono (G := fun k => k < W.heap.size ∧ Off F k) fun k hk ho => ⟨hk, ho⟩).fr hf fun i hi hx => hi.2 (hX i hx)).mono fun k _ hk => ?_
    rintro (h1 | h1)
    · exact hk.2 h1
    · exact hk.2 (hold k h1 hk.1)
  · refine hs2.only.rd.mono fun k _ hk => ?_
    have hin := hs2.inF hk
    rintro (h1 | h1)
    · have := h.dom k h1
      unfold NewB at hin
      omega
    · rcases hs2.2 with ⟨hA, _⟩ | ⟨g', o, hA, _, ⟨⟨cur, fz, hh, _⟩, _⟩⟩
      · rw [hA] at hk; cases hk
      · rw [hA] at hk
        have : g' = k := by injection hk
        subst this
        exact Free.own hs3 (e := 21) (by decide) g' h1 cur fz hh
  · rintro k (hk | hk) hlt
    · exact hk
    · exact hold k hk hlt
/-- behind the decoder's Flush -/
theorem after_dflush {w w1 : World} {F : Nat → Prop} {g : Nat} {r : RS} {m : RM} {A : Option Addr} {n c : Nat} (h : RepRM w F g r m) (hs : Sl w1 (NewB w) 21 1 A n c (runes (runesOf r.dec)))
    (hb : Blk w1 g 59 ((r.blk m).setIfInBounds 1 (.slice none 0 0))) (hf : Fr (· = g) w w1) :
    RepR w1 F g { r with dec := [] } ∧ Rd w1 (Off F) 1 A n (runes (runesOf r.dec)) := by
  obtain ⟨hn, cs, hos, hoa⟩ := h.out
  refine ⟨⟨{ m with dA := none, dn := 0, dc := 0 }, by simpa [RS.blk] using hb, h.own, fun k hk => Nat.lt_of_lt_of_le (h.dom k hk) hf.size, Sl.nil _ _ _ _, h.par.carry hf (Free.blk h.blk (by decide)), hn, cs, hos.carry hf (Free.blk h.blk (by decide)), hoa.fr hf (by rintro i hi rfl; exact hi h.own)⟩, hs.rd.mono fun k _ hk hF => by have := h.dom k hF; unfold NewB at hk; omega⟩

/-- Flush, then prints -/
theorem rflushprint_pair (g : Nat) (r : RS) (F : Nat → Prop) (w : World) (m : RM) (h : RepRM w F g r m) (N : Nat) (hi : RInv N r) (hN : N ≤ 67108863) :
    Calls Tryd.prog 32 #[.pointer (some ⟨g, 1, none⟩)] w fun e w1 => ∃ A n c, e = .returned (.slice A n c) ∧
      Calls Tryd.prog 31 #[.pointer (some ⟨g, 0, none⟩), .slice A n c] w1 fun e w2 => e = .returned (.tuple #[]) ∧ LeftR w F g r.flush w2 := by
  refine (dflush_any g (r.blk m) m.dA m.dn m.dc r.dec w h.blk rfl h.dec.only (by have := hi.out; omega) hi.dec).mono fun e w1 ⟨A, n, c, he, hs, hb, hf⟩ => ?_
  obtain ⟨hr, hrd⟩ := after_dflush h hs hb hf
  refine ⟨A, n, c, he, ?_⟩
  have hl : (runesOf r.dec).length = n := by have := hrd.1; rw [runes_length] at this; omega
  have h2 := runesOf_len r.dec
  refine (rprints_any g A n c _ _ F w1 hr hrd (by have := hi.out; show r.out.length + n ≤ _; omega)).mono fun e w2 hp => ⟨hp.1, ?_⟩
  exact LeftR.trans (hf.mono (by rintro k _ rfl; exact h.own)) (fun k hk _ => hk) hp.2
/-- Put, then prints -/
theorem rputprint_pair (g : Nat) (x : Int) (r : RS) (F : Nat → Prop) (w : World) (m : RM) (h : RepRM w F g r m) (N : Nat) (hi : RInv N r) (hN : N ≤ 67108862) (hx : 0 ≤ x ∧ x ≤ 255) :
    Calls Tryd.prog 54 #[.pointer (some ⟨g, 1, none⟩), .slice (some ⟨w.heap.size, 0, none⟩) 1 1] (w.alloc (.cells #[.int .u8 x] 5)) fun e w1 => ∃ A n c, e = .returned (.slice A n c) ∧
      Calls Tryd.prog 31 #[.pointer (some ⟨g, 0, none⟩), .slice A n c] w1 fun e w2 => e = .returned (.tuple #[]) ∧ LeftR w F g (r.high x) w2 := by
  have hfa := (Fr.refl NoB w).alloc (.cells #[.int .u8 x] 5)
  have hW := h.fr hfa (fun _ _ => noB_no) (.inr fun _ _ => noB_no)
  have hbx : Byts [x] := fun j => by
    cases j with
    | zero => simpa using hx
    | succ j => simp
  refine (dput_any g (r.blk m) (by simp [RS.blk]) m.dA m.dn m.dc r.dec [x] _ _ 1 1 _ hW.blk rfl hW.dec.only (Rd.box w 5 1 #[.int .u8 x] rfl) (by have := hi.out; omega) hi.dec hbx).mono fun e w1 hp => ?_
  obtain ⟨A, n, c, F1, he, hf, hr, hrd, hF1⟩ := after_dput hW hp
  refine ⟨A, n, c, he, ?_⟩
  have hl : (decLoop (r.dec ++ [x])).1.length = n := by have := hrd.1; rw [runes_length] at this; omega
  have h2 := decLoop_len (r.dec ++ [x])
  rw [List.length_append, List.length_singleton] at h2
  refine (rprints_any g A n c _ _ F1 w1 hr hrd (by have := hi.out; show r.out.length + n ≤ _; omega)).mono fun e w2 hq => ⟨hq.1, ?_⟩
  have hsz := hfa.size
  exact LeftR.trans ((hfa.mono fun _ _ h => h.elim).trans hf fun _ _ h => h) (fun k hk hlt => hF1 k hk (by omega)) hq.2

theorem rfresh_any (g : Nat) (r : RS) (F : Nat → Prop) (w : World) (h : RepR w F g r) :
    Calls Tryd.prog 56 #[.pointer (some ⟨g, 0, none⟩)] w (PostR w F g r.fresh) := by
  obtain ⟨m, h⟩ := h
  have c2 : w.cell? ⟨g, 2, none⟩ = some (.int .u8 r.priv) := h.blk.cell 2
  have c3 : w.cell? ⟨g, 3, none⟩ = some (.slice m.pA m.pn m.pc) := h.blk.cell 3
  have c4 : w.cell? ⟨g, 4, none⟩ = some (.int .i64 r.many) := h.blk.cell 4
  have c5 : w.cell? ⟨g, 5, none⟩ = some (.string r.inter) := h.blk.cell 5
  have c6 : w.cell? ⟨g, 6, none⟩ = some (.string r.text) := h.blk.cell 6
  have c7 : w.cell? ⟨g, 7, none⟩ = some (.int .u8 r.fin) := h.blk.cell 7
  have f2 := h.blk.frozen 2
  have f3 := h.blk.frozen 3
  have f4 := h.blk.frozen 4
  have f5 := h.blk.frozen 5
  have f6 := h.blk.frozen 6
  have f7 := h.blk.frozen 7
  have HR := Lib.hid h
  clear h
  go_enter Tryd.func56, Tryd.ntmps56
  go_wp2
  go_end0
  refine ⟨rfl, HR.out.parTurned r.fresh (A' := none) (n' := 0) (c' := 0) ((((((((Fr.refl (fun k => k = g ∨ Own m.pA k) w).setCell (p := ⟨g, 2, none⟩) (fun _ => .inl rfl) (.int .u8 0)).setCell (p := ⟨g, 3, none⟩) (fun _ => .inl rfl) (.slice none 0 0)).setCell (p := ⟨g, 4, none⟩) (fun _ => .inl rfl) (.int .i64 0)).setCell (p := ⟨g, 5, none⟩) (fun _ => .inl rfl) (.string ⟨#[]⟩)).setCell (p := ⟨g, 6, none⟩) (fun _ => .inl rfl) (.string ⟨#[]⟩)).setCell (p := ⟨g, 7, none⟩) (fun _ => .inl rfl) (.int .u8 0))) ?_ (Sl.nil _ _ _ _) (fun k hk => by cases hk) rfl rfl⟩
  have hb := ((((((HR.out.blk.put 2 (.int .u8 0)).put 3 (.slice none 0 0)).put 4 (.int .i64 0)).put 5 (.string ⟨#[]⟩)).put 6 (.string ⟨#[]⟩)).put 7 (.int .u8 0))
  simpa [RS.blk, RS.fresh] using hb

theorem RInv.flush {N : Nat} {r : RS} (h : RInv N r) : RInv N r.flush := by
  refine ⟨h.st, ?_, Byts.nil, h.par⟩
  have h1 := rprints_len { r with dec := [] } (runesOf r.dec)
  have h2 := runesOf_len r.dec
  have h3 := h.out
  show (({ r with dec := [] } : RS).prints (runesOf r.dec)).out.length + ([] : List Int).length ≤ N
  have h4 : ({ r with dec := [] } : RS).out.length = r.out.length := rfl
  simp only [List.length_nil]
  omega
def RS.pre (r : RS) : RS := if r.state = 0 then r.flush else r
theorem RInv.pre {N : Nat} {r : RS} (h : RInv N r) : RInv N r.pre := by
  unfold RS.pre
  split
  · exact h.flush
  · exact h
theorem take_eq (r : RS) (x : Int) (h : ¬ (r.state = 0 ∧ 128 ≤ x)) : r.take x = r.pre.sw x := by
  unfold RS.take RS.pre
  rw [if_neg h]
  split <;> rfl

set_option maxHeartbeats 6400000 in
set_option maxRecDepth 100000 in
theorem rtake_any (g : Nat) (x : Int) (r0 : RS) (F0 : Nat → Prop) (w0 : World) (N : Nat) (h0 : RepR w0 F0 g r0) (hi0 : RInv N r0) (hN : N ≤ 67108862) (hx : 0 ≤ x ∧ x ≤ 255) :
    Calls Tryd.prog 37 #[.pointer (some ⟨g, 0, none⟩), .int .u8 x] w0 (PostR w0 F0 g (r0.take x)) := by
  have HL0 := Lib.hid (LeftR.refl h0)
  have c0 := HL0.out.cell0
  obtain ⟨m, hm⟩ := h0
  by_cases kA : r0.state = 0 ∧ 128 ≤ x
  · have e : r0.take x = r0.high x := by unfold RS.take; rw [if_pos kA]
    rw [e]
    have CP := Lib.hid (rputprint_pair g x r0 F0 w0 m hm N hi0 hN hx)
    obtain ⟨k1, k2⟩ := kA
    rw [k1] at c0
    clear hm hi0 e k1
    go_enter Tryd.func37, Tryd.ntmps37
    go_wp2_with (first
      | (go_at_call 54
         refine CP.out.mono ?_
         rintro e w1 ⟨A1, n1, c1, rfl, hpr⟩
         have CQ := Lib.hid hpr
         clear hpr)
      | (go_at_call 31
         refine CQ.out.mono ?_
         rintro e w2 ⟨rfl, hl2⟩
         have HL2 := Lib.hid hl2
         clear hl2))
    refine bodyPost_ret (results_none rfl _ _ _) rfl ⟨rfl, HL2.out⟩
  · have hone := take_eq r0 x kA
    have hpre : r0.pre = if r0.state = 0 then r0.flush else r0 := rfl
    have CF := Lib.hid (rflushprint_pair g r0 F0 w0 m hm N hi0 (by omega))
    have HPRE := Lib.hid hpre
    have HI := Lib.hid hi0.pre
    generalize r0.take x = rr at *
    have HONE := Lib.hid hone
    have hcase : (r0.state = 0 ∧ x < 128) ∨ (r0.state ≠ 0) := by omega
    clear hm hi0 hpre hone kA
    go_enter Tryd.func37, Tryd.ntmps37
    rcases hcase with ⟨k1, k2⟩ | k1
    case' neg.inr =>
      have t1 := bne_f k1
      have hp := HPRE.out
      rw [if_neg k1] at hp
      have HP := Lib.hid hp
      clear k1 hp
      go_upto_if 25 with (fail)
      go_cut [] (fun wx => LeftR w0 F0 g r0.pre wx)
      case first =>
        go_wp2
        go_meet
        case rel => rw [HP.out]; exact HL0.out
    case' neg.inl =>
      have hp := HPRE.out
      rw [if_pos k1] at hp
      have HP := Lib.hid hp
      rw [k1] at c0
      clear hp k1
      go_upto_if 25 with (fail)
      go_cut [] (fun wx => LeftR w0 F0 g r0.pre wx)
      case first =>
        go_wp2_with (first
          | (go_at_call 32
             refine CF.out.mono ?_
             rintro e w1 ⟨A1, n1, c3, rfl, hpr⟩
             have CP := Lib.hid hpr
             clear hpr)
          | (go_at_call 31
             refine CP.out.mono ?_
             rintro e w2 ⟨rfl, hl2⟩
             have HL2 := Lib.hid hl2
             clear hl2))
        go_meet
        case rel => rw [HP.out]; exact HL2.out
    all_goals
      obtain ⟨F, ⟨m1, h⟩, hf1, hF1⟩ := hcut
      obtain ⟨w, rfl⟩ : ∃ w, w = wc := ⟨_, rfl⟩
      have fin : ∀ w' : World, LeftR w F g (r0.pre.sw x) w' → PostR w0 F0 g rr (.returned (.tuple #[])) w' := fun w' hw' => by
        rw [HONE.out]
        exact ⟨rfl, LeftR.trans hf1 hF1 hw'⟩
      have hi := HI.out
      clear c0 HONE HI CF HPRE HL0 hf1 hF1 HP
      generalize r0.pre = r at *
      have hrep : RepR w F g r := ⟨_, h⟩
      have HL0 := Lib.hid (LeftR.refl hrep)
      have c0 := HL0.out.cell0
      have f0 := HL0.out.free 0
      have c6 : w.cell? ⟨g, 6, none⟩ = some (.string r.text) := h.blk.cell 6
      have ho : r.out.length ≤ 67108864 := by have := hi.out; omega
      have hsw : r.sw x = r.sw x := rfl
      conv at hsw => rhs; unfold RS.sw
      rw [hsw] at fin
      have FIN := Lib.hid fin
      have HR := Lib.hid h
      have HI := Lib.hid hi
      have hst := hi.st
      clear fin hsw h hi
      rcases (by omega : (x = 24 ∨ x = 26) ∨ x = 27 ∨ (x ≠ 24 ∧ x ≠ 26 ∧ x ≠ 27)) with e1 | e1 | ⟨e1, e2, e3⟩
      · -- CAN, SUB
        have CE := Lib.hid (rtell_any g (aExec x) none 0 0 NoB r F w hrep (Rd.nil _ _ _ _) (Nat.le_refl _) (fun _ _ h => h.elim) ho)
        have fn := FIN.out
        rw [if_pos e1] at fn
        have FN := Lib.hid fn
        clear fn FIN hrep
        rcases e1 with e1 | e1
        all_goals
          subst e1
          go_wp2_with
            (go_at_call 46
             refine CE.out.mono ?_
             rintro e w1 ⟨rfl, hl⟩
             have c01 := hl.cell0
             have f01 := hl.free 0
             have HL := Lib.hid hl
             clear hl)
          go_end0
          exact FN.out _ (HL.out.st 0)
      · -- ESC
        subst e1
        have fn := FIN.out
        rw [if_neg (by omega), if_pos rfl] at fn
        have FN := Lib.hid fn
        have told : ∀ w1, LeftR w F g r.told w1 → Calls Tryd.prog 56 #[.pointer (some ⟨g, 0, none⟩)] w1 fun e w2 => e = .returned (.tuple #[]) ∧ LeftR w F g r.told.fresh w2 := fun w1 hl => by
          obtain ⟨F1, hr1, hf1, hF1⟩ := hl
          exact (rfresh_any g r.told F1 w1 hr1).mono fun e w2 hq => ⟨hq.1, LeftR.trans hf1 hF1 hq.2⟩
        have TOLD := Lib.hid told
        have htl : r.told = if r.state = 12 then r.osc else if r.state = 11 then r.dcs else r := rfl
        clear fn FIN told
        by_cases k1 : r.state = 12
        · rw [if_pos k1] at htl
          have CT := Lib.hid (rtell_any g { act0 with kind := 5, text := r.text } none 0 0 NoB r F w hrep (Rd.nil _ _ _ _) (Nat.le_refl _) (fun _ _ h => h.elim) ho)
          have HTL := Lib.hid htl
          have HK1 := Lib.hid k1
          rw [k1] at c0
          clear htl hrep k1
          go_wp2_with (first
            | (go_at_call 46
               refine CT.out.mono ?_
               rintro e w1 ⟨rfl, hl⟩
               have c01 := hl.cell0
               have hk : (r.tells { act0 with kind := 5, text := r.text }).state = 12 := HK1.out
               rw [hk] at c01
               have CR := Lib.hid (TOLD.out w1 (by rw [HTL.out]; exact hl))
               clear hl hk)
            | (go_at_call 56
               refine CR.out.mono ?_
               rintro e w2 ⟨rfl, hl2⟩
               have c02 := hl2.cell0
               have f02 := hl2.free 0
               have HL2 := Lib.hid hl2
               clear hl2))
          go_end0
          exact FN.out _ (HL2.out.st 1)
        · rw [if_neg k1] at htl
          have t1 := bne_f k1
          by_cases k2 : r.state = 11
          · rw [if_pos k2] at htl
            have hpar := HI.out.par (by omega) (by omega)
            have CL := Lib.hid (fun (W : World) (hf : Fr NoB w W) => rlisttell_any g { kind := 6, rune := 0, fin := r.fin, priv := r.priv, params := r.params, inter := r.inter, text := r.text } r F m1 W (HR.out.fr hf (fun _ _ => noB_no) (.inr fun _ _ => noB_no)) hpar.1 ho rfl)
            have HTL := Lib.hid htl
            have c2 : w.cell? ⟨g, 2, none⟩ = some (.int .u8 r.priv) := HR.out.blk.cell 2
            have c5 : w.cell? ⟨g, 5, none⟩ = some (.string r.inter) := HR.out.blk.cell 5
            have c7 : w.cell? ⟨g, 7, none⟩ = some (.int .u8 r.fin) := HR.out.blk.cell 7
            rw [k2] at c0
            clear htl hrep k1 k2 t1 hpar
            go_wp2_with fail
            go_region_held3 (fun w' => w'.cell? ⟨g, 2, none⟩ = some (.int .u8 r.priv) ∧ w'.cell? ⟨g, 5, none⟩ = some (.string r.inter) ∧ w'.cell? ⟨g, 6, none⟩ = some (.string r.text) ∧ w'.cell? ⟨g, 7, none⟩ = some (.int .u8 r.fin))
              (first | exact ⟨c2, c5, c6, c7⟩ | exact ⟨c22, c52, c62, c72⟩ | exact ⟨c23, c53, c63, c73⟩)
              (first
                | (go_at_call 55
                   refine (CL.out w.drew (Fr.refl _ _).drew).mono ?_
                   rintro e w1 ⟨A1, n1, k1, rfl, hf1, hc1⟩
                   have c22 : w1.cell? ⟨g, 2, none⟩ = some (.int .u8 r.priv) := hf1.cell_some (c2 : w.drew.cell? ⟨g, 2, none⟩ = some (.int .u8 r.priv)) noB_no
                   have c52 : w1.cell? ⟨g, 5, none⟩ = some (.string r.inter) := hf1.cell_some (c5 : w.drew.cell? ⟨g, 5, none⟩ = some (.string r.inter)) noB_no
                   have c62 : w1.cell? ⟨g, 6, none⟩ = some (.string r.text) := hf1.cell_some (c6 : w.drew.cell? ⟨g, 6, none⟩ = some (.string r.text)) noB_no
                   have c72 : w1.cell? ⟨g, 7, none⟩ = some (.int .u8 r.fin) := hf1.cell_some (c7 : w.drew.cell? ⟨g, 7, none⟩ = some (.int .u8 r.fin)) noB_no
                   have HC1 := Lib.hid hc1
                   clear hc1 hf1)
                | (go_at_call 46
                   refine HC1.out.mono ?_
                   rintro e w2 ⟨rfl, hl2⟩
                   have c23 : w2.cell? ⟨g, 2, none⟩ = some (.int .u8 r.priv) := by obtain ⟨F2, ⟨m2, h2⟩, _⟩ := hl2; exact h2.blk.cell 2
                   have c53 : w2.cell? ⟨g, 5, none⟩ = some (.string r.inter) := by obtain ⟨F2, ⟨m2, h2⟩, _⟩ := hl2; exact h2.blk.cell 5
                   have c63 : w2.cell? ⟨g, 6, none⟩ = some (.string r.text) := by obtain ⟨F2, ⟨m2, h2⟩, _⟩ := hl2; exact h2.blk.cell 6
                   have c73 : w2.cell? ⟨g, 7, none⟩ = some (.int .u8 r.fin) := by obtain ⟨F2, ⟨m2, h2⟩, _⟩ := hl2; exact h2.blk.cell 7
                   have CR := Lib.hid (TOLD.out w2 (by rw [HTL.out]; exact LeftR.trans (w1 := w.drew) (Fr.refl _ _).drew (fun _ h _ => h) hl2))
                   clear hl2))
            go_wp2_with
              (go_at_call 56
               refine CR.out.mono ?_
               rintro e w3 ⟨rfl, hl3⟩
               have c02 := hl3.cell0
               have f02 := hl3.free 0
               have HL3 := Lib.hid hl3
               clear hl3)
            go_end0
            exact FN.out _ (HL3.out.st 1)
          · rw [if_neg k2] at htl
            have t2 := bne_f k2
            have CR := Lib.hid (TOLD.out w (by rw [htl]; exact HL0.out))
            clear htl hrep k1 k2
            go_wp2_with
              (go_at_call 56
               refine CR.out.mono ?_
               rintro e w3 ⟨rfl, hl3⟩
               have c02 := hl3.cell0
               have f02 := hl3.free 0
               have HL3 := Lib.hid hl3
               clear hl3)
            go_end0
            exact FN.out _ (HL3.out.st 1)
      · have t1 := bne_f e1
        have t2 := bne_f e2
        have t3 := bne_f e3
        have fn := FIN.out
        rw [if_neg (by omega), if_neg e3] at fn
        clear FIN e1 e2 e3
        by_cases k1 : r.state = 12 ∨ r.state = 11
        · rw [if_pos k1] at fn
          have FN := Lib.hid fn
          have CX := Lib.hid (rintext_any g x r F w hrep ho hx)
          clear fn hrep
          rcases k1 with k1 | k1
          all_goals
            rw [k1] at c0
            clear k1
            go_wp2_with (go_at_call 57; refine CX.out.mono ?_; rintro e w1 ⟨rfl, hl⟩; have HL := Lib.hid hl; clear hl)
            go_end0
            exact FN.out _ HL.out
        · rw [if_neg k1] at fn
          have t4 := bne_f (show r.state ≠ 12 by omega)
          have t5 := bne_f (show r.state ≠ 11 by omega)
          by_cases k2 : 128 ≤ x
          · rw [if_pos (.inl k2)] at fn
            have FN := Lib.hid fn
            clear fn hrep k1
            first
              | (exfalso; omega)
              | (go_wp2
                 go_end0
                 exact FN.out _ HL0.out)
          · have k2' : x < 128 := by omega
            by_cases k3 : r.state = 13
            · rw [if_pos (.inr k3)] at fn
              have FN := Lib.hid fn
              rw [k3] at c0
              clear fn hrep k1 k2 k3 t4 t5
              go_wp2
              go_end0
              exact FN.out _ HL0.out
            · rw [if_neg (by omega)] at fn
              have t6 := bne_f k3
              by_cases k4 : x < 32
              · rw [if_pos k4] at fn
                have FN := Lib.hid fn
                have CX := Lib.hid (rcontrol_any g x r F w hrep ho)
                clear fn hrep k1 k2 k3
                go_wp2_with (go_at_call 58; refine CX.out.mono ?_; rintro e w1 ⟨rfl, hl⟩; have HL := Lib.hid hl; clear hl)
                go_end0
                exact FN.out _ HL.out
              · rw [if_neg k4] at fn
                have k4' : 32 ≤ x := by omega
                by_cases k5 : x = 127
                · rw [if_pos k5] at fn
                  have FN := Lib.hid fn
                  subst k5
                  clear fn hrep k1 k2 k3 k4
                  go_wp2
                  go_end0
                  exact FN.out _ HL0.out
                · rw [if_neg k5] at fn
                  have FN := Lib.hid fn
                  have t7 := bne_f k5
                  have CX := Lib.hid (rgraphic_any g x r F w N hrep HI.out (by omega) (by omega) (by omega))
                  clear fn hrep k1 k2 k3 k4 k5
                  go_wp2_with (go_at_call 59; refine CX.out.mono ?_; rintro e w1 ⟨rfl, hl⟩; have HL := Lib.hid hl; clear hl)
                  go_end0
                  exact FN.out _ HL.out
end Go.Proofs.YtopaeikddlpecaaDoor
