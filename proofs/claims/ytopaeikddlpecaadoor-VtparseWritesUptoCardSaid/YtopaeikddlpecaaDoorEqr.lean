/-
  Walks: vtparse.Same, lanyardref05.Param, lanyardref05.Same of whatever actions. Conditions: bounds on lengths.
-/
import Derived.Test.YtopaeikddlpecaaDoorEqf
import Derived.BigQuiet
namespace Go.Proofs.YtopaeikddlpecaaDoor
open Go.RowKit

theorem vsame_any (ps qs : List PAct) (R1 R2 : Nat → Prop) (A B : Option Addr) (n m c d : Nat) (w : World) (h1 : ActsIn w R1 A n ps) (h2 : ActsIn w R2 B m qs) (hn : n ≤ 67108864) (hm : m ≤ 67108864) (hps : Short ps) (hqs : Short qs) :
    Calls Tryd.prog 25 #[.slice A n c, .slice B m d] w fun e w' => e = .returned (.bool (sameL ps qs)) ∧ Fr NoB w w' := by
  have CE := Lib.hid (eqfunc_any ps qs R1 R2 A B n m c d w h1 h2 hn hm hps hqs)
  clear h1 h2 hps hqs
  go_enter Tryd.func25, Tryd.ntmps25
  go_wp2_with
    (go_at_call 38
     refine CE.out.mono ?_
     rintro e w1 ⟨rfl, hf1⟩)
  go_ret
  exact ⟨rfl, hf1⟩

set_option maxHeartbeats 1600000 in
theorem rparam_any (p : PAct) (A : Option Addr) (n k : Nat) (i other : Int) (R : Nat → Prop) (w : World) (hr : Rd w R 1 A n (ints p.params)) :
    Calls Tryd.prog 24 #[.agg #[.int .i64 p.kind, .int .i32 p.rune, .int .u8 p.fin, .int .u8 p.priv, .slice A n k, .string p.inter, .string p.text], .int .i64 i, .int .i64 other] w fun e w' => e = .returned (.int .i64 (paramP p.params i other)) ∧ Fr NoB w w' := by
  have hpn : p.params.length = n := by have := hr.1; rw [ints_length] at this; omega
  have hv : paramP p.params i other = paramP p.params i other := rfl
  conv at hv => rhs; unfold paramP
  rw [hpn] at hv
  generalize paramP p.params i other = v at *
  have HV := Lib.hid hv
  have HRD := Lib.hid hr
  clear hv hr
  rcases (by omega : i < 0 ∨ (n : Int) ≤ i ∨ (0 ≤ i ∧ i < n)) with h0 | h0 | ⟨h0, h1⟩
  · have h2 := HV.out
    rw [if_pos h0] at h2
    rw [h2]
    clear h2 hpn
    go_enter Tryd.func24, Tryd.ntmps24
    go_wp2
    go_ret
    exact ⟨rfl, (Fr.refl _ _).alloc _⟩
  · have h2 := HV.out
    rw [if_neg (by omega), if_pos h0] at h2
    rw [h2]
    have h3 : 0 ≤ i := by omega
    clear h2 hpn
    go_enter Tryd.func24, Tryd.ntmps24
    go_wp2
    go_ret
    exact ⟨rfl, (Fr.refl _ _).alloc _⟩
  · obtain ⟨j, rfl⟩ := Int.eq_ofNat_of_zero_le h0
    have hj : j < n := by omega
    obtain ⟨g, o, u, hA, lt, hu, hc⟩ := HRD.out.at_ hj
    rw [ints_at (by omega)] at hu
    injection hu with hu
    subst hu
    subst hA
    have h2 := HV.out
    rw [if_neg (by omega), if_neg (by omega), Int.toNat_natCast] at h2
    generalize p.params.getD j 0 = x at *
    have H2 := Lib.hid h2
    clear h2 hpn HV
    by_cases k1 : x = -1
    · have h2 := H2.out
      rw [if_pos k1] at h2
      rw [h2]
      subst k1
      clear h2 H2
      go_enter Tryd.func24, Tryd.ntmps24
      go_wp2
      go_ret
      exact ⟨rfl, (Fr.refl _ _).alloc _⟩
    · by_cases k2 : x = 0
      · have h2 := H2.out
        rw [if_neg k1, if_pos k2] at h2
        rw [h2]
        subst k2
        clear h2 H2 k1
        go_enter Tryd.func24, Tryd.ntmps24
        go_wp2
        go_ret
        exact ⟨rfl, (Fr.refl _ _).alloc _⟩
      · have h2 := H2.out
        rw [if_neg k1, if_neg k2] at h2
        rw [h2]
        have t1 := bne_f k1
        have t2 := bne_f k2
        clear h2 H2 k1 k2
        go_enter Tryd.func24, Tryd.ntmps24
        go_wp2
        go_ret
        exact ⟨rfl, (Fr.refl _ _).alloc _⟩


set_option maxHeartbeats 6400000 in
set_option maxRecDepth 100000 in
theorem rsame_any (ps qs : List PAct) (R1 R2 : Nat → Prop) (A B : Option Addr) (n m c d : Nat) (w : World) (h1 : ActsIn w R1 A n ps) (h2 : ActsIn w R2 B m qs) (hn : n ≤ 67108864) (hm : m ≤ 67108864) (hps : Short ps) (hqs : Short qs) :
    Calls Tryd.prog 13 #[.slice A n c, .slice B m d] w fun e w' => e = .returned (.bool (sameL ps qs)) ∧ Fr NoB w w' := by
  have hl : ps.length = n := h1.1.symm
  have hr : qs.length = m := h2.1.symm
  by_cases hnm : n = m
  · subst hnm
    have H1 := Lib.hid h1
    have H2 := Lib.hid h2
    have HL := Lib.hid hl
    have HR := Lib.hid hr
    have HPS := Lib.hid hps
    have HQS := Lib.hid hqs
    clear h1 h2 hl hr hm hps hqs
    go_enter Tryd.func13, Tryd.ntmps13
    go_wp2
    go_loopw [5] (fun i wr => ∃ k : Nat, k ≤ n ∧ i = .int .i64 k ∧ Fr NoB w wr ∧ ∀ j, j < k → eqA (ps.getD j act0) (qs.getD j act0) = true) (fun i _ => n - (intOf i).toNat)
    case atStart => exact ⟨0, Nat.zero_le _, rfl, Fr.refl _ _, fun j hj => by omega⟩
    case round =>
      obtain ⟨k, hk, rfl, hf, he⟩ := hrel
      have HF := Lib.hid hf
      have HE := Lib.hid he
      clear hf he
      by_cases hlt : k < n
      · have hlt' : (k : Int) < (n : Int) := by omega
        have hkp : k < ps.length := by rw [HL.out]; exact hlt
        have hkq : k < qs.length := by rw [HR.out]; exact hlt
        obtain ⟨ga, oa, A', n', k', rfl, _, lta, hrd, _, c0, c1', c2, c3, c4, c5, c6⟩ := (H1.out.fr HF.out fun _ _ => noB_no).at_ (j := k) (List.getElem?_eq_getElem hkp)
        obtain ⟨gb, ob, B', m', l', rfl, _, ltb, hrb, _, d0, d1', d2, d3, d4, d5, d6⟩ := (H2.out.fr HF.out fun _ _ => noB_no).at_ (j := k) (List.getElem?_eq_getElem hkq)
        have p1 := HPS.out ps[k] (List.getElem_mem hkp)
        have p2 := HQS.out qs[k] (List.getElem_mem hkq)
        have g1 : ps.getD k act0 = ps[k] := by simp [List.getD_eq_getElem?_getD, hkp]
        have g2 : qs.getD k act0 = qs[k] := by simp [List.getD_eq_getElem?_getD, hkq]
        generalize ps[k] = x at *
        generalize qs[k] = y at *
        have hxn : x.params.length = n' := by have := hrd.1; rw [ints_length] at this; omega
        have hyn : y.params.length = m' := by have := hrb.1; rw [ints_length] at this; omega
        have hn'4 : n' ≤ 67108864 := by omega
        have hm'4 : m' ≤ 67108864 := by omega
        have HRD := Lib.hid hrd
        have HRB := Lib.hid hrb
        have HXN := Lib.hid hxn
        have HYN := Lib.hid hyn
        -- what is left to show in the ways out
        have hno : eqA x y = false → sameL ps qs = false := fun h => sameL_no hkp (by rw [g1, g2]; exact h)
        have hyes : eqA x y = true → ∀ j, j < k + 1 → eqA (ps.getD j act0) (qs.getD j act0) = true := fun h j hj => by
          rcases (by omega : j < k ∨ j = k) with h' | rfl
          · exact HE.out j h'
          · rw [g1, g2]; exact h
        have HNO := Lib.hid hno
        have HYES := Lib.hid hyes
        clear hrd hrb hxn hyn g1 g2 p1 p2 hno hyes
        obtain ⟨wo, rfl⟩ : ∃ wo : World, wo = wr := ⟨_, rfl⟩
        go_upto_region 6 with (fail)
        go_cut [6, 7] (fun v6 v7 wx => ∃ g6 g7, v6 = .pointer (some ⟨g6, 0, none⟩) ∧ v7 = .pointer (some ⟨g7, 0, none⟩) ∧ Fr NoB wo wx ∧ ActAt wx g6 x A' n' k' ∧ ActAt wx g7 y B' m' l')
        case first =>
          go_region
          all_goals
            go_wp2
            go_meet
          case rel =>
            first
              | exact ⟨_, _, rfl, rfl, (((Fr.refl _ _).alloc _).alloc _).drew, ⟨by simp <;> omega, fun i => new_first _ _ _ _ _ i⟩, ⟨by simp <;> omega, fun i => new_second _ _ _ _ _ i⟩⟩
              | exact ⟨_, _, rfl, rfl, (((Fr.refl _ _).alloc _).alloc _).drew, ⟨by simp <;> omega, fun i => new_second _ _ _ _ _ i⟩, ⟨by simp <;> omega, fun i => new_first _ _ _ _ _ i⟩⟩
          case rel =>
            first
              | exact ⟨_, _, rfl, rfl, (((Fr.refl _ _).alloc _).alloc _).drew, ⟨by simp <;> omega, fun i => new_first _ _ _ _ _ i⟩, ⟨by simp <;> omega, fun i => new_second _ _ _ _ _ i⟩⟩
              | exact ⟨_, _, rfl, rfl, (((Fr.refl _ _).alloc _).alloc _).drew, ⟨by simp <;> omega, fun i => new_second _ _ _ _ _ i⟩, ⟨by simp <;> omega, fun i => new_first _ _ _ _ _ i⟩⟩
        case rest =>
          obtain ⟨g6, g7, rfl, rfl, hfx, a6, a7⟩ := hcut
          clear c0 c1' c2 c3 c4 c5 c6 d0 d1' d2 d3 d4 d5 d6
          have HFX := Lib.hid hfx
          have A6 := Lib.hid a6
          have A7 := Lib.hid a7
          have l6 := a6.1
          have l7 := a7.1
          clear hfx a6 a7
          have hfin : ∀ W : World, Fr NoB wc W → Fr NoB w W := fun W h => (HF.out.trans HFX.out fun _ _ h => h).trans h fun _ _ h => h
          have HFIN := Lib.hid hfin
          have hv : eqA x y = eqA x y := rfl
          conv at hv => rhs; unfold eqA
          generalize eqA x y = v at *
          obtain ⟨x0, x1, x2, x3, xp, x5, x6⟩ := x
          obtain ⟨y0, y1, y2, y3, yp, y5, y6⟩ := y
          have HV := Lib.hid hv
          clear hv hfin
          have c0 : wc.cell? ⟨g6, 0, none⟩ = some (.int .i64 x0) := A6.out.2 0
          have c1 : wc.cell? ⟨g6, 1, none⟩ = some (.int .i32 x1) := A6.out.2 1
          have c2 : wc.cell? ⟨g6, 2, none⟩ = some (.int .u8 x2) := A6.out.2 2
          have c3 : wc.cell? ⟨g6, 3, none⟩ = some (.int .u8 x3) := A6.out.2 3
          have c4 : wc.cell? ⟨g6, 4, none⟩ = some (.slice A' n' k') := A6.out.2 4
          have c5 : wc.cell? ⟨g6, 5, none⟩ = some (.string x5) := A6.out.2 5
          have c6 : wc.cell? ⟨g6, 6, none⟩ = some (.string x6) := A6.out.2 6
          have d0 : wc.cell? ⟨g7, 0, none⟩ = some (.int .i64 y0) := A7.out.2 0
          have d1 : wc.cell? ⟨g7, 1, none⟩ = some (.int .i32 y1) := A7.out.2 1
          have d2 : wc.cell? ⟨g7, 2, none⟩ = some (.int .u8 y2) := A7.out.2 2
          have d3 : wc.cell? ⟨g7, 3, none⟩ = some (.int .u8 y3) := A7.out.2 3
          have d4 : wc.cell? ⟨g7, 4, none⟩ = some (.slice B' m' l') := A7.out.2 4
          have d5 : wc.cell? ⟨g7, 5, none⟩ = some (.string y5) := A7.out.2 5
          have d6 : wc.cell? ⟨g7, 6, none⟩ = some (.string y6) := A7.out.2 6
          have c7 : wc.cell? ⟨g6, 4, none⟩ = some (.slice A' n' k') := c4
          have d7 : wc.cell? ⟨g7, 4, none⟩ = some (.slice B' m' l') := d4
          clear c7 d7
          by_cases e0 : x0 = y0
          · subst e0
            by_cases e1 : x1 = y1
            · subst e1
              by_cases e2 : x2 = y2
              · subst e2
                by_cases e3 : x3 = y3
                · subst e3
                  by_cases e5 : x5 = y5
                  · subst e5
                    by_cases e6 : x6 = y6
                    · subst e6
                      by_cases en : n' = m'
                      · subst en
                        have hvv : v = decide (xp = yp) := by rw [HV.out]; simp
                        have HVV := Lib.hid hvv
                        clear hvv HV
                        go_wp2
                        clear c0 c1 c2 c3 c4 c5 c6 d0 d1 d2 d3 d4 d5 d6
                        obtain ⟨wo2, rfl⟩ : ∃ wo2 : World, wo2 = wc := ⟨_, rfl⟩
                        go_loopw [8] (fun i wr2 => ∃ j : Nat, j ≤ n' ∧ i = .int .i64 j ∧ Fr NoB wo2 wr2 ∧ ∀ i, i < j → xp.getD i 0 = yp.getD i 0) (fun i _ => n' - (intOf i).toNat)
                        case atStart => exact ⟨0, Nat.zero_le _, rfl, Fr.refl _ _, fun i hi => by omega⟩
                        case round =>
                          obtain ⟨j, hj, rfl, hfj, hej⟩ := hrel
                          have q6 : wr.cell? ⟨g6, 4, none⟩ = some (.slice A' n' k') := (hfj.cell_some (A6.out.2 4) noB_no)
                          have q7 : wr.cell? ⟨g7, 4, none⟩ = some (.slice B' n' l') := (hfj.cell_some (A7.out.2 4) noB_no)
                          have HFJ := Lib.hid (HFX.out.trans hfj fun _ _ h => h)
                          have HFJ2 := Lib.hid hfj
                          have HEJ := Lib.hid hej
                          clear hfj hej
                          by_cases hlj : j < n'
                          · have hlj' : (j : Int) < (n' : Int) := by omega
                            obtain ⟨g1, o1, u, hA, lt1, hu, e1⟩ := (HRD.out.fr HFJ.out fun _ _ => noB_no).at_ hlj
                            rw [ints_at (by rw [HXN.out]; exact hlj)] at hu
                            injection hu with hu
                            subst hu
                            obtain ⟨g2, o2, u, hB, lt2, hu, e2⟩ := (HRB.out.fr HFJ.out fun _ _ => noB_no).at_ hlj
                            rw [ints_at (by rw [HYN.out]; exact hlj)] at hu
                            injection hu with hu
                            subst hu
                            generalize hx : xp.getD j 0 = p at *
                            generalize hy : yp.getD j 0 = q at *
                            have HX := Lib.hid hx
                            have HY := Lib.hid hy
                            clear hx hy
                            subst hA hB
                            by_cases hpq : p = q
                            · subst hpq
                              go_wp2
                              go_quiet (fail)
                              go_wp2
                              refine ⟨⟨j + 1, by omega, by go_num, HFJ2.out.drewN _, fun i hi => ?_⟩, by simp [intOf]; omega⟩
                              rcases (by omega : i < j ∨ i = j) with h | rfl
                              · exact HEJ.out i h
                              · rw [HX.out, HY.out]
                            · have t1 := neT hpq
                              have t2 := bne_f hpq
                              have HPQ := Lib.hid hpq
                              clear hpq
                              go_wp2
                              go_quiet (fail)
                              go_wp2
                              go_ret
                              refine ⟨?_, HFIN.out _ (HFJ2.out.drewN _)⟩
                              have hne : ¬ xp = yp := fun e => HPQ.out (by rw [← HX.out, ← HY.out, e])
                              rw [HNO.out (by rw [HVV.out]; simp [hne])]
                              rfl
                          · have hlj' : (n' : Int) ≤ (j : Int) := by omega
                            go_wp2
                            have heq : xp = yp := List.ext_getElem (HXN.out.trans HYN.out.symm) fun i h1 h2 => by
                              have := HEJ.out i (by have q1 := HXN.out; omega)
                              simpa [List.getD_eq_getElem?_getD, h1, h2] using this
                            exact ⟨⟨k + 1, by omega, by go_num, HFIN.out _ HFJ2.out, HYES.out (by rw [HVV.out]; simp [heq])⟩, by simp [intOf]; omega⟩
                      · have t1 : ((n' : Int) != (m' : Int)) = true := neT (by omega)
                        have t2 : ((n' : Int) == (m' : Int)) = false := bne_f (by omega)
                        have hne : ¬ xp = yp := fun e => en (by have h1 := HXN.out; have h2 := HYN.out; rw [← h1, ← h2, e])
                        have hvv : v = false := by rw [HV.out]; simp [hne]
                        have HS := Lib.hid (HNO.out hvv)
                        clear hvv HV en hne
                        go_wp2
                        go_ret
                        exact ⟨by rw [HS.out]; rfl, HFIN.out _ (Fr.refl _ _)⟩
                    · have t1 := str_ne e6
                      have hvv : v = false := by rw [HV.out]; simp [e6]
                      have HS := Lib.hid (HNO.out hvv)
                      clear hvv HV e6
                      go_wp2
                      go_ret
                      exact ⟨by rw [HS.out]; rfl, HFIN.out _ (Fr.refl _ _)⟩
                  · have t1 := str_ne e5
                    have hvv : v = false := by rw [HV.out]; simp [e5]
                    have HS := Lib.hid (HNO.out hvv)
                    clear hvv HV e5
                    go_wp2
                    go_ret
                    exact ⟨by rw [HS.out]; rfl, HFIN.out _ (Fr.refl _ _)⟩
                · have t1 := bne_f e3
                  have t2 := neT e3
                  have hvv : v = false := by rw [HV.out]; simp [e3]
                  have HS := Lib.hid (HNO.out hvv)
                  clear hvv HV e3
                  go_wp2
                  go_ret
                  exact ⟨by rw [HS.out]; rfl, HFIN.out _ (Fr.refl _ _)⟩
              · have t1 := bne_f e2
                have t2 := neT e2
                have hvv : v = false := by rw [HV.out]; simp [e2]
                have HS := Lib.hid (HNO.out hvv)
                clear hvv HV e2
                go_wp2
                go_ret
                exact ⟨by rw [HS.out]; rfl, HFIN.out _ (Fr.refl _ _)⟩
            · have t1 := bne_f e1
              have t2 := neT e1
              have hvv : v = false := by rw [HV.out]; simp [e1]
              have HS := Lib.hid (HNO.out hvv)
              clear hvv HV e1
              go_wp2
              go_ret
              exact ⟨by rw [HS.out]; rfl, HFIN.out _ (Fr.refl _ _)⟩
          · have t1 := bne_f e0
            have t2 := neT e0
            have hvv : v = false := by rw [HV.out]; simp [e0]
            have HS := Lib.hid (HNO.out hvv)
            clear hvv HV e0
            go_wp2
            go_ret
            exact ⟨by rw [HS.out]; rfl, HFIN.out _ (Fr.refl _ _)⟩
      · have hlt' : (n : Int) ≤ (k : Int) := by omega
        go_wp2
        go_ret
        refine ⟨?_, HF.out⟩
        rw [sameL_yes (by rw [HL.out, HR.out]) fun j hj => HE.out j (by rw [HL.out] at hj; omega)]
        rfl
  · have hlr := sameL_len (ps := ps) (qs := qs) (by omega)
    have t1 : ((n : Int) != (m : Int)) = true := neT (by omega)
    have t2 : ((n : Int) == (m : Int)) = false := bne_f (by omega)
    have HLR := Lib.hid hlr
    clear h1 h2 hl hr hlr hnm
    go_enter Tryd.func13, Tryd.ntmps13
    go_wp2
    go_ret
    exact ⟨by rw [HLR.out]; rfl, Fr.refl _ _⟩
end Go.Proofs.YtopaeikddlpecaaDoor
