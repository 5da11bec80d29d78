/-
  Walks of the document's decoder inside its parser: Decoder.Put, Decoder.Flush. Conditions: fewer than 67108864 bytes.
-/
import Derived.Test.YtopaeikddlpecaaDoorRe
namespace Go.Proofs.YtopaeikddlpecaaDoor
open Go.RowKit

/-- what Put leaves: g is the parser's block, cs its cells -/
def DPutP (w : World) (g : Nat) (cs : Array Value) (A : Option Addr) (l : List Int) (e : Ending) (w' : World) : Prop :=
  ∃ A2 n2 c2 A3 n3 c3, e = .returned (.slice A2 n2 c2) ∧ Sl w' (NewB w) 21 1 A2 n2 c2 (runes (decLoop l).1) ∧ Blk w' g 59 (cs.setIfInBounds 1 (.slice A3 n3 c3)) ∧
    Sl w' (Own A3) 5 1 A3 n3 c3 (byts (decLoop l).2) ∧ (∀ k, Own A3 k → k < w.heap.size → Own A k) ∧ Fr (fun k => k = g ∨ Own A k) w w'

def DRel (w : World) (g : Nat) (cs : Array Value) (A : Option Addr) (L : List Int) (v5 : Value) (wr : World) : Prop :=
  ∃ A2 n2 c2 A3 n3 c3 rest done, v5 = .slice A2 n2 c2 ∧ Sl wr (NewB w) 21 1 A2 n2 c2 (runes done) ∧ Blk wr g 59 (cs.setIfInBounds 1 (.slice A3 n3 c3)) ∧
    Sl wr (Own A3) 5 1 A3 n3 c3 (byts rest) ∧ (∀ k, Own A3 k → k < w.heap.size → Own A k) ∧ Fr (fun k => k = g ∨ Own A k) w wr ∧ (done ++ (decLoop rest).1, (decLoop rest).2) = decLoop L ∧ Byts rest ∧ n2 + rest.length ≤ 67108864

theorem set_set1 (cs : Array Value) (x y : Value) : (cs.setIfInBounds 1 x).setIfInBounds 1 y = cs.setIfInBounds 1 y := by
  apply Array.ext_getElem?
  intro i
  simp only [Array.getElem?_setIfInBounds]
  split <;> simp_all

set_option maxHeartbeats 6400000 in
set_option maxRecDepth 100000 in
theorem dput_any (g : Nat) (cs : Array Value) (hcs : 1 < cs.size) (A : Option Addr) (n c : Nat) (l bs : List Int) (R : Nat → Prop) (B : Option Addr) (m c2 : Nat) (w : World) (hb : Blk w g 59 cs) (h1 : cs[1]? = some (.slice A n c))
    (hs : Sl w (Own A) 5 1 A n c (byts l)) (hr : Rd w R 1 B m (byts bs)) (hn : l.length + m ≤ 67108864) (hB : Byts l) (hB2 : Byts bs) :
    Calls Tryd.prog 54 #[.pointer (some ⟨g, 1, none⟩), .slice B m c2] w (DPutP w g cs A (l ++ bs)) := by
  have c1 : w.cell? ⟨g, 1, none⟩ = some (.slice A n c) := (hb.cell 1).trans h1
  have lt := hb.lt
  have hln : l.length = n := by have := hs.1; rw [byts_length] at this; omega
  have hbm : bs.length = m := by have := hr.1; rw [byts_length] at this; omega
  have hno : ¬ Own A g := fun hk => Free.own hs (e := 59) (by decide) _ hk _ _ hb
  have HBK := Lib.hid hb
  have HB := Lib.hid (hB.append hB2)
  have HS := Lib.hid hs
  have HR := Lib.hid hr
  have HNO := Lib.hid hno
  have HCS := Lib.hid hcs
  clear hb hB hB2 hs hr hno hcs h1
  obtain ⟨i5, hi5, hz5⟩ := Option.map_eq_some_iff.1 byte_info
  simp only [Prod.mk.injEq] at hz5
  have HI5 := Lib.hid hi5
  have HZ5 := Lib.hid hz5
  clear hi5 hz5
  have hnm : n + m ≤ 67108864 := by omega
  have HLN := Lib.hid hln
  have HBM := Lib.hid hbm
  clear hln hbm
  go_enter Tryd.func54, Tryd.ntmps54
  go_wp2_with
    (at_builtin
     refine wpList_append_sl w rfl (.tmp 12) (.tmp 13) _ rfl 5 _ 1 1 Tryd.underlying22 byte_info rfl (by omega) rfl rfl HS.out HR.out byts_one (by simp only [maxLen]; omega) (by omega) ?_
     intro A1 n1 w1 hf1 hs1 hA1
     have HB1 := Lib.hid (HBK.out.fr hf1 HNO.out)
     have d1 : w1.cell? ⟨g, 1, none⟩ = some (.slice A n c) := (hf1.cell_some c1 HNO.out)
     have e1 : w1.frozen? ⟨g, 1, none⟩ = false := HB1.out.frozen 1
     have HS1 := Lib.hid hs1
     have HF1 := Lib.hid hf1
     have HA1 := Lib.hid hA1
     clear hs1 hf1 hA1)
  go_loopw [5] (fun v5 wr => DRel w g cs A (l ++ bs) v5 wr) (fun _ wr => lenAt wr ⟨g, 1, none⟩)
  case atStart =>
    have hne : ∀ k, Own A1 k → k ≠ g := by
      rintro k hk rfl
      exact Free.own HS1.out (e := 59) (by decide) _ hk _ _ HB1.out
    refine ⟨none, 0, 0, A1, n + m, n1, l ++ bs, [], rfl, Sl.nil _ _ _ _, HB1.out.put 1 _, ?_, ?_, ?_, rfl, HB.out, ?_⟩
    · rw [byts_append]
      exact HS1.out.far (p := ⟨g, 1, none⟩) (fun hk => hne _ hk rfl) _
    · intro k hk hlt
      rcases HA1.out with h | h
      · subst h; exact hk
      · have := own_eq h hk; omega
    · exact (HF1.out.mono fun k _ hk => .inr hk).trans ((Fr.refl (· = g) w1).setCell (p := ⟨g, 1, none⟩) (fun _ => rfl) _) (by rintro i _ rfl; exact .inl rfl)
    · rw [List.length_append, HLN.out, HBM.out]; omega
  case round =>
    obtain ⟨A2, n2, c3, A3, n3, c4, rest, done, rfl, hs2, hb3, hs3, hAo, hf, he, hbr, hsz⟩ := hrel
    have c11 : wr.cell? ⟨g, 1, none⟩ = some (.slice A3 n3 c4) := by rw [hb3.cell 1, Array.getElem?_setIfInBounds, if_pos rfl, if_pos HCS.out]
    have f11 : wr.frozen? ⟨g, 1, none⟩ = false := hb3.frozen 1
    have hl3 : rest.length = n3 := by have := hs3.1; rw [byts_length] at this; omega
    have hdn : done.length = n2 := by have := hs2.1; rw [runes_length] at this; omega
    have hle3 := hs3.le
    have hrn : n3 + n2 ≤ 67108864 := by omega
    have hlt0 := HBK.out.lt
    have hfin : (decLoop rest).1 = [] → ∀ w1, Fr NoB wr w1 → DPutP w g cs A (l ++ bs) (.returned (.slice A2 n2 c3)) w1 ∨ (decLoop rest).2 ≠ rest := fun hd w1 hf1 => by
      by_cases h2 : (decLoop rest).2 = rest
      · left
        rw [hd, h2, List.append_nil] at he
        refine ⟨A2, n2, c3, A3, n3, c4, rfl, ?_, hb3.fr hf1 noB_no, ?_, hAo, hf.trans hf1 fun _ _ h => h.elim⟩
        · rw [← he]; exact hs2.fr hf1 fun _ _ => noB_no
        · rw [← he]; exact hs3.fr hf1 fun _ _ => noB_no
      · exact .inr h2
    have next : ∀ (r : Int) (m0 : Nat) (A5 A6 : Option Addr) (c6 : Nat) (w2 w3 : World), decLoop rest = (r :: (decLoop (rest.drop m0)).1, (decLoop (rest.drop m0)).2) → 1 ≤ m0 → m0 ≤ n3 → Fr NoB wr w2 → Fr (Own A2) w2 w3 →
        (∀ (w : World) (F : Nat → Prop) (xs : List Value), Sl w F 5 1 A3 n3 c4 xs → Sl w F 5 1 A5 (n3 - m0) (c4 - m0) (xs.drop (m0 * 1))) →
        Sl w3 (Own A6) 21 1 A6 (n2 + 1) c6 (runes done ++ [.int .i32 r]) → (A6 = A2 ∨ ∃ g, A6 = some ⟨g, 0, none⟩ ∧ w2.heap.size ≤ g) →
        DRel w g cs A (l ++ bs) (.slice A6 (n2 + 1) c6) (w3.setCell ⟨g, 1, none⟩ (.slice A5 (n3 - m0) (c4 - m0))) ∧ lenAt (w3.setCell ⟨g, 1, none⟩ (.slice A5 (n3 - m0) (c4 - m0))) ⟨g, 1, none⟩ < lenAt wr ⟨g, 1, none⟩ := fun r m0 A5 A6 c6 w2 w3 hd h1 h2 hf2 hf3 hcut hs6 hA6 => by
      have z1 := hf.size
      have z2 := hf2.size
      have z3 := hf3.size
      have hin : ∀ k, Own A2 k → NewB w k := fun k hk => hs2.inF hk
      have hs2' := hs2.fr hf2 (G := NoB) fun _ _ => noB_no
      have hb2 := hb3.fr hf2 noB_no
      have hb6 := hb2.carry hf3 (Free.own hs2' (by decide))
      have s3 : Sl w3 (Own A3) 5 1 A3 n3 c4 (byts rest) := (hs3.fr hf2 (G := NoB) fun _ _ => noB_no).carry hf3 (Free.own hs2' (by decide))
      have s4 := hcut w3 _ _ s3
      have hbp := hb6.put 1 (.slice A5 (n3 - m0) (c4 - m0))
      rw [set_set1] at hbp
      have hnew : ¬ NewB w g := by unfold NewB; omega
      have hg3 : ∀ k, Own A5 k → k ≠ g := by
        rintro k hk rfl
        exact Free.own s4 (e := 59) (by decide) _ hk _ _ hb6
      refine ⟨⟨A6, n2 + 1, c6, A5, n3 - m0, c4 - m0, rest.drop m0, done ++ [r], rfl, ?_, hbp, ?_, fun k hk hlt => hAo k (s4.inF hk) hlt, ?_, ?_, hbr.drop m0, ?_⟩, ?_⟩
      · rw [runes_append]
        exact (hs6.mono (own_after hin hA6 fun k hk => by unfold NewB; omega)).far (p := ⟨g, 1, none⟩) hnew _
      · have h5 := s4.only.far (p := ⟨g, 1, none⟩) (fun hk => hg3 _ hk rfl) (.slice A5 (n3 - m0) (c4 - m0))
        have e5 : (byts rest).drop (m0 * 1) = byts (rest.drop m0) := by simp [byts]
        rw [e5] at h5
        exact h5
      · refine ((hf.trans hf2 fun _ _ h => h.elim).trans hf3 fun k hk ho => ?_).trans ((Fr.refl (· = g) w3).setCell (p := ⟨g, 1, none⟩) (fun _ => rfl) _) (by rintro i _ rfl; exact .inl rfl)
        have := hin k ho
        unfold NewB at this
        omega
      · rw [hd] at he
        rw [← he, List.append_assoc]
        rfl
      · rw [List.length_drop]; omega
      · rw [lenAt_of (v := .slice A5 (n3 - m0) (c4 - m0)) (by rw [hbp.cell 1, Array.getElem?_setIfInBounds, if_pos rfl, if_pos HCS.out]), lenAt_of c11]
        simp only [lenV]
        omega
    have mid : ∀ (w2 w3 : World), Fr NoB wr w2 → Fr (Own A2) w2 w3 → w3.cell? ⟨g, 1, none⟩ = some (.slice A3 n3 c4) ∧ w3.frozen? ⟨g, 1, none⟩ = false := fun w2 w3 hf2 hf3 => by
      have hb6 := (hb3.fr hf2 noB_no).carry hf3 (Free.own (hs2.fr hf2 (G := NoB) fun _ _ => noB_no) (by decide))
      exact ⟨by rw [hb6.cell 1, Array.getElem?_setIfInBounds, if_pos rfl, if_pos HCS.out], hb6.frozen 1⟩
    have MID := Lib.hid mid
    have NX := Lib.hid next
    have HFIN := Lib.hid hfin
    have H2 := Lib.hid hs2
    have H3 := Lib.hid hs3.rd
    have HBR := Lib.hid hbr
    have HL3 := Lib.hid hl3
    have HB3 := Lib.hid hb3
    rcases Nat.eq_zero_or_pos n3 with h0 | h0
    · have hr0 : rest = [] := List.eq_nil_of_length_eq_zero (by rw [hl3, h0])
      have HR0 := Lib.hid hr0
      clear hr0 hs2 hb3 hs3 hAo hf he hbr hl3 hdn hfin next mid
      subst h0
      go_wp2
      go_ret
      have := HFIN.out (by rw [HR0.out, decLoop_nil]) wr (Fr.refl _ _)
      rw [HR0.out, decLoop_nil] at this
      exact this.resolve_right (fun h => h rfl)
    · have hne : rest ≠ [] := by intro h; rw [h] at hl3; simp at hl3; omega
      have CH := Lib.hid (fun (W : World) (hf : Fr NoB wr W) => head_any A3 n3 c4 rest _ W (hs3.rd.fr hf fun _ _ => noB_no) (by omega) hbr)
      have hsays := head_says rest hne hbr
      have HFULL := Lib.hid (decLoop_full rest hne)
      have HSTOP := Lib.hid (decLoop_stop rest hne)
      clear hs2 hb3 hs3 hAo hf he hbr hdn hfin next mid hne
      rcases hsays with ⟨m0, e1, g1, g2, g3, hfu, g4, g5⟩ | ⟨N, e1, g1, hfu, _, _⟩ | ⟨N, e1, g1, hfu, g4, g5⟩
      · rw [e1] at CH
        have hd := HFULL.out hfu
        rw [g4, g5] at hd
        have HD := Lib.hid hd
        have g2' : m0 ≤ n3 := by omega
        obtain ⟨A5, hcut, _, hsl5⟩ := cut_lo (P := Tryd.prog) 22 5 Tryd.underlying22 HI5.out 1 HZ5.out.2.1 A3 n3 c4 m0 g2' hle3.1
        have hhi := cut_hi (P := Tryd.prog) 22 5 Tryd.underlying22 HI5.out A3 n3 c4 m0 (by omega)
        have H5 := Lib.hid hsl5
        have HM := Lib.hid g1
        have CV := Lib.hid (fun (W : World) (hf : Fr NoB wr W) => value_any A3 m0 c4 (rest.take m0) _ W ((by simpa [byts] using (H3.out.take (k := m0) (by omega)) : Rd wr _ 1 A3 m0 (byts (rest.take m0))).fr hf fun _ _ => noB_no) ⟨g1, g3⟩ (fun j => by
          have := HBR.out j
          simp only [List.getD_eq_getElem?_getD, List.getElem?_take] at this ⊢
          split
          · exact this
          · simp))
        have hm0 : (0 : Int) < (m0 : Int) := by omega
        generalize valB (rest.take m0) = r at *
        clear e1 hsl5 g4 g5 g2 g3 g1 hd hfu HSTOP HFULL
        go_wp2_with (first
          | (go_at_call 64
             refine (CH.out wr (Fr.refl _ _)).mono ?_
             rintro e w1 ⟨rfl, hf1⟩
             have HF1 := Lib.hid hf1
             have d11 : w1.cell? ⟨g, 1, none⟩ = some (.slice A3 n3 c4) := hf1.cell_some c11 noB_no
             clear hf1)
          | (go_at_call 65
             refine (CV.out w1 HF1.out).mono ?_
             rintro e w2 ⟨rfl, hf2⟩
             have HF2 := Lib.hid (HF1.out.trans hf2 fun _ _ h => h)
             have HS2 := Lib.hid (H2.out.fr HF2.out fun _ _ => noB_no)
             clear hf2)
          | (at_builtin
             refine wpList_append_box w2 rfl (.tmp 50) (.tmp 58) _ rfl 21 _ 1 4 Tryd.underlying37 rune_info rfl (by omega) rfl rfl HS2.out rfl ?c1 (by omega) (by omega) ?_
             case c1 => simp [Value.oneCell']
             intro A6 c6 w3 hf3 hs6 hA6
             obtain ⟨d61, f61⟩ := MID.out w2 w3 HF2.out hf3
             have HN := Lib.hid (NX.out r m0 A5 A6 c6 w2 w3 HD.out HM.out g2' HF2.out hf3 H5.out hs6 hA6)
             clear hf3 hs6 hA6))
        exact HN.out
      · rw [e1] at CH
        have HD := Lib.hid (HSTOP.out hfu)
        have t0 : (0 : Int) < N := by omega
        have hlN : (rest.length : Int) ≠ N := by omega
        have t1 := bne_f hlN
        have t2 : (0 : Int) < (n3 : Int) := by omega
        rw [hl3] at CH t1
        clear e1 hlN hfu HSTOP HFULL g1 hl3
        go_wp2_with (first
          | (go_at_call 64
             refine (CH.out wr (Fr.refl _ _)).mono ?_
             rintro e w1 ⟨rfl, hf1⟩
             have HF1 := Lib.hid hf1
             have d11 : w1.cell? ⟨g, 1, none⟩ = some (.slice A3 n3 c4) := hf1.cell_some c11 noB_no
             clear hf1))
        go_ret
        have := HFIN.out (by rw [HD.out]) w1 HF1.out
        rw [HD.out] at this
        exact this.resolve_right (fun h => h rfl)
      · rw [e1] at CH
        have hd := HFULL.out hfu
        rw [g4, g5] at hd
        have HD := Lib.hid hd
        obtain ⟨A5, hcut, _, hsl5⟩ := cut_lo (P := Tryd.prog) 22 5 Tryd.underlying22 HI5.out 1 HZ5.out.2.1 A3 n3 c4 1 h0 hle3.1
        have hcut1 : ∀ W : World, (Instr.slice 22 (.slice A3 n3 c4) (some (.int .i64 1)) none none).run Tryd.prog W = .ok (.slice A5 (n3 - 1) (c4 - 1)) W := hcut
        have H5 := Lib.hid hsl5
        clear hsl5 hcut hd hfu HSTOP HFULL g4 g5 e1
        rcases (by omega : N = 0 ∨ 0 < N) with rfl | hN
        all_goals
          try (have t1 : ((0 : Int) == N) = false := bne_f (by omega))
          go_wp2_with (first
            | (go_at_call 64
               refine (CH.out wr (Fr.refl _ _)).mono ?_
               rintro e w1 ⟨rfl, hf1⟩
               have HF1 := Lib.hid hf1
               have d11 : w1.cell? ⟨g, 1, none⟩ = some (.slice A3 n3 c4) := hf1.cell_some c11 noB_no
               have HS2 := Lib.hid (H2.out.fr hf1 fun _ _ => noB_no)
               clear hf1)
            | (at_builtin
               refine wpList_append_box w1 rfl (.tmp 31) (.tmp 32) _ rfl 21 _ 1 4 Tryd.underlying37 rune_info rfl (by omega) rfl rfl HS2.out rfl ?c1 (by omega) (by omega) ?_
               case c1 => simp [Value.oneCell']
               intro A6 c6 w3 hf3 hs6 hA6
               obtain ⟨d61, f61⟩ := MID.out w1 w3 HF1.out hf3
               have HN := Lib.hid (NX.out 65533 1 A5 A6 c6 w1 w3 HD.out (Nat.le_refl _) h0 HF1.out hf3 H5.out hs6 hA6)
               clear hf3 hs6 hA6))
          exact HN.out

/-- Flush leaves the decoder empty; its runes lie in new memory -/
theorem dflush_any (g : Nat) (cs : Array Value) (A : Option Addr) (n c : Nat) (l : List Int) (w : World) (hb : Blk w g 59 cs) (h1 : cs[1]? = some (.slice A n c))
    (hs : Sl w (Own A) 5 1 A n c (byts l)) (hn : l.length ≤ 67108864) (hB : Byts l) :
    Calls Tryd.prog 32 #[.pointer (some ⟨g, 1, none⟩)] w fun e w' => ∃ A2 n2 c2, e = .returned (.slice A2 n2 c2) ∧ Sl w' (NewB w) 21 1 A2 n2 c2 (runes (runesOf l)) ∧
      Blk w' g 59 (cs.setIfInBounds 1 (.slice none 0 0)) ∧ Fr (· = g) w w' := by
  have c1 : w.cell? ⟨g, 1, none⟩ = some (.slice A n c) := (hb.cell 1).trans h1
  have hln : l.length = n := by have := hs.1; rw [byts_length] at this; omega
  have CT := Lib.hid (rrunes_any A n c l _ w hs.rd hs.le.1 (by omega) hB)
  have HBK := Lib.hid hb
  clear hb hs hln hB h1
  go_enter Tryd.func32, Tryd.ntmps32
  go_wp2_with (go_at_call 47
               refine CT.out.mono ?_
               rintro e w1 ⟨A1, n1, c2, rfl, hs1, hf1⟩
               have HB1 := Lib.hid (HBK.out.fr hf1 noB_no)
               have d1 : w1.cell? ⟨g, 1, none⟩ = some (.slice A n c) := hf1.cell_some c1 noB_no
               have e1 : w1.frozen? ⟨g, 1, none⟩ = false := HB1.out.frozen 1
               have HS1 := Lib.hid hs1
               have HF1 := Lib.hid hf1
               clear hs1 hf1)
  go_ret
  have hfar : ¬ NewB w g := fun h => Nat.lt_irrefl _ (Nat.lt_of_lt_of_le HBK.out.lt h)
  exact ⟨_, _, _, rfl, HS1.out.far (p := ⟨g, 1, none⟩) hfar _, HB1.out.put 1 _, (HF1.out.mono fun _ _ h => h.elim).trans ((Fr.refl (· = g) w1).setCell (p := ⟨g, 1, none⟩) (fun _ => rfl) _) fun _ _ h => h⟩
end Go.Proofs.YtopaeikddlpecaaDoor
