/-
  ucell.Decoder.Put, walked. Conditions: the tables; fewer than 67108864 bytes; what is put lies outside the decoder's own memory.
-/
import Derived.Test.YtopaeikddlpecaaDoorDec
namespace Go.Proofs.YtopaeikddlpecaaDoor
open Go.RowKit

/-- F and one block more -/
def PlusD (F : Nat → Prop) (A : Option Addr) : Nat → Prop := fun k => F k ∨ Own A k

def decLoop (l : List Int) : List Int × List Int :=
  if _h : l = [] then ([], []) else if full l = true then (decR l :: (decLoop (l.drop (decN l))).1, (decLoop (l.drop (decN l))).2) else ([], l)
termination_by l.length
decreasing_by
  all_goals
    have := (dec_eq l _h).2
    rw [List.length_drop]
    omega
theorem decLoop_nil : decLoop [] = ([], []) := by rw [decLoop]; simp
theorem decLoop_full (l : List Int) (h : l ≠ []) (hf : full l = true) : decLoop l = (decR l :: (decLoop (l.drop (decN l))).1, (decLoop (l.drop (decN l))).2) := by
  conv => lhs; rw [decLoop]
  rw [dif_neg h, if_pos hf]
theorem decLoop_stop (l : List Int) (h : l ≠ []) (hf : full l = false) : decLoop l = ([], l) := by
  rw [decLoop, dif_neg h, if_neg (by rw [hf]; simp)]
theorem decLoop_len (l : List Int) : (decLoop l).1.length + (decLoop l).2.length ≤ l.length := by
  induction h : l.length using Nat.strongRecOn generalizing l with
  | ind n ih =>
    by_cases hl : l = []
    · subst hl; rw [decLoop_nil]; simp
    · cases hf : full l with
      | false => rw [decLoop_stop l hl hf]; simp; omega
      | true =>
        rw [decLoop_full l hl hf]
        have h2 := (dec_eq l hl).2
        have := ih (l.drop (decN l)).length (by rw [List.length_drop]; omega) _ rfl
        rw [List.length_drop] at this
        simp only [List.length_cons]
        omega
theorem decLoop_byts (l : List Int) (hb : Byts l) : Byts (decLoop l).2 := by
  induction h : l.length using Nat.strongRecOn generalizing l with
  | ind n ih =>
    by_cases hl : l = []
    · subst hl; rw [decLoop_nil]; exact Byts.nil
    · cases hf : full l with
      | false => rw [decLoop_stop l hl hf]; exact hb
      | true =>
        rw [decLoop_full l hl hf]
        have h2 := (dec_eq l hl).2
        exact ih (l.drop (decN l)).length (by rw [List.length_drop]; omega) _ (hb.drop _) rfl

def lenAt (w : World) (a : Addr) : Nat := match w.cell? a with | some v => lenV v | none => 0
theorem lenAt_of {w : World} {a : Addr} {v : Value} (h : w.cell? a = some v) : lenAt w a = lenV v := by simp [lenAt, h]

/-- what Put leaves -/
def PutP (w : World) (F : Nat → Prop) (g : Nat) (l : List Int) (e : Ending) (w' : World) : Prop :=
  ∃ A n c F', e = .returned (.slice A n c) ∧ Sl w' (NewB w) 21 1 A n c (runes (decLoop l).1) ∧ RepD w' F' g (decLoop l).2 ∧ Fr F w w' ∧ (∀ k, F k → F' k) ∧ (∀ k, F' k → k < w.heap.size → F k) ∧ ∀ k, F' k → k < w'.heap.size ∨ F k

def PutRel (w : World) (F : Nat → Prop) (g : Nat) (l : List Int) (v5 : Value) (wr : World) : Prop :=
  ∃ A n c F' rest done, v5 = .slice A n c ∧ Sl wr (NewB w) 21 1 A n c (runes done) ∧ RepD wr F' g rest ∧ Fr F w wr ∧ (∀ k, F k → F' k) ∧ (∀ k, F' k → k < w.heap.size → F k) ∧ (∀ k, F' k → k < wr.heap.size ∨ F k) ∧
    (done ++ (decLoop rest).1, (decLoop rest).2) = decLoop l ∧ Byts rest ∧ n + rest.length ≤ 67108864

set_option maxHeartbeats 1000000 in
theorem put_any (g : Nat) (l bs : List Int) (F R : Nat → Prop) (B : Option Addr) (m c2 : Nat) (w : World) (h : RepD w F g l) (hT : Tabs w) (hTF : ∀ k, Tab k → ¬ F k) (hr : Rd w R 1 B m (byts bs))
    (hn : l.length + m ≤ 67108864) (hB : Byts l) (hB2 : Byts bs) :
    Calls Tryd.prog 67 #[.pointer (some ⟨g, 0, none⟩), .slice B m c2] w (PutP w F g (l ++ bs)) := by
  obtain ⟨A, n, c, hb, hF, hs⟩ := h
  have c0 : w.cell? ⟨g, 0, none⟩ = some (.bool true) := hb.cell 0
  have c1 : w.cell? ⟨g, 1, none⟩ = some (.slice A n c) := hb.cell 1
  have lt := hb.lt
  have hln : l.length = n := by have := hs.1; rw [byts_length] at this; omega
  have hbm : bs.length = m := by have := hr.1; rw [byts_length] at this; omega
  have hno : ¬ Own A g := fun hk => Free.own hs (e := 71) (by decide) _ hk _ _ hb
  have HBK := Lib.hid hb
  have HF := Lib.hid hF
  have HT := Lib.hid hT
  have HTF := Lib.hid hTF
  have HB := Lib.hid (hB.append hB2)
  have HLN := Lib.hid hln
  have HBM := Lib.hid hbm
  have HS := Lib.hid hs
  have HR := Lib.hid hr
  have HNO := Lib.hid hno
  clear hb hln hT hB hB2 hF hbm hTF hs hr hno
  obtain ⟨i5, hi5, hz5⟩ := Option.map_eq_some_iff.1 byte_info
  simp only [Prod.mk.injEq] at hz5
  have HI5 := Lib.hid hi5
  have HZ5 := Lib.hid hz5
  clear hi5 hz5
  have hnm : n + m ≤ 67108864 := by have := HLN.out; omega
  go_enter Tryd.func67, Tryd.ntmps67
  go_wp2_with (first
    | (go_at_call 44; refine (dnone_any g w c0).mono ?_; rintro e w' ⟨rfl, rfl⟩)
    | (at_builtin
       refine wpList_append_sl w rfl (.tmp 14) (.tmp 15) _ rfl 5 _ 1 1 Tryd.underlying22 byte_info rfl (by omega) rfl rfl HS.out HR.out byts_one (by simp only [maxLen]; omega) (by omega) ?_
       intro A1 n1 w1 hf1 hs1 hA1
       have HB1 := Lib.hid (HBK.out.fr hf1 HNO.out)
       have d1 : w1.cell? ⟨g, 1, none⟩ = some (.slice A n c) := HB1.out.cell 1
       have e1 : w1.frozen? ⟨g, 1, none⟩ = false := HB1.out.frozen 1
       have HS1 := Lib.hid hs1
       have HF1 := Lib.hid hf1
       have HA1 := Lib.hid hA1
       clear hs1 hf1 hA1))
  go_loopw [5] (fun v5 wr => PutRel w F g (l ++ bs) v5 wr) (fun _ wr => lenAt wr ⟨g, 1, none⟩)
  case atStart =>
    have hF1 : ∀ k, Own A k → F k := fun k hk => HS.out.inF hk
    have hne : ∀ k, Own A1 k → k ≠ g := by
      rintro k hk rfl
      exact Free.own HS1.out (e := 71) (by decide) _ hk _ _ HB1.out
    have hsz := HF1.out.size
    refine ⟨none, 0, 0, PlusD F A1, l ++ bs, [], rfl, Sl.nil _ _ _ _, ⟨A1, n + m, n1, HB1.out.put 1 _, .inl HF.out, ?_⟩, ?_, fun k hk => .inl hk, ?_, ?_, rfl, HB.out, ?_⟩
    · rw [byts_append]
      exact ((HS1.out.far (p := ⟨g, 1, none⟩) (fun hk => hne _ hk rfl) _).mono fun k hk => .inr hk)
    · exact (HF1.out.mono fun k _ hk => hF1 k hk).trans ((Fr.refl (· = g) w1).setCell (p := ⟨g, 1, none⟩) (fun _ => rfl) _) (by rintro i _ rfl; exact HF.out)
    · intro k hk hlt
      rcases hk with hk | hk
      · exact hk
      · rcases HA1.out with h | h
        · subst h; exact hF1 k hk
        · subst h
          have : w.heap.size = k := by injection hk
          omega
    · intro k hk
      rcases hk with hk | hk
      · exact .inr hk
      · left
        have := HS1.out.inB hk
        simpa using this
    · rw [List.length_append, HLN.out, HBM.out]; omega
  case round =>
    obtain ⟨A2, n2, c3, F', rest, done, rfl, hs2, ⟨A3, n3, c4, hb3, hF3, hs3⟩, hf, hFF, hFo, hFd, he, hbr, hsz⟩ := hrel
    have c10 : wr.cell? ⟨g, 0, none⟩ = some (.bool true) := hb3.cell 0
    have c11 : wr.cell? ⟨g, 1, none⟩ = some (.slice A3 n3 c4) := hb3.cell 1
    have f11 : wr.frozen? ⟨g, 1, none⟩ = false := hb3.frozen 1
    have hT1 := HT.out.fr hf HTF.out
    have hl3 : rest.length = n3 := by have := hs3.1; rw [byts_length] at this; omega
    have hdn : done.length = n2 := by have := hs2.1; rw [runes_length] at this; omega
    have hle3 := hs3.le
    have hrn : n3 + n2 ≤ 67108864 := by omega
    have H2 := Lib.hid hs2
    have H3 := Lib.hid hs3
    have HB3 := Lib.hid hb3
    have HF3 := Lib.hid hF3
    have HFR := Lib.hid hf
    have HFF := Lib.hid hFF
    have HFO := Lib.hid hFo
    have HFD := Lib.hid hFd
    have HE := Lib.hid he
    have HBR := Lib.hid hbr
    have HT1 := Lib.hid hT1
    have HL3 := Lib.hid hl3
    have HDN := Lib.hid hdn
    clear hs2 hb3 hF3 hf hFF hFo hFd he hbr hT1 hl3 hs3 hdn
    have hfin : decLoop rest = ([], rest) → PutP w F g (l ++ bs) (.returned (.slice A2 n2 c3)) wr := fun hd => by
      have he := HE.out
      rw [hd, List.append_nil] at he
      refine ⟨A2, n2, c3, F', rfl, ?_, ?_, HFR.out, HFF.out, HFO.out, HFD.out⟩
      · rw [← he]; exact H2.out
      · rw [← he]; exact ⟨A3, n3, c4, HB3.out, HF3.out, H3.out⟩
    have HFIN := Lib.hid hfin
    clear hfin
    rcases Nat.eq_zero_or_pos n3 with h0 | h0
    · have hr0 : rest = [] := List.eq_nil_of_length_eq_zero (by rw [HL3.out, h0])
      have HR0 := Lib.hid hr0
      clear hr0
      subst h0
      go_wp2
      go_ret
      exact HFIN.out (by rw [HR0.out, decLoop_nil])
    · have hne : rest ≠ [] := by intro h; have := HL3.out; rw [h] at this; simp at this; omega
      have CF := Lib.hid (full_any A3 n3 c4 rest _ wr HT1.out H3.out.rd h0 (by omega) HBR.out)
      cases hfu : full rest with
      | false =>
        have HD := Lib.hid (decLoop_stop rest hne hfu)
        have HFU := Lib.hid hfu
        clear hfu hne
        go_wp2_with (go_at_call 83
                     refine CF.out.mono ?_
                     rw [HFU.out]
                     rintro e w1' ⟨rfl, hfn⟩
                     have HFN := Lib.hid hfn
                     clear hfn)
        go_ret
        have hd := HD.out
        have he := HE.out
        rw [hd, List.append_nil] at he
        refine ⟨A2, n2, c3, F', rfl, ?_, ?_, HFR.out.trans HFN.out fun _ _ h => h.elim, HFF.out, HFO.out, fun k hk => ?_⟩
        · rw [← he]; exact H2.out.fr HFN.out fun _ _ => noB_no
        · rw [← he]; exact RepD.fr ⟨A3, n3, c4, HB3.out, HF3.out, H3.out⟩ HFN.out fun _ _ => noB_no
        · rcases HFD.out k hk with h | h
          · exact .inl (Nat.lt_of_lt_of_le h HFN.out.size)
          · exact .inr h
      | true =>
        have HD := Lib.hid (decLoop_full rest hne hfu)
        have HFU := Lib.hid hfu
        obtain ⟨hd, hm1, hm2⟩ := dec_eq rest hne
        have CT := Lib.hid (fun (W : World) (hf : Fr NoB wr W) => decode_any A3 n3 c4 rest _ W (HT1.out.fr hf fun _ _ => noB_no) (H3.out.rd.fr hf fun _ _ => noB_no) (by omega) HBR.out)
        rw [hd] at CT
        obtain ⟨A5, hcut, _, hsl5⟩ := cut_lo (P := Tryd.prog) 22 5 Tryd.underlying22 HI5.out 1 HZ5.out.2.1 A3 n3 c4 (decN rest) (by rw [← HL3.out]; exact hm2) hle3.1
        have hmle : decN rest ≤ n3 := by rw [← HL3.out]; exact hm2
        have HSL5 := Lib.hid hsl5
        have HNE := Lib.hid hne
        clear hfu hne hd hsl5 hm2
        generalize decR rest = r at *
        generalize hm : decN rest = m0 at *
        have HM := Lib.hid hm
        clear hm
        go_wp2_with (first
          | (go_at_call 83
             refine CF.out.mono ?_
             rw [HFU.out]
             rintro e w1' ⟨rfl, hfn⟩
             have HFN := Lib.hid hfn
             have HB4 := Lib.hid (HB3.out.fr hfn noB_no)
             have d11 : w1'.cell? ⟨g, 1, none⟩ = some (.slice A3 n3 c4) := HB4.out.cell 1
             clear hfn)
          | (go_at_call 63
             refine (CT.out w1' HFN.out).mono ?_
             rintro e w2 ⟨rfl, hf2⟩
             have HF2 := Lib.hid hf2
             have HS2 := Lib.hid ((H2.out.fr HFN.out fun _ _ => noB_no).fr hf2 fun _ _ => noB_no)
             have HB5 := Lib.hid (HB4.out.fr hf2 noB_no)
             clear hf2)
          | (at_builtin
             refine wpList_append_box w2 rfl (.tmp 40) (.tmp 42) _ rfl 21 _ 1 4 Tryd.underlying37 rune_info rfl (by omega) rfl rfl HS2.out rfl ?c1 (by omega) (by omega) ?_
             case c1 => simp [Value.oneCell']
             intro A6 c6 w3 hf3 hs6 hA6
             have hno6 : ¬ Own A2 g := fun hk => Free.own HS2.out (e := 71) (by decide) _ hk _ _ HB5.out
             have HB6 := Lib.hid (HB5.out.fr hf3 hno6)
             have d61 : w3.cell? ⟨g, 1, none⟩ = some (.slice A3 n3 c4) := HB6.out.cell 1
             have f61 : w3.frozen? ⟨g, 1, none⟩ = false := HB6.out.frozen 1
             have HF3' := Lib.hid hf3
             have HS6 := Lib.hid hs6
             have HA6 := Lib.hid hA6
             clear hf3 hs6 hA6 hno6))
        have hs1 := HFR.out.size
        have hs2 := HFN.out.size
        have hs3 := HF2.out.size
        have hs4 := HF3'.out.size
        have hin : ∀ k, Own A2 k → NewB w k := fun k hk => H2.out.inF hk
        have fr13 : Fr F w w3 := ((HFR.out.trans HFN.out fun _ _ h => h.elim).trans HF2.out fun _ _ h => h.elim).trans HF3'.out fun k hk ho => by have := hin k ho; unfold NewB at this; omega
        have hFg : F g := by
          have : g < w.heap.size := by omega
          exact HFO.out g HF3.out this
        have hnew : ¬ NewB w g := by unfold NewB; omega
        have s3 : Sl w3 F' 5 1 A3 n3 c4 (byts rest) := ((H3.out.fr HFN.out fun _ _ => noB_no).fr HF2.out fun _ _ => noB_no).carry HF3'.out (Free.own HS2.out (by decide))
        have s4 := HSL5.out w3 _ _ s3
        refine ⟨⟨A6, n2 + 1, c6, F', rest.drop m0, done ++ [r], rfl, ?_, ⟨A5, n3 - m0, c4 - m0, HB6.out.put 1 _, HF3.out, ?_⟩, ?_, HFF.out, HFO.out, fun k hk => ?_, ?_, HBR.out.drop m0, ?_⟩, ?_⟩
        · rw [runes_append]
          exact (HS6.out.mono (own_after hin HA6.out fun k hk => by unfold NewB; omega)).far (p := ⟨g, 1, none⟩) hnew _
        · have h5 := s4.carry (X := (· = g)) ((Fr.refl (· = g) w3).setCell (p := ⟨g, 1, none⟩) (fun _ => rfl) (.slice A5 (n3 - m0) (c4 - m0))) (Free.blk HB6.out (by decide))
          simpa [byts] using h5
        · exact fr13.trans ((Fr.refl (· = g) w3).setCell (p := ⟨g, 1, none⟩) (fun _ => rfl) _) (by rintro i _ rfl; exact hFg)
        · rcases HFD.out k hk with h | h
          · left; simp; omega
          · exact .inr h
        · have he := HE.out
          rw [HD.out] at he
          rw [← he, List.append_assoc]
          rfl
        · rw [List.length_drop, HL3.out]; omega
        · rw [lenAt_of (by exact HB6.out.put 1 _ |>.cell 1 : (w3.setCell ⟨g, 1, none⟩ (.slice A5 (n3 - m0) (c4 - m0))).cell? ⟨g, 1, none⟩ = some (.slice A5 (n3 - m0) (c4 - m0))), lenAt_of c11]
          simp only [lenV]
          omega
end Go.Proofs.YtopaeikddlpecaaDoor
