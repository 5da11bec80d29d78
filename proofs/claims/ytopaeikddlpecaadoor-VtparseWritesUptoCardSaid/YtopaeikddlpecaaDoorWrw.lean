/-
  Walk: vtparse.Write gives an action's bytes, or says that it has none. Conditions: the tables; texts of at most 1048576 bytes, at most 1048576 parameters.
  Walk: the law VtparseWrites answers true. Conditions: the tables; texts of at most 1048576 bytes, at most 1048576 parameters.
-/
import Derived.Test.YtopaeikddlpecaaDoorWt
import Derived.Laws.BytesArg
namespace Go.Proofs.YtopaeikddlpecaaDoor
open Go.RowKit

theorem write_no6 (p : PAct) (h : p.kind = 6) : sameL (allR (writeL p)) [p] = false := by
  have hw : writeL p = [] := by simp [writeL, h]
  have ha := all_same [] (byts_of_mem (by simp))
  rw [hw, ← ha]
  have hl := allP_len [] (byts_of_mem (by simp))
  exact sameL_len (by simp at hl; rw [hl]; simp)

set_option maxHeartbeats 6400000 in
set_option maxRecDepth 100000 in
theorem vwrite_any (p : PAct) (A : Option Addr) (n c : Nat) (w : World) (hT : Tabs w) (hs : p.inter.size + p.text.size ≤ 1048576) (hP : Pow w) (hr : Rd w (fun k => k < w.heap.size) 1 A n (ints p.params)) (hn : n ≤ 1048576) (hnc : n ≤ c)
    (hwf : ActWF p) (hz : ∀ z ∈ p.params, -9223372036854775808 ≤ z ∧ z ≤ 9223372036854775807) :
    Calls Tryd.prog 26 #[.agg #[.int .i64 p.kind, .int .i32 p.rune, .int .u8 p.fin, .int .u8 p.priv, .slice A n c, .string p.inter, .string p.text]] w (Wrote w (writeL p) (sameL (allR (writeL p)) [p])) := by
  have hln : p.params.length = n := by have := hr.1; rw [ints_length] at this; omega
  have HLEN := Lib.hid (writeL_len p hs (by omega) hz)
  have HBY := Lib.hid (writeL_byts p hwf)
  have hall := all_same (writeL p) HBY.out
  rw [← hall]
  have H6 := Lib.hid (write_no6 p)
  rw [← hall] at H6
  have HT := Lib.hid hT
  have HS := Lib.hid hs
  have HP := Lib.hid hP
  have HR := Lib.hid hr
  have HLN := Lib.hid hln
  have HZ := Lib.hid hz
  clear hs hP hr hln hz hwf hT hall
  have CW := Lib.hid fun (W : World) (hf : Fr NoB w W) => write_any p A n c W HS.out (HP.out.fr hf) ((HR.out.fr hf fun _ _ => noB_no).mono fun k hk _ => hk) hn HZ.out
  generalize writeL p = L at *
  go_enter Tryd.func26, Tryd.ntmps26
  go_upto_region 1 with (fail)
  have hb0 := ActB.new w p (.slice A n c)
  have hf0 := (Fr.refl NoB w).alloc (.cells #[.int .i64 p.kind, .int .i32 p.rune, .int .u8 p.fin, .int .u8 p.priv, .slice A n c, .string p.inter, .string p.text] 35)
  have hz0 : (w.alloc (.cells #[.int .i64 p.kind, .int .i32 p.rune, .int .u8 p.fin, .int .u8 p.priv, .slice A n c, .string p.inter, .string p.text] 35)).heap.size = w.heap.size + 1 := by simp
  generalize w.alloc (.cells #[.int .i64 p.kind, .int .i32 p.rune, .int .u8 p.fin, .int .u8 p.priv, .slice A n c, .string p.inter, .string p.text] 35) = W0 at *
  have HB0 := Lib.hid hb0
  obtain ⟨c0, c1, c2, c3, c4, c5, c6⟩ := hb0
  have HF0 := Lib.hid hf0
  have HZ0 := Lib.hid hz0
  clear hf0 hz0
  have CW0 := Lib.hid (CW.out W0 HF0.out)
  clear CW
  go_upto_region 2 with
    (go_at_call 41
     refine CW0.out.mono ?_
     rintro e wc ⟨A4, n4, d4, rfl, hby4, hf4, ho4⟩
     have HBY4 := Lib.hid hby4
     have HF4 := Lib.hid hf4
     clear hby4 hf4 ho4)
  have hL4 : L.length = n4 := by have := HBY4.out.1; rw [byts_length] at this; omega
  have hrd := HBY4.out.rd
  have hapl := allP_len L HBY.out
  have HAL := Lib.hid (show (allP L).length ≤ 67108864 by have := HLEN.out; omega)
  have HSH := Lib.hid (show Short (allP L) from fun q hq => by have := (allP_ok L HBY.out q hq).parL; omega)
  have HSP := Lib.hid (show Short [p] from fun q hq => by simp at hq; subst hq; have := HLN.out; omega)
  have HONE := Lib.hid (show 1 ≤ 67108864 by omega)
  have CA := Lib.hid fun (W : World) (hf : Fr NoB wc W) => all_any L _ A4 n4 d4 W (((HT.out.fr HF0.out fun _ _ => noB_no).fr HF4.out fun _ _ => noB_no).fr hf fun _ _ => noB_no) (hrd.fr hf fun _ _ => noB_no) (by have := HLEN.out; omega) HBY.out
  clear c0 c1 c2 c3 c4 c5 c6 hapl
  obtain ⟨c0, c1, c2, c3, c4, c5, c6⟩ := HB0.out.fr HF4.out
  by_cases hk : p.kind = 6
  · have t1 : (p.kind == 6) = true := by rw [hk]; rfl
    have HV := Lib.hid (H6.out hk)
    clear hk hL4 hrd
    go_wp2
    go_quiet (fail)
    go_wp2
    go_ret2
    exact ⟨(HF0.out.trans HF4.out fun _ _ h => h).drewN _, .inr ⟨HV.out, rfl⟩⟩
  · have t1 : (p.kind == 6) = false := bne_f hk
    have HS0 := Lib.hid (show wc.cell? ⟨w.heap.size, 0, none⟩ = some (.int .i64 p.kind) ∧ _ ∧ _ ∧ _ ∧ _ ∧ _ ∧ _ from ⟨c0, c1, c2, c3, c4, c5, c6⟩)
    have hfb := ((Fr.refl NoB wc).alloc (.cells #[.int .i64 p.kind, .int .i32 p.rune, .int .u8 p.fin, .int .u8 p.priv, .slice A n c, .string p.inter, .string p.text] 35)).drew
    have HSB := Lib.hid (keep7 hfb HS0.out)
    have HRPB := Lib.hid (((HR.out.fr HF0.out fun _ _ => noB_no).fr HF4.out fun _ _ => noB_no).fr ((Fr.refl NoB wc).alloc (.cells #[.int .i64 p.kind, .int .i32 p.rune, .int .u8 p.fin, .int .u8 p.priv, .slice A n c, .string p.inter, .string p.text] 35)) fun _ _ => noB_no)
    have HA2B := Lib.hid ((acts_one wc p A n c HRPB.out hnc).fr (Fr.refl NoB _).drew fun _ _ => noB_no)
    have HFB := Lib.hid hfb
    clear c0 c1 c2 c3 c4 c5 c6 hL4 hrd hfb hk
    go_upto_region 2 with (fail)
    go_region_held3 (fun W => W.cell? ⟨w.heap.size, 0, none⟩ = some (.int .i64 p.kind) ∧ W.cell? ⟨w.heap.size, 1, none⟩ = some (.int .i32 p.rune) ∧ W.cell? ⟨w.heap.size, 2, none⟩ = some (.int .u8 p.fin) ∧ W.cell? ⟨w.heap.size, 3, none⟩ = some (.int .u8 p.priv) ∧ W.cell? ⟨w.heap.size, 4, none⟩ = some (.slice A n c) ∧ W.cell? ⟨w.heap.size, 5, none⟩ = some (.string p.inter) ∧ W.cell? ⟨w.heap.size, 6, none⟩ = some (.string p.text))
      (first | exact HS0.out | exact HS1.out | exact HS2.out | exact HS3.out | exact HSB.out | fail)
      (first
        | (go_at_call 14
           refine (CA.out _ ?hf).mono ?_
           case hf => exact (Fr.refl NoB wc).drew
           rintro e w1 ⟨A1, d1, rfl, hin1, hf1, hd1⟩
           have hfw := ((Fr.refl NoB wc).drew).trans hf1 fun _ _ h => h
           have HS1 := Lib.hid (keep7 hfw HS0.out)
           have hfa := (Fr.refl NoB w1).alloc (.cells #[.int .i64 p.kind, .int .i32 p.rune, .int .u8 p.fin, .int .u8 p.priv, .slice A n c, .string p.inter, .string p.text] 35)
           have HS2 := Lib.hid (keep7 hfa HS1.out)
           have HW1 := Lib.hid (hfw.trans hfa fun _ _ h => h)
           have HIN := Lib.hid (hin1.fr hfa fun _ _ => noB_no)
           have HD1 := Lib.hid hd1
           have HRP := Lib.hid ((((HR.out.fr HF0.out fun _ _ => noB_no).fr HF4.out fun _ _ => noB_no).fr hfw fun _ _ => noB_no).fr hfa fun _ _ => noB_no)
           have HA2 := Lib.hid (acts_one w1 p A n c HRP.out hnc)
           clear hin1 hf1 hd1 hfw hfa)
        | (go_at_call 25
           refine (vsame_any (allP L) [p] _ _ A1 _ _ 1 d1 1 (w1.alloc (.cells #[.int .i64 p.kind, .int .i32 p.rune, .int .u8 p.fin, .int .u8 p.priv, .slice A n c, .string p.inter, .string p.text] 35)) HIN.out HA2.out HAL.out HONE.out HSH.out HSP.out).mono ?_
           rintro e w2 ⟨rfl, hf2⟩
           have HS3 := Lib.hid (keep7 hf2 HS2.out)
           have HF2 := Lib.hid ((HF4.out.trans HW1.out fun _ _ h => h).trans hf2 fun _ _ h => h)
           have HC2 := Lib.hid ((HBY4.out.fr HW1.out fun _ _ => noB_no).fr hf2 fun _ _ => noB_no)
           clear hf2)
        | (go_at_call 14
           refine (CA.out _ HFB.out).mono ?_
           rintro e w1 ⟨A1, d1, rfl, hin1, hf1, hd1⟩
           have HW1 := Lib.hid (HFB.out.trans hf1 fun _ _ h => h)
           have HS2 := Lib.hid (keep7 hf1 HSB.out)
           have HIN := Lib.hid hin1
           have HA2 := Lib.hid (HA2B.out.fr hf1 fun _ _ => noB_no)
           clear hin1 hf1 hd1)
        | (go_at_call 25
           refine (vsame_any (allP L) [p] _ _ A1 _ _ 1 d1 1 w1 HIN.out HA2.out HAL.out HONE.out HSH.out HSP.out).mono ?_
           rintro e w2 ⟨rfl, hf2⟩
           have HS3 := Lib.hid (keep7 hf2 HS2.out)
           have HF2 := Lib.hid ((HF4.out.trans HW1.out fun _ _ h => h).trans hf2 fun _ _ h => h)
           have HC2 := Lib.hid ((HBY4.out.fr HW1.out fun _ _ => noB_no).fr hf2 fun _ _ => noB_no)
           clear hf2))
    all_goals
      cases hv : sameL (allP L) [p] with
      | true =>
        go_wp2
        go_ret2
        exact ⟨HF0.out.trans HF2.out fun _ _ h => h, .inl ⟨hv, _, _, _, rfl, HC2.out⟩⟩
      | false =>
        go_wp2
        go_ret2
        exact ⟨HF0.out.trans HF2.out fun _ _ h => h, .inr ⟨hv, rfl⟩⟩
end Go.Proofs.YtopaeikddlpecaaDoor

namespace Go.Proofs.YtopaeikddlpecaaDoor
open Go.RowKit

theorem conv_back {W : World} {A : Option Addr} {n c : Nat} {l : List Int} (h : By W 5 A n c (byts l)) : (convert 22 9 (.slice A n c)).run Tryd.prog W = .ok (.string (strOfNums l)) W := by
  have hl : l.length = n := by have := h.1; rw [byts_length] at this; exact this
  rcases h.2 with ⟨rfl, rfl, rfl⟩ | ⟨g, rfl, hs⟩
  · have : l = [] := List.eq_nil_of_length_eq_zero hl
    subst this
    exact run_convert_bytes_nil W _ _ Tryd.underlying22 Tryd.underlying5 0 0 _ Tryd.underlying9
  · exact run_convert_bytes_arg W _ _ Tryd.underlying22 Tryd.underlying5 g 0 n c l hl (fun i hi => by
      rw [Nat.zero_add]
      exact hs.cell i _ (byts_at (by omega))) _ Tryd.underlying9

theorem bytesEq_any (l : List Int) (A B : Option Addr) (n c m d : Nat) (w : World) (h1 : By w 5 A n c (byts l)) (h2 : By w 5 B m d (byts l)) :
    Calls Tryd.prog 28 #[.slice A n c, .slice B m d] w fun e w' => e = .returned (.bool true) ∧ w' = w := by
  have c1 := conv_back h1
  have c2 := conv_back h2
  clear h1 h2
  generalize strOfNums l = s at *
  go_enter Tryd.func28, Tryd.ntmps28
  go_wp2
  go_ret
  exact ⟨rfl, rfl⟩

def WroteT (w : World) (l : List Int) (e : Ending) (w' : World) : Prop := Fr NoB w w' ∧ ∃ A n c, e = .returned (.tuple #[.slice A n c, .int .i64 0]) ∧ By w' 5 A n c (byts l)
def WroteF (w : World) (e : Ending) (w' : World) : Prop := Fr NoB w w' ∧ e = .returned (.tuple #[.slice none 0 0, .int .i64 1])
theorem Wrote.t {w : World} {l : List Int} (e : Ending) (w' : World) (h : Wrote w l true e w') : WroteT w l e w' := by
  rcases h.2 with ⟨_, h2⟩ | ⟨h2, _⟩
  · exact ⟨h.1, h2⟩
  · cases h2
theorem Wrote.f {w : World} {l : List Int} (e : Ending) (w' : World) (h : Wrote w l false e w') : WroteF w e w' := by
  rcases h.2 with ⟨h2, _⟩ | ⟨_, h2⟩
  · cases h2
  · exact ⟨h.1, h2⟩

set_option maxHeartbeats 6400000 in
set_option maxRecDepth 100000 in
theorem writesw_any (p : PAct) (A : Option Addr) (n c : Nat) (w : World) (hT : Tabs w) (hs : p.inter.size + p.text.size ≤ 1048576) (hP : Pow w) (hr : Rd w (fun k => k < w.heap.size) 1 A n (ints p.params)) (hn : n ≤ 1048576) (hnc : n ≤ c)
    (hwf : ActWF p) (hz : ∀ z ∈ p.params, -9223372036854775808 ≤ z ∧ z ≤ 9223372036854775807) :
    Calls Tryd.prog 11 #[.agg #[.int .i64 p.kind, .int .i32 p.rune, .int .u8 p.fin, .int .u8 p.priv, .slice A n c, .string p.inter, .string p.text]] w (TrueP w) := by
  have hln : p.params.length = n := by have := hr.1; rw [ints_length] at this; omega
  have HLEN := Lib.hid (writeL_len p hs (by omega) hz)
  have HBY := Lib.hid (writeL_byts p hwf)
  have HALL := Lib.hid (all_same (writeL p) HBY.out)
  have HT := Lib.hid hT
  have HS := Lib.hid hs
  have HP := Lib.hid hP
  have HR := Lib.hid hr
  have HLN := Lib.hid hln
  have HZ := Lib.hid hz
  have HWF := Lib.hid hwf
  clear hs hP hr hln hz hwf hT
  have CW := Lib.hid fun (W : World) (hf : Fr NoB w W) => vwrite_any p A n c W (HT.out.fr hf fun _ _ => noB_no) HS.out (HP.out.fr hf) ((HR.out.fr hf fun _ _ => noB_no).mono fun k hk _ => hk) hn hnc HWF.out HZ.out
  have CR := Lib.hid fun (W : World) (hf : Fr NoB w W) => rwrite_any p A n c W HS.out (HP.out.fr hf) ((HR.out.fr hf fun _ _ => noB_no).mono fun k hk _ => hk) hn hnc HWF.out HZ.out
  generalize writeL p = L at *
  go_enter Tryd.func11, Tryd.ntmps11
  go_upto_region 1 with (fail)
  have hb0 := ActB.new w p (.slice A n c)
  have hf0 := (Fr.refl NoB w).alloc (.cells #[.int .i64 p.kind, .int .i32 p.rune, .int .u8 p.fin, .int .u8 p.priv, .slice A n c, .string p.inter, .string p.text] 35)
  generalize w.alloc (.cells #[.int .i64 p.kind, .int .i32 p.rune, .int .u8 p.fin, .int .u8 p.priv, .slice A n c, .string p.inter, .string p.text] 35) = W0 at *
  have HB0 := Lib.hid hb0
  obtain ⟨c0, c1, c2, c3, c4, c5, c6⟩ := hb0
  have HF0 := Lib.hid hf0
  clear hf0
  have CW0 := Lib.hid (CW.out W0 HF0.out)
  clear CW
  cases hv : sameL (allR L) [p] with
  | true =>
    rw [hv] at CW0 CR
    have HV := Lib.hid hv
    clear hv
    go_upto_region 5 with (first
      | (go_at_call 26
         refine (CW0.out.mono Wrote.t).mono ?_
         rintro e w1 ⟨hf1, A1, n1, d1, rfl, hby1⟩
         have hfw := HF0.out.trans hf1 fun _ _ h => h
         have CR1 := Lib.hid (CR.out w1 hfw)
         have HF1 := Lib.hid hf1
         have HBY1 := Lib.hid hby1
         obtain ⟨d0, d1', d2, d3, d4, d5, d6⟩ := HB0.out.fr hf1
         clear hf1 hby1 hfw CW0 c0 c1 c2 c3 c4 c5 c6)
      | (go_at_call 27
         refine (CR1.out.mono Wrote.t).mono ?_
         rintro e w2 ⟨hf2, A2, n2, d2', rfl, hby2⟩
         have hfw := HF1.out.trans hf2 fun _ _ h => h
         have HF2 := Lib.hid hfw
         have CL := Lib.hid (live_any w2 ((HT.out.fr HF0.out fun _ _ => noB_no).fr hfw fun _ _ => noB_no))
         have HBY2 := Lib.hid hby2
         have HBY12 := Lib.hid (HBY1.out.fr hf2 fun _ _ => noB_no)
         clear hf2 hby2 hfw CR1 CR)
      | (go_at_call 12
         refine CL.out.mono ?_
         rintro e w3 ⟨rfl, hf3⟩
         have HF3 := Lib.hid (HF2.out.trans hf3 fun _ _ h => h)
         have HBY13 := Lib.hid (HBY12.out.fr hf3 fun _ _ => noB_no)
         have CE := Lib.hid (bytesEq_any L _ _ _ _ _ _ w3 HBY13.out (HBY2.out.fr hf3 fun _ _ => noB_no))
         clear hf3 CL)
      | (go_at_call 28
         refine CE.out.mono ?_
         rintro e w4 ⟨rfl, rfl⟩
         clear CE))
    have hL4 : L.length = n1 := by have := HBY13.out.1; rw [byts_length] at this; omega
    have hrd := HBY13.out.rd
    have hapl := allP_len L HBY.out
    have HAL := Lib.hid (show (allP L).length ≤ 67108864 by have := HLEN.out; omega)
    have HSH := Lib.hid (show Short (allP L) from fun q hq => by have := (allP_ok L HBY.out q hq).parL; omega)
    have HSP := Lib.hid (show Short [p] from fun q hq => by simp at hq; subst hq; have := HLN.out; omega)
    have HONE := Lib.hid (show 1 ≤ 67108864 by omega)
    have hv2 := HV.out
    rw [← HALL.out] at hv2
    have HV2 := Lib.hid hv2
    have CA := Lib.hid fun (W : World) (hf : Fr NoB w4 W) => all_any L _ A1 n1 d1 W (((HT.out.fr HF0.out fun _ _ => noB_no).fr HF3.out fun _ _ => noB_no).fr hf fun _ _ => noB_no) (hrd.fr hf fun _ _ => noB_no) (by have := HLEN.out; omega) HBY.out
    clear d0 d1' d2 d3 d4 d5 d6 hapl hL4 hrd hv2
    have HS0 := Lib.hid (show w4.cell? ⟨w.heap.size, 0, none⟩ = some (.int .i64 p.kind) ∧ _ ∧ _ ∧ _ ∧ _ ∧ _ ∧ _ from HB0.out.fr HF3.out)
    have hfb := ((Fr.refl NoB w4).alloc (.cells #[.int .i64 p.kind, .int .i32 p.rune, .int .u8 p.fin, .int .u8 p.priv, .slice A n c, .string p.inter, .string p.text] 35)).drew
    have HSB := Lib.hid (keep7 hfb HS0.out)
    have HRPB := Lib.hid (((HR.out.fr HF0.out fun _ _ => noB_no).fr HF3.out fun _ _ => noB_no).fr ((Fr.refl NoB w4).alloc (.cells #[.int .i64 p.kind, .int .i32 p.rune, .int .u8 p.fin, .int .u8 p.priv, .slice A n c, .string p.inter, .string p.text] 35)) fun _ _ => noB_no)
    have HA2B := Lib.hid ((acts_one w4 p A n c HRPB.out hnc).fr (Fr.refl NoB _).drew fun _ _ => noB_no)
    have HFB := Lib.hid hfb
    clear hfb
    go_region_held3 (fun W => W.cell? ⟨w.heap.size, 0, none⟩ = some (.int .i64 p.kind) ∧ W.cell? ⟨w.heap.size, 1, none⟩ = some (.int .i32 p.rune) ∧ W.cell? ⟨w.heap.size, 2, none⟩ = some (.int .u8 p.fin) ∧ W.cell? ⟨w.heap.size, 3, none⟩ = some (.int .u8 p.priv) ∧ W.cell? ⟨w.heap.size, 4, none⟩ = some (.slice A n c) ∧ W.cell? ⟨w.heap.size, 5, none⟩ = some (.string p.inter) ∧ W.cell? ⟨w.heap.size, 6, none⟩ = some (.string p.text))
      (first | exact HS0.out | exact HS1.out | exact HS2.out | exact HS3.out | exact HSB.out | fail)
      (first
        | (go_at_call 14
           refine (CA.out _ ?hf).mono ?_
           case hf => exact (Fr.refl NoB w4).drew
           rintro e w5 ⟨A5, d5, rfl, hin1, hf1, hd1⟩
           have hfw := ((Fr.refl NoB w4).drew).trans hf1 fun _ _ h => h
           have HS1 := Lib.hid (keep7 hfw HS0.out)
           have hfa := (Fr.refl NoB w5).alloc (.cells #[.int .i64 p.kind, .int .i32 p.rune, .int .u8 p.fin, .int .u8 p.priv, .slice A n c, .string p.inter, .string p.text] 35)
           have HS2 := Lib.hid (keep7 hfa HS1.out)
           have HW1 := Lib.hid (hfw.trans hfa fun _ _ h => h)
           have HIN := Lib.hid (hin1.fr hfa fun _ _ => noB_no)
           have HRP := Lib.hid ((((HR.out.fr HF0.out fun _ _ => noB_no).fr HF3.out fun _ _ => noB_no).fr hfw fun _ _ => noB_no).fr hfa fun _ _ => noB_no)
           have HA2 := Lib.hid (acts_one w5 p A n c HRP.out hnc)
           clear hin1 hf1 hd1 hfw hfa)
        | (go_at_call 13
           refine (rsame_any (allP L) [p] _ _ A5 _ _ 1 d5 1 (w5.alloc (.cells #[.int .i64 p.kind, .int .i32 p.rune, .int .u8 p.fin, .int .u8 p.priv, .slice A n c, .string p.inter, .string p.text] 35)) HIN.out HA2.out HAL.out HONE.out HSH.out HSP.out).mono ?_
           rintro e w6 ⟨rfl, hf2⟩
           have HS3 := Lib.hid (keep7 hf2 HS2.out)
           have HFZ := Lib.hid (((HF0.out.trans HF3.out fun _ _ h => h).trans HW1.out fun _ _ h => h).trans hf2 fun _ _ h => h)
           clear hf2)
        | (go_at_call 14
           refine (CA.out _ HFB.out).mono ?_
           rintro e w5 ⟨A5, d5, rfl, hin1, hf1, hd1⟩
           have HW1 := Lib.hid (HFB.out.trans hf1 fun _ _ h => h)
           have HS2 := Lib.hid (keep7 hf1 HSB.out)
           have HIN := Lib.hid hin1
           have HA2 := Lib.hid (HA2B.out.fr hf1 fun _ _ => noB_no)
           clear hin1 hf1 hd1)
        | (go_at_call 13
           refine (rsame_any (allP L) [p] _ _ A5 _ _ 1 d5 1 w5 HIN.out HA2.out HAL.out HONE.out HSH.out HSP.out).mono ?_
           rintro e w6 ⟨rfl, hf2⟩
           have HS3 := Lib.hid (keep7 hf2 HS2.out)
           have HFZ := Lib.hid (((HF0.out.trans HF3.out fun _ _ h => h).trans HW1.out fun _ _ h => h).trans hf2 fun _ _ h => h)
           clear hf2))
    all_goals
      go_wp2
      go_ret
      exact ⟨by rw [HV2.out]; rfl, HFZ.out⟩
  | false =>
    rw [hv] at CW0 CR
    have HV := Lib.hid hv
    clear hv
    go_upto_region 5 with (first
      | (go_at_call 26
         refine (CW0.out.mono Wrote.f).mono ?_
         rintro e w1 ⟨hf1, rfl⟩
         have hfw := HF0.out.trans hf1 fun _ _ h => h
         have CR1 := Lib.hid (CR.out w1 hfw)
         have HF1 := Lib.hid hf1
         obtain ⟨d0, d1', d2, d3, d4, d5, d6⟩ := HB0.out.fr hf1
         clear hf1 hfw CW0 c0 c1 c2 c3 c4 c5 c6)
      | (go_at_call 27
         refine (CR1.out.mono Wrote.f).mono ?_
         rintro e w2 ⟨hf2, rfl⟩
         have hfw := HF1.out.trans hf2 fun _ _ h => h
         have HF2 := Lib.hid hfw
         have CL := Lib.hid (live_any w2 ((HT.out.fr HF0.out fun _ _ => noB_no).fr hfw fun _ _ => noB_no))
         clear hf2 hfw CR1 CR)
      | (go_at_call 12
         refine CL.out.mono ?_
         rintro e w3 ⟨rfl, hf3⟩
         have HF3 := Lib.hid (HF2.out.trans hf3 fun _ _ h => h)
         have CE := Lib.hid (bytesEq_any [] _ _ _ _ _ _ w3 (By.nil w3 5) (By.nil w3 5))
         clear hf3 CL)
      | (go_at_call 28
         refine CE.out.mono ?_
         rintro e w4 ⟨rfl, rfl⟩
         clear CE))
    go_quiet (fail)
    go_wp2
    go_ret
    exact ⟨rfl, (HF0.out.trans HF3.out fun _ _ h => h).drewN _⟩
end Go.Proofs.YtopaeikddlpecaaDoor
