/-
  Walk: the law VtparseAsks answers true. Conditions: the tables; lists of bulk at most 1048576.
-/
import Derived.Test.YtopaeikddlpecaaDoorEqr
import Derived.Deep.RegionHeld3
namespace Go.Proofs.YtopaeikddlpecaaDoor
open Go.RowKit

theorem keep9 {W W' : World} (hf : Fr NoB W W') {a0 a1 a2 a3 a4 a5 a6 a7 a8 : Addr} {v0 v1 v2 v3 v4 v5 v6 v7 v8 : Value}
    (h : W.cell? a0 = some v0 ∧ W.cell? a1 = some v1 ∧ W.cell? a2 = some v2 ∧ W.cell? a3 = some v3 ∧ W.cell? a4 = some v4 ∧ W.cell? a5 = some v5 ∧ W.cell? a6 = some v6 ∧ W.cell? a7 = some v7 ∧ W.cell? a8 = some v8) :
    W'.cell? a0 = some v0 ∧ W'.cell? a1 = some v1 ∧ W'.cell? a2 = some v2 ∧ W'.cell? a3 = some v3 ∧ W'.cell? a4 = some v4 ∧ W'.cell? a5 = some v5 ∧ W'.cell? a6 = some v6 ∧ W'.cell? a7 = some v7 ∧ W'.cell? a8 = some v8 :=
  ⟨hf.cell_some h.1 noB_no, hf.cell_some h.2.1 noB_no, hf.cell_some h.2.2.1 noB_no, hf.cell_some h.2.2.2.1 noB_no, hf.cell_some h.2.2.2.2.1 noB_no, hf.cell_some h.2.2.2.2.2.1 noB_no, hf.cell_some h.2.2.2.2.2.2.1 noB_no, hf.cell_some h.2.2.2.2.2.2.2.1 noB_no, hf.cell_some h.2.2.2.2.2.2.2.2 noB_no⟩

set_option maxHeartbeats 3200000 in
set_option maxRecDepth 100000 in
theorem asks_any (ps qs : List PAct) (i other : Int) (A B : Option Addr) (n m c d : Nat) (w : World) (hT : Tabs w) (h1 : ActsIn w (fun k => k < w.heap.size) A n ps) (h2 : ActsIn w (fun k => k < w.heap.size) B m qs) (hn : n ≤ 4194304) (hm : m ≤ 4194304) (hps : Short ps) (hqs : Short qs) :
    Calls Tryd.prog 10 #[.agg #[.slice A n c, .slice B m d, .int .i64 i, .int .i64 other]] w (TrueP w) := by
  have HT := Lib.hid hT
  have H1 := Lib.hid h1
  have H2 := Lib.hid h2
  have HPS := Lib.hid hps
  have HQS := Lib.hid hqs
  have hl : ps.length = n := h1.1.symm
  have HL := Lib.hid hl
  clear hT h1 h2 hps hqs hl
  go_enter Tryd.func10, Tryd.ntmps10
  go_wp2
  go_region
  go_wp2
  have HF0 := Lib.hid (((Fr.refl NoB w).alloc (.cells #[.slice A n c, .slice B m d, .int .i64 i, .int .i64 other] 44)).drew)
  have HB0 := Lib.hid (Blk.new w 44 #[.slice A n c, .slice B m d, .int .i64 i, .int .i64 other]).drew
  generalize (w.alloc (.cells #[.slice A n c, .slice B m d, .int .i64 i, .int .i64 other] 44)).drew = W0 at *
  go_loopw [13] (fun ix wr => ∃ k : Nat, k ≤ n ∧ ix = .int .i64 k ∧ Fr NoB W0 wr) (fun ix _ => n - (intOf ix).toNat)
  case atStart => exact ⟨0, Nat.zero_le _, rfl, Fr.refl _ _⟩
  case round =>
    obtain ⟨k, hk, rfl, hf⟩ := hrel
    have HF := Lib.hid hf
    by_cases hlt : k < n
    · have hlt' : (k : Int) < (n : Int) := by omega
      have hkp : k < ps.length := by rw [HL.out]; exact hlt
      obtain ⟨ga, oa, A', n', k', rfl, _, lta, hrd, _, c0, c1, c2, c3, c4, c5, c6⟩ := ((H1.out.fr HF0.out fun _ _ => noB_no).fr hf fun _ _ => noB_no).at_ (j := k) (List.getElem?_eq_getElem hkp)
      generalize ps[k] = p at *
      have CP := Lib.hid (fun (W : World) (hf : Fr NoB wr W) => paramF_any p A' n' k' i other _ W (hrd.fr hf fun _ _ => noB_no))
      have CR := Lib.hid (fun (W : World) (hf : Fr NoB wr W) => rparam_any p A' n' k' i other _ W (hrd.fr hf fun _ _ => noB_no))
      have a2 := (HB0.out.fr hf noB_no).alloc (.cells #[.int .i64 p.kind, .int .i32 p.rune, .int .u8 p.fin, .int .u8 p.priv, .slice A' n' k', .string p.inter, .string p.text] 35)
      have b2 := Blk.new wr 35 #[.int .i64 p.kind, .int .i32 p.rune, .int .u8 p.fin, .int .u8 p.priv, .slice A' n' k', .string p.inter, .string p.text]
      have HS0 := Lib.hid (show (wr.alloc (.cells #[.int .i64 p.kind, .int .i32 p.rune, .int .u8 p.fin, .int .u8 p.priv, .slice A' n' k', .string p.inter, .string p.text] 35)).cell? ⟨wr.heap.size, 0, none⟩ = some (.int .i64 p.kind) ∧ _ ∧ _ ∧ _ ∧ _ ∧ _ ∧ _ ∧ _ ∧ _ from ⟨b2.cell 0, b2.cell 1, b2.cell 2, b2.cell 3, b2.cell 4, b2.cell 5, b2.cell 6, a2.cell 2, a2.cell 3⟩)
      clear hf hrd hkp a2 b2
      generalize paramP p.params i other = v at *
      go_wp2
      go_region_held3 (fun W => W.cell? ⟨wr.heap.size, 0, none⟩ = some (.int .i64 p.kind) ∧ W.cell? ⟨wr.heap.size, 1, none⟩ = some (.int .i32 p.rune) ∧ W.cell? ⟨wr.heap.size, 2, none⟩ = some (.int .u8 p.fin) ∧ W.cell? ⟨wr.heap.size, 3, none⟩ = some (.int .u8 p.priv) ∧ W.cell? ⟨wr.heap.size, 4, none⟩ = some (.slice A' n' k') ∧ W.cell? ⟨wr.heap.size, 5, none⟩ = some (.string p.inter) ∧ W.cell? ⟨wr.heap.size, 6, none⟩ = some (.string p.text) ∧ W.cell? ⟨w.heap.size, 2, none⟩ = some (.int .i64 i) ∧ W.cell? ⟨w.heap.size, 3, none⟩ = some (.int .i64 other))
        (first | exact HS0.out | exact HS1.out | exact HS2.out)
        (first
          | (go_at_call 23
             refine (CP.out _ ?hf).mono ?_
             case hf => exact ((Fr.refl NoB wr).alloc _).drew
             rintro e w1 ⟨rfl, hf1⟩
             have hfw := (((Fr.refl NoB wr).alloc (.cells #[.int .i64 p.kind, .int .i32 p.rune, .int .u8 p.fin, .int .u8 p.priv, .slice A' n' k', .string p.inter, .string p.text] 35)).drew).trans hf1 fun _ _ h => h
             have HS1 := Lib.hid (keep9 hf1 HS0.out)
             have HW1 := Lib.hid hfw
             clear hf1 hfw)
          | (go_at_call 24
             refine (CR.out _ HW1.out).mono ?_
             rintro e w2 ⟨rfl, hf2⟩
             have hfw := HW1.out.trans hf2 fun _ _ h => h
             have HS2 := Lib.hid (keep9 hf2 HS1.out)
             have HW2 := Lib.hid hfw
             clear hf2 hfw))
      go_wp2
      exact ⟨⟨k + 1, by omega, by go_num, HF.out.trans HW2.out fun _ _ h => h⟩, by simp [intOf]; omega⟩
    · have hlt' : (n : Int) ≤ (k : Int) := by omega
      clear hf
      have HF1 := Lib.hid (HF0.out.trans HF.out fun _ _ h => h)
      have CL := Lib.hid (live_any wr (HT.out.fr HF1.out fun _ _ => noB_no))
      go_wp2_with (first
        | (go_at_call 12
           refine CL.out.mono ?_
           rintro e w2 ⟨rfl, hf2⟩
           have hfw := HF1.out.trans hf2 fun _ _ h => h
           have CV := Lib.hid (vsame_any ps qs _ _ A B n m c d w2 (H1.out.fr hfw fun _ _ => noB_no) (H2.out.fr hfw fun _ _ => noB_no) hn hm HPS.out HQS.out)
           have HF2 := Lib.hid hfw
           clear hf2 hfw CL)
        | (go_at_call 25
           refine CV.out.mono ?_
           rintro e w3 ⟨rfl, hf3⟩
           have hfw := HF2.out.trans hf3 fun _ _ h => h
           have CR := Lib.hid (rsame_any ps qs _ _ A B n m c d w3 (H1.out.fr hfw fun _ _ => noB_no) (H2.out.fr hfw fun _ _ => noB_no) hn hm HPS.out HQS.out)
           have HF3 := Lib.hid hfw
           clear hf3 hfw CV)
        | (go_at_call 13
           refine CR.out.mono ?_
           rintro e w4 ⟨rfl, hf4⟩
           have hfw := HF3.out.trans hf4 fun _ _ h => h
           have cv := vsame_any ps ps _ _ A A n n c c w4 (H1.out.fr hfw fun _ _ => noB_no) (H1.out.fr hfw fun _ _ => noB_no) hn hn HPS.out HPS.out
           rw [sameL_self] at cv
           have CV2 := Lib.hid cv
           have HF4 := Lib.hid hfw
           generalize sameL ps qs = sv at *
           clear hf4 hfw CR cv)
        | (go_at_call 25
           refine CV2.out.mono ?_
           rintro e w5 ⟨rfl, hf5⟩
           have HF5 := Lib.hid (HF4.out.trans hf5 fun _ _ h => h)
           clear hf5 CV2))
      go_ret
      exact ⟨rfl, HF5.out⟩
end Go.Proofs.YtopaeikddlpecaaDoor
