/-
  Walk: vtparse.write gives an action's bytes, the fourth kind. Conditions: the table of powers; texts of at most 1048576 bytes, at most 1048576 parameters.
-/
import Derived.Test.YtopaeikddlpecaaDoorWw
import Derived.Test.YtopaeikddlpecaaDoorWj
import Derived.Deep.RegionHeld3
import Derived.Deep.DeepCutAuto
namespace Go.Proofs.YtopaeikddlpecaaDoor
open Go.RowKit

def strP (l : List Int) : List Value := strs (l.map fun z => ⟨(parD z).toArray⟩)
theorem strP_snoc (l : List Int) (z : Int) : strP (l ++ [z]) = strP l ++ [.string ⟨(parD z).toArray⟩] := by simp [strP, strs]

theorem step_append_by_str {P : Program} (w : World) {ops : Array Oper} {o : Oper} {a : Act} {K : Act → World → Prop} {Q : Exit → Act → World → Prop} {E : Prop} (hgd : o.guard = none) (s x : Operand) (t u : TypeId)
    (ho : o.op = .call { callee := .builtin .append, args := #[s, x], argTypes := #[t, u] })
    (e : TypeId) (ht : P.underlying t = some (.slice e)) (hu : P.underlying u = some .string) (hinfo : (P.info? e).map (fun i => (i.zero, i.size, i.bytes)) = some (some (.int .u8 0), 1, 1))
    {A : Option Addr} {n c : Nat} {xs : List Value} (hs : a.eval s = .slice A n c) {sv : ByteArray} (hx : a.eval x = .string sv)
    (h : By w e A n c xs) (hb : n + sv.size ≤ 140737488355328)
    (hk : ∀ A' c' w', Fr (Own A) w w' → By w' e A' (n + sv.size) c' (xs ++ Lib.strCells sv) → (A' = A ∨ A' = some ⟨w.heap.size, 0, none⟩) → K (a.put o.dst (.slice A' (n + sv.size) c')) w') :
    if Region.wanted o (yielded ops a.tmps) = true then Oper.wp P o a w K Q else E := by
  obtain ⟨i0, hi, hzz⟩ := Option.map_eq_some_iff.1 hinfo
  simp only [Prod.mk.injEq] at hzz
  obtain ⟨hz0, hz1, hz2⟩ := hzz
  obtain ⟨A', c', w', hrun, h2, h3, h4⟩ := run_append_by_str (P := P) w t u o.type e i0 ht hu hi hz0 hz1 hz2 h sv hb
  have hw : Region.wanted o (yielded ops a.tmps) = true := by simp [Region.wanted, hgd]
  rw [if_pos hw]
  unfold Oper.wp execOp
  simp only [ho, resolve, invoke, builtin, Sem.run_bind, Sem.run_pure, Result.andThen_ok, List.map_toArray, List.map_cons, List.map_nil, hs, hx, hrun]
  exact hk A' c' w' h2 h3 h4

theorem by_mark (w : World) (e : Nat) (C : Array Value) (hc : C.size ≤ maxLen) : By (w.alloc (.cells C e (C.size, C.size + 1))) e (some ⟨w.heap.size, 0, none⟩) C.size C.size C.toList :=
  ⟨by simp, .inr ⟨_, rfl, ⟨C, _, heap_alloc_new w _, .inr (Nat.le_refl _), Nat.le_refl _, by rw [List.take_of_length_le]; simp⟩, Nat.le_refl _, hc⟩⟩

set_option maxHeartbeats 3200000 in
set_option maxRecDepth 100000 in
theorem write_4 (p : PAct) (A : Option Addr) (n c : Nat) (w : World) (hk : p.kind = 4) (hs : p.inter.size + p.text.size ≤ 1048576) (hP : Pow w) (hr : Rd w (fun k => k < w.heap.size) 1 A n (ints p.params)) (hn : n ≤ 1048576)
    (hz : ∀ z ∈ p.params, -9223372036854775808 ≤ z ∧ z ≤ 9223372036854775807) :
    Calls Tryd.prog 41 #[.agg #[.int .i64 p.kind, .int .i32 p.rune, .int .u8 p.fin, .int .u8 p.priv, .slice A n c, .string p.inter, .string p.text]] w (NewBy w (writeL p)) := by
  have hln : p.params.length = n := by have := hr.1; rw [ints_length] at this; omega
  have hwl : writeL p = [27, 91] ++ (if p.priv = 0 then [] else [p.priv]) ++ nums8 (joinP p.params) ++ bnum p.inter ++ [p.fin] := by simp [writeL, hk]
  rw [hwl]
  have HS := Lib.hid hs
  have HK := Lib.hid hk
  have HP := Lib.hid hP
  have HR := Lib.hid hr
  have HLN := Lib.hid hln
  have HJ := Lib.hid (joinP_length p.params hz)
  have HZ := Lib.hid hz
  clear hwl hs hk hP hr hln hz
  obtain ⟨L, hL⟩ : ∃ L, L = [27, 91] ++ (if p.priv = 0 then [] else [p.priv]) ++ nums8 (joinP p.params) ++ bnum p.inter ++ [p.fin] := ⟨_, rfl⟩
  rw [← hL]
  have HL := Lib.hid hL
  clear hL
  go_enter Tryd.func41, Tryd.ntmps41
  go_upto_region 1 with (fail)
  have hb0 := ActB.new w p (.slice A n c)
  have hf0 := (Fr.refl NoB w).alloc (.cells #[.int .i64 p.kind, .int .i32 p.rune, .int .u8 p.fin, .int .u8 p.priv, .slice A n c, .string p.inter, .string p.text] 35)
  have hz0 : (w.alloc (.cells #[.int .i64 p.kind, .int .i32 p.rune, .int .u8 p.fin, .int .u8 p.priv, .slice A n c, .string p.inter, .string p.text] 35)).heap.size = w.heap.size + 1 := by simp
  generalize w.alloc (.cells #[.int .i64 p.kind, .int .i32 p.rune, .int .u8 p.fin, .int .u8 p.priv, .slice A n c, .string p.inter, .string p.text] 35) = W0 at *
  have HB0 := Lib.hid hb0
  obtain ⟨c0, c1, c2, c3, c4, c5, c6⟩ := hb0
  rw [HK.out] at c0
  have HF0 := Lib.hid hf0
  have HZ0 := Lib.hid hz0
  clear hf0 hz0
  have hcs := Lib.run_convert_bytes_const (P := Tryd.prog) W0 22 5 #[.int .u8 27, .int .u8 91] 2 2 Tryd.underlying22 Tryd.underlying5
  simp only [List.size_toArray, List.length_cons, List.length_nil] at hcs
  go_upto_region 10 with (fail)
  clear hcs
  have hb1 := HB0.out.fr ((Fr.refl NoB W0).alloc (.cells #[.int .u8 27, .int .u8 91] 5 (2, 3)))
  have hf1 := (Fr.refl NoB W0).alloc (.cells #[.int .u8 27, .int .u8 91] 5 (2, 3))
  have hby1 : By (W0.alloc (.cells #[.int .u8 27, .int .u8 91] 5 (2, 3))) 5 (some ⟨W0.heap.size, 0, none⟩) 2 2 (byts [27, 91]) := by_mark W0 5 #[.int .u8 27, .int .u8 91] (by simp [maxLen])
  generalize W0.alloc (.cells #[.int .u8 27, .int .u8 91] 5 (2, 3)) = W1 at *
  clear c0 c1 c2 c3 c4 c5 c6
  have HB1 := Lib.hid hb1
  obtain ⟨c0, c1, c2, c3, c4, c5, c6⟩ := hb1
  rw [HK.out] at c0
  have HF1 := Lib.hid hf1
  have HY1 := Lib.hid hby1
  clear hf1 hby1
  go_upto_if 37 with (fail)
  go_cut [3] (fun v3 wx => ∃ B m d, v3 = .slice B m d ∧ By wx 5 B m d (byts ([27, 91] ++ (if p.priv = 0 then [] else [p.priv]))) ∧ Fr NoB W0 wx ∧ m ≤ 3 ∧ ∀ k, Own B k → W0.heap.size ≤ k)
  case first =>
    by_cases hp : p.priv = 0
    · have t1 : (p.priv != 0) = false := by simp [hp]
      have HPV := Lib.hid hp
      clear hp
      go_wp2
      go_meet
      refine ⟨_, _, _, rfl, by rw [if_pos HPV.out]; exact HY1.out, HF1.out, by omega, fun k hk => ?_⟩
      have hk2 : W0.heap.size = k := by injection hk
      omega
    · have t1 : (p.priv != 0) = true := by rw [bne_iff_ne]; exact hp
      have HPV := Lib.hid hp
      clear hp
      go_wp2_with
        (at_builtin
         refine wpList_append_by_box W1 rfl (.tmp 38) (.tmp 41) _ rfl 5 Tryd.underlying22 byte_info rfl rfl HY1.out (by omega) ?_
         intro A4 c4 w1 hf2 hs1 hA1
         have HF2 := Lib.hid hf2
         have HS1 := Lib.hid hs1
         have HA1 := Lib.hid hA1
         clear hf2 hs1 hA1)
      go_meet
      refine ⟨_, _, _, rfl, by rw [if_neg HPV.out, byts_append]; exact HS1.out, HF1.out.trans HF2.out fun k hk ho => ?_, by omega, fun k hk => ?_⟩
      · have hk2 : W0.heap.size = k := by injection ho
        omega
      · have := HF1.out.size
        rcases HA1.out with h | ⟨g, h, hg⟩
        · rw [h] at hk
          have hk2 : W0.heap.size = k := by injection hk
          omega
        · rw [h] at hk
          have hk2 : g = k := by injection hk
          omega
  case rest =>
    obtain ⟨B, m, d, rfl, hby, hfx, hm3, hown⟩ := hcut
    clear c0 c1 c2 c3 c4 c5 c6
    have hb2 := HB0.out.fr hfx
    have HB2 := Lib.hid hb2
    obtain ⟨c0, c1, c2, c3, c4, c5, c6⟩ := hb2
    have HFX := Lib.hid (HF0.out.trans hfx fun _ _ h => h)
    have HBY := Lib.hid hby
    have HOWN := Lib.hid fun k (hk : Own B k) => show w.heap.size < k by have := hown k hk; have := HZ0.out; omega
    have HWC := Lib.hid hfx.size
    clear hfx hby hown
    go_wp2
    go_loopw [4, 46] (fun v4 i wr => ∃ k A4 d4, k ≤ n ∧ i = .int .i64 ((k : Nat) : Int) ∧ v4 = .slice A4 k d4 ∧ Sl wr (NewB wc) 9 1 A4 k d4 (strP (p.params.take k)) ∧ Fr NoB wc wr) (fun _ i _ => n - (intOf i).toNat)
    case atStart => exact ⟨0, none, 0, by omega, rfl, rfl, by simp [strP, strs]; exact Sl.nil _ _ _ _, Fr.refl _ _⟩
    case round =>
      obtain ⟨k, A4, d4, hk, rfl, rfl, hs4, hf4⟩ := hrel
      have HS4 := Lib.hid hs4
      have HF4 := Lib.hid hf4
      by_cases hlt : k < n
      · have hlt' : (k : Int) < (n : Int) := by omega
        obtain ⟨ga, oa, u, hA, lta, hu, hc⟩ := ((HR.out.fr HFX.out fun _ _ => noB_no).fr hf4 fun _ _ => noB_no).at_ hlt
        rw [ints_at (by rw [HLN.out]; exact hlt)] at hu
        have htk := take_succ' (l := p.params) (k := k) (by rw [HLN.out]; exact hlt)
        have hzm : p.params.getD k 0 ∈ p.params := by
          have hl : k < p.params.length := by rw [HLN.out]; exact hlt
          rw [List.getD_eq_getElem?_getD, List.getElem?_eq_getElem hl]
          exact List.getElem_mem hl
        have hzb := HZ.out _ hzm
        generalize p.params.getD k 0 = z at *
        injection hu with hu
        subst hu
        subst hA
        have HTK := Lib.hid htk
        have HZB := Lib.hid hzb
        clear hs4 hf4 htk hzm hzb
        have hin : ∀ k, Own A4 k → NewB wc k := fun k hk => HS4.out.inF hk
        have HIN := Lib.hid hin
        clear hin
        by_cases hz1 : z = -1
        · subst hz1
          go_wp2_with
            (at_builtin
             refine wpList_append_box wr rfl (.tmp 54) (.tmp 56) _ rfl 9 _ 1 16 Tryd.underlying76 str_info rfl (by omega) rfl rfl HS4.out rfl ?c1 (by omega) (by omega) ?_
             case c1 => simp [Value.oneCell']
             intro A5 d5 w1 hf5 hs5 hA5
             have HF5 := Lib.hid hf5
             have HS5 := Lib.hid hs5
             have HA5 := Lib.hid hA5
             clear hf5 hs5 hA5)
          have hz := HF4.out.size
          refine ⟨⟨k + 1, A5, d5, by omega, by go_num, rfl, ?_, HF4.out.trans HF5.out fun k hk ho => by have := HIN.out k ho; unfold NewB at this; omega⟩, by simp [intOf]; omega⟩
          rw [HTK.out, strP_snoc]
          exact HS5.out.mono (own_after HIN.out HA5.out fun k hk => by unfold NewB; omega)
        · have t1 : (z != -1) = true := by rw [bne_iff_ne]; exact hz1
          have HZ1 := Lib.hid hz1
          clear hz1
          have CI := Lib.hid (itoa_any z wr HZB.out.1 HZB.out.2 ((HP.out.fr HFX.out).fr HF4.out))
          go_wp2_with (first
            | (go_at_call 43
               refine CI.out.mono ?_
               rintro e w1 ⟨rfl, hfi⟩
               have HSI := Lib.hid (HS4.out.fr hfi fun _ _ => noB_no)
               have HFI := Lib.hid (HF4.out.trans hfi fun _ _ h => h)
               clear hfi CI)
            | (at_builtin
               refine wpList_append_box w1 rfl (.tmp 54) (.tmp 56) _ rfl 9 _ 1 16 Tryd.underlying76 str_info rfl (by omega) rfl rfl HSI.out rfl ?c1 (by omega) (by omega) ?_
               case c1 => simp [Value.oneCell']
               intro A5 d5 w2 hf5 hs5 hA5
               have HF5 := Lib.hid hf5
               have HS5 := Lib.hid hs5
               have HA5 := Lib.hid hA5
               clear hf5 hs5 hA5))
          have hz := HFI.out.size
          refine ⟨⟨k + 1, A5, d5, by omega, by go_num, rfl, ?_, HFI.out.trans HF5.out fun k hk ho => by have := HIN.out k ho; unfold NewB at this; omega⟩, by simp [intOf]; omega⟩
          rw [HTK.out, strP_snoc]
          have e : parD z = Lib.itoa z := by rw [parD, if_neg HZ1.out]
          rw [e]
          exact HS5.out.mono (own_after HIN.out HA5.out fun k hk => by unfold NewB; omega)
      · have e : p.params.take k = p.params := List.take_of_length_le (by rw [HLN.out]; omega)
        rw [e] at hs4
        obtain rfl : k = n := by omega
        clear HS4
        have HS4 := Lib.hid hs4
        clear hs4 hf4
        go_wp2
        have CJ := Lib.hid fun (W : World) (hf : Fr NoB wr W) => join_any p.params A4 k d4 W (HS4.out.fr hf fun _ _ => noB_no) hn (by have := HJ.out; have := HLN.out; omega)
        have HBR := Lib.hid (HBY.out.fr HF4.out fun _ _ => noB_no)
        have hb5 := HB2.out.fr HF4.out
        clear c0 c1 c2 c3 c4 c5 c6
        have q2 := hb5.2.2.1
        have q5 := hb5.2.2.2.2.2.1
        have HB5 := Lib.hid hb5
        clear hb5
        have hjl := HJ.out
        have hsl := HS.out
        have hll := HLN.out
        have l1 : ¬ 9223372036854775807 < (joinP p.params).length + p.inter.size := by omega
        have HLE := Lib.hid (show m + ((joinP p.params).length + p.inter.size) ≤ 140737488355000 by omega)
        clear hjl hsl hll
        go_region_held3 (fun W => W.cell? ⟨w.heap.size, 5, none⟩ = some (.string p.inter))
          (first | exact q5 | exact HQ1.out | exact HQ2.out)
          (first
            | (go_at_call 60
               refine (CJ.out _ ?hf).mono ?_
               case hf => exact (Fr.refl NoB wr).drew
               rintro e w1 ⟨rfl, hfj0⟩
               have hfj := ((Fr.refl NoB wr).drew).trans hfj0 fun _ _ h => h
               have HQ1 := Lib.hid (hfj.cell_some q5 noB_no)
               have HFJ1 := Lib.hid hfj
               have HFJ := Lib.hid (HF4.out.trans hfj fun _ _ h => h)
               have r2 := hfj.cell_some q2 noB_no
               clear hfj hfj0 CJ)
            | (refine step_append_by_str _ rfl (.tmp 59) (.tmp 64) _ _ rfl 5 Tryd.underlying22 Tryd.underlying9 byte_info rfl rfl (HBR.out.fr (G := NoB) ?fj fun _ _ => noB_no) ?hb ?_
               case fj => first | exact HFJ1.out | fail
               case hb =>
                 have := HLE.out
                 simp only [ByteArray.size_append, size_mk]
                 omega
               intro A6 d6 w2 hf6 hs6 hA6
               have HQ2 := Lib.hid (hf6.cell_some HQ1.out fun hh => by have := HOWN.out _ hh; simp at this)
               have r3 := hf6.cell_some r2 fun hh => by have := HOWN.out _ hh; simp at this
               simp only [ByteArray.size_append, size_mk] at hs6
               have HF6 := Lib.hid hf6
               have HS6 := Lib.hid hs6
               have HA6 := Lib.hid hA6
               clear hf6 hs6 hA6))
        go_wp2_with
          (at_builtin
           refine wpList_append_by_box w2 rfl (.tmp 66) (.tmp 69) _ rfl 5 Tryd.underlying22 byte_info rfl rfl HS6.out (by have := HLE.out; omega) ?_
           intro A7 d7 w3 hf7 hs7 hA7
           have HF7 := Lib.hid hf7
           have HS7 := Lib.hid hs7
           have HA7 := Lib.hid hA7
           clear hf7 hs7 hA7)
        go_ret
        rw [HL.out]
        have f3 : Fr NoB w w1 := HFX.out.trans HFJ.out fun _ _ h => h
        have f4 : Fr NoB w w2 := f3.trans HF6.out fun k hk ho => by
          have := HOWN.out k ho
          omega
        have own6 : ∀ k, Own A6 k → w.heap.size ≤ k := fun k hk => by
          rcases HA6.out with h | h
          · rw [h] at hk
            exact Nat.le_of_lt (HOWN.out k hk)
          · rw [h] at hk
            have hk2 : w1.heap.size = k := by injection hk
            have := f3.size
            omega
        refine ⟨_, _, _, rfl, ?_, f4.trans HF7.out fun k hk ho => by have := own6 k ho; omega, fun k hk => ?_⟩
        · have h7 := HS7.out
          have e1 : Lib.strCells ((⟨(joinP p.params).toArray⟩ : ByteArray) ++ p.inter) = byts (nums8 (joinP p.params) ++ bnum p.inter) := by
            rw [strCells_byts]
            simp [bnum, nums8]
          rw [e1, ← byts_append, ← byts_append, ← List.append_assoc] at h7
          exact h7
        · rcases HA7.out with h | ⟨g, h, hg⟩
          · rw [h] at hk
            exact own6 k hk
          · rw [h] at hk
            have hk2 : g = k := by injection hk
            have := f4.size
            omega
end Go.Proofs.YtopaeikddlpecaaDoor
