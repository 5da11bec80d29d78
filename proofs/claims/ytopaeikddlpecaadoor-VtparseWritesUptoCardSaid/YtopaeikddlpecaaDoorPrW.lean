/-
  Walk: the law VtparsePrints answers true. Conditions: the tables; at most 1048575 runes.
-/
import Derived.Test.YtopaeikddlpecaaDoorPr
import Derived.Test.YtopaeikddlpecaaDoorLive
import Derived.Lib.ConvBytes
import Derived.BigQuiet
namespace Go.Proofs.YtopaeikddlpecaaDoor
open Go.RowKit

def okB (r : Int) : Bool := decide (32 ≤ r ∧ r ≠ 127 ∧ ¬ (128 ≤ r ∧ r ≤ 159) ∧ (r < 55296 ∨ 57343 < r) ∧ r ≤ 1114111)
theorem okB_good {l : List Int} : ∀ r ∈ l.filter okB, Good r := fun r hr => by
  have h := (List.mem_filter.1 hr).2
  simp only [okB, decide_eq_true_eq] at h
  exact ⟨h.1, h.2.1, h.2.2.1, h.2.2.2.1, h.2.2.2.2⟩

theorem fr_bytesWorld (w : World) (e : TypeId) (s : ByteArray) : Fr NoB w (Lib.bytesWorld w e s) := by
  refine ⟨?_, ?_, ?_, by rw [Lib.bytesWorld_size]; omega, fun k hk _ => Lib.bytesWorld_at_old w e s k hk⟩
  all_goals
    unfold Lib.bytesWorld World.freeze
    split <;> rfl
theorem rd_bytesWorld (w : World) (e : TypeId) (s : ByteArray) : Rd (Lib.bytesWorld w e s) (fun k => k < (Lib.bytesWorld w e s).heap.size) 1 (some ⟨w.heap.size, 0, none⟩) s.size (byts (s.data.toList.map fun b => (b.toNat : Int))) := by
  refine ⟨by simp [byts], fun hn => ⟨_, _, rfl, by rw [Lib.bytesWorld_size]; omega, by rw [Lib.bytesWorld_size]; omega, fun j u hu => ?_⟩⟩
  have hj : j < s.size := by have := (List.getElem?_eq_some_iff.1 hu).1; simpa [byts] using this
  rw [Nat.zero_add, Lib.bytesWorld_cell w e s j hj]
  have hj' : j < s.data.toList.length := by simpa using hj
  simp only [byts, List.getElem?_map, List.getElem?_eq_getElem hj', Option.map_some, Option.some.injEq] at hu
  rw [← hu]
  simp [List.getD_eq_getElem?_getD, List.getElem?_eq_getElem hj']

/-- 'string(runes)' of a slice that is read -/
theorem conv_runes {P : Program} (w : World) (src dst e : TypeId) (hs : P.underlying src = some (.slice e)) (he : P.underlying e = some (.int .i32)) (hd : P.underlying dst = some .string)
    {R : Nat → Prop} {A : Option Addr} {n c : Nat} {l : List Int} (h : Rd w R 1 A n (runes l)) (hA : A = none → n = 0) :
    (convert src dst (.slice A n c)).run P w = .ok (.string (runesBytes l)) w := by
  have hl : l.length = n := by have := h.1; rw [runes_length] at this; omega
  cases A with
  | none =>
    have h0 := hA rfl
    have : l = [] := List.eq_nil_of_length_eq_zero (by omega)
    subst this
    rw [run_convert_runes_nil w src dst e _ _ hs he hd]
    rfl
  | some a =>
    have := run_convert_runes (P := P) w src dst e a n c l (by omega) hs he hd (fun j hj => by
      obtain ⟨g, o, hA, _, _, hc⟩ := h.2 (by omega)
      injection hA with hA
      subst hA
      rw [add_plain']
      exact hc j _ (runes_at hj))
    rw [this, List.take_of_length_le (by omega)]

set_option maxHeartbeats 3200000 in
set_option maxRecDepth 100000 in
theorem printsw_any (l : List Int) (A : Option Addr) (n c : Nat) (w : World) (hT : Tabs w) (hr : Rd w (fun k => k < w.heap.size) 1 A n (runes l)) (hn : n ≤ 1048575) :
    Calls Tryd.prog 7 #[.slice A n c] w (TrueP w) := by
  have HT := Lib.hid hT
  have HR := Lib.hid hr
  have hln : l.length = n := by have := hr.1; rw [runes_length] at this; omega
  have HLN := Lib.hid hln
  clear hT hr hln
  go_enter Tryd.func7, Tryd.ntmps7
  go_wp2
  go_loopw [3, 11] (fun v3 i wr => ∃ k A2 n2 c2, k ≤ n ∧ i = .int .i64 ((k : Nat) : Int) ∧ v3 = .slice A2 n2 c2 ∧ Sl wr (NewB w) 21 1 A2 n2 c2 (runes ((l.take k).filter okB)) ∧ Fr NoB w wr) (fun _ i _ => n - (intOf i).toNat)
  case atStart => exact ⟨0, none, 0, 0, by omega, rfl, rfl, by simp [runes]; exact Sl.nil _ _ _ _, Fr.refl _ _⟩
  case round =>
    obtain ⟨k, A2, n2, c2, hk, rfl, rfl, hs, hf⟩ := hrel
    have HS := Lib.hid hs
    have HF := Lib.hid hf
    have hn2 : ((l.take k).filter okB).length = n2 := by have := hs.1; rw [runes_length] at this; omega
    have hle : n2 ≤ k := by
      have := List.length_filter_le okB (l.take k)
      rw [List.length_take] at this
      omega
    by_cases hlt : k < n
    · have hlt' : (k : Int) < (n : Int) := by omega
      obtain ⟨ga, oa, u, hA, lta, hu, hc⟩ := (HR.out.fr hf fun _ _ => noB_no).at_ hlt
      rw [runes_at (by rw [HLN.out]; exact hlt)] at hu
      have htk := take_succ' (l := l) (k := k) (by rw [HLN.out]; exact hlt)
      generalize hr0 : l.getD k 0 = r at *
      injection hu with hu
      subst hu
      subst hA
      have HTK := Lib.hid htk
      clear hs hf hn2 htk hr0
      by_cases hg : okB r = true
      · have hg' := hg
        simp only [okB, decide_eq_true_eq] at hg'
        obtain ⟨g1, g2, g3, g4, g5⟩ := hg'
        have t1 := bne_f g2
        have t2 : (r != 127) = true := by rw [bne_iff_ne]; exact g2
        have HG := Lib.hid hg
        clear hg
        rcases (by omega : (32 ≤ r ∧ r < 128 ∧ r < 55296) ∨ (128 ≤ r ∧ 159 < r ∧ r < 55296) ∨ (128 ≤ r ∧ 159 < r ∧ 55296 ≤ r ∧ 57343 < r)) with ⟨q1, q2, q3⟩ | ⟨q1, q2, q3⟩ | ⟨q1, q2, q3, q4⟩
        all_goals
          try have d1 : decide (r ≤ 159) = false := by simp; omega
          clear g2 g3 g4
          go_wp2_with
            (at_builtin
             refine wpList_append_box wr rfl (.tmp 42) (.tmp 44) _ rfl 21 _ 1 4 Tryd.underlying37 rune_info rfl (by omega) rfl rfl HS.out rfl ?c1 (by omega) (by omega) ?_
             case c1 => simp [Value.oneCell']
             intro A4 c4 w1 hf1 hs1 hA1
             have HF1 := Lib.hid hf1
             have HS1 := Lib.hid hs1
             have HA1 := Lib.hid hA1
             clear hf1 hs1 hA1)
          have hin : ∀ k, Own A2 k → NewB w k := fun k hk => HS.out.inF hk
          have hz := HF.out.size
          refine ⟨⟨k + 1, A4, n2 + 1, c4, by omega, by go_num, rfl, ?_, HF.out.trans HF1.out fun k hk ho => by have := hin k ho; unfold NewB at this; omega⟩, by simp [intOf]; omega⟩
          have e : (l.take (k + 1)).filter okB = (l.take k).filter okB ++ [r] := by rw [HTK.out, List.filter_append]; simp [HG.out]
          rw [e, runes_append]
          exact HS1.out.mono (own_after hin HA1.out fun k hk => by unfold NewB; omega)
      · have hg' : ¬ (32 ≤ r ∧ r ≠ 127 ∧ ¬ (128 ≤ r ∧ r ≤ 159) ∧ (r < 55296 ∨ 57343 < r) ∧ r ≤ 1114111) := fun h => hg (by simp only [okB, decide_eq_true_eq]; exact h)
        have HG := Lib.hid hg
        have e : (l.take (k + 1)).filter okB = (l.take k).filter okB := by rw [HTK.out, List.filter_append]; simp [hg]
        have HE := Lib.hid e
        clear e hg
        rcases (by omega : r < 32 ∨ r = 127 ∨ (32 ≤ r ∧ 128 ≤ r ∧ r ≤ 159) ∨ (32 ≤ r ∧ 128 ≤ r ∧ 159 < r ∧ 55296 ≤ r ∧ r ≤ 57343) ∨ (32 ≤ r ∧ 128 ≤ r ∧ 159 < r ∧ 55296 ≤ r ∧ 57343 < r ∧ 1114111 < r)) with q | q | ⟨q1, q2, q3⟩ | ⟨q1, q2, q3, q4, q5⟩ | ⟨q1, q2, q3, q4, q5, q6⟩
        · clear hg'
          go_wp2
          exact ⟨⟨k + 1, A2, n2, c2, by omega, by go_num, rfl, by rw [HE.out]; exact HS.out, HF.out⟩, by simp [intOf]; omega⟩
        · subst q
          clear hg'
          go_wp2
          exact ⟨⟨k + 1, A2, n2, c2, by omega, by go_num, rfl, by rw [HE.out]; exact HS.out, HF.out⟩, by simp [intOf]; omega⟩
        · have t1 : (r == 127) = false := bne_f (by omega)
          have t2 : (r != 127) = true := by rw [bne_iff_ne]; omega
          clear hg'
          go_wp2
          exact ⟨⟨k + 1, A2, n2, c2, by omega, by go_num, rfl, by rw [HE.out]; exact HS.out, HF.out⟩, by simp [intOf]; omega⟩
        · have t1 : (r == 127) = false := bne_f (by omega)
          have t2 : (r != 127) = true := by rw [bne_iff_ne]; omega
          clear hg'
          go_wp2
          exact ⟨⟨k + 1, A2, n2, c2, by omega, by go_num, rfl, by rw [HE.out]; exact HS.out, HF.out⟩, by simp [intOf]; omega⟩
        · have t1 : (r == 127) = false := bne_f (by omega)
          have t2 : (r != 127) = true := by rw [bne_iff_ne]; omega
          clear hg'
          go_wp2
          exact ⟨⟨k + 1, A2, n2, c2, by omega, by go_num, rfl, by rw [HE.out]; exact HS.out, HF.out⟩, by simp [intOf]; omega⟩
    · have e : l.take k = l := List.take_of_length_le (by rw [HLN.out]; omega)
      have hlt' : (n : Int) ≤ (k : Int) := by omega
      rw [e] at hs hn2
      have hgood := okB_good (l := l)
      generalize l.filter okB = text at *
      have hcv1 := conv_runes (P := Tryd.prog) wr 37 9 21 Tryd.underlying37 Tryd.underlying21 Tryd.underlying9 (c := c2) hs.rd (fun h => by
        rcases hs.2 with ⟨_, h2, _⟩ | ⟨_, _, h2, _⟩
        · exact h2
        · rw [h] at h2; cases h2)
      have hcv2 := Lib.run_convert_string_bytes (P := Tryd.prog) wr 9 22 5 (runesBytes text) Tryd.underlying9 Tryd.underlying22 Tryd.underlying5
      have hrd := rd_bytesWorld wr 5 (runesBytes text)
      rw [runesBytes_list] at hrd
      have hsz := runesBytes_size_le text
      have hf5 := fr_bytesWorld wr 5 (runesBytes text)
      have hfw := hf.trans hf5 fun _ _ h => h
      have CA := Lib.hid (all_any (textL text) _ _ _ (grownCap wr (runesBytes text).size 0 5) _ (HT.out.fr hfw fun _ _ => noB_no) hrd (by omega) (textL_byts text))
      rw [all_text text hgood] at CA
      have HS5 := Lib.hid (hs.fr hf5 fun _ _ => noB_no)
      have HF5 := Lib.hid hfw
      have HN2 := Lib.hid hn2
      generalize Lib.bytesWorld wr 5 (runesBytes text) = w5 at *
      generalize grownCap wr (runesBytes text).size 0 5 = cap5 at *
      clear HS HF hs hf hn2 hgood hrd hsz hf5 hfw e
      generalize runesBytes text = S at *
      go_wp2_with (first
        | (go_at_call 14
           refine CA.out.mono ?_
           rintro e w6 ⟨A6, c6, he, hin, hf6, _⟩
           rw [List.length_map, HN2.out] at he hin
           subst he
           have HIN := Lib.hid hin
           have HF6 := Lib.hid (HF5.out.trans hf6 fun _ _ h => h)
           have HS6 := Lib.hid (HS5.out.fr hf6 fun _ _ => noB_no)
           have CL := Lib.hid (live_any w6 (HT.out.fr (HF5.out.trans hf6 fun _ _ h => h) fun _ _ => noB_no))
           clear hin hf6 CA)
        | (go_at_call 12
           refine CL.out.mono ?_
           rintro e w7 ⟨rfl, hf7⟩
           have HIN7 := Lib.hid (HIN.out.fr hf7 fun _ _ => noB_no)
           have HF7 := Lib.hid (HF6.out.trans hf7 fun _ _ h => h)
           have HS7 := Lib.hid (HS6.out.fr hf7 fun _ _ => noB_no)
           clear hf7 CL))
      go_loopw [62] (fun i wr2 => ∃ j : Nat, j ≤ n2 ∧ i = .int .i64 j ∧ Fr NoB w7 wr2) (fun i _ => n2 - (intOf i).toNat)
      case atStart => exact ⟨0, Nat.zero_le _, rfl, Fr.refl _ _⟩
      case round =>
        obtain ⟨j, hj, rfl, hfj⟩ := hrel
        have HFJ := Lib.hid hfj
        by_cases hlj : j < n2
        · have hlj' : (j : Int) < (n2 : Int) := by omega
          have hjt : j < text.length := by rw [HN2.out]; exact hlj
          obtain ⟨ga, oa, A', n', k', rfl, _, lta, _, _, c0, c1', c2', c3, c4, c5, c6'⟩ := (HIN7.out.fr hfj fun _ _ => noB_no).at_ (j := j) (p := aPrint text[j]) (by simp [hjt])
          obtain ⟨gt, ot, u, rfl, ltt, hu, hct⟩ := (HS7.out.rd.fr hfj fun _ _ => noB_no).at_ hlj
          rw [runes_at hjt] at hu
          injection hu with hu
          subst hu
          have hget : text.getD j 0 = text[j] := by simp [List.getD_eq_getElem?_getD, hjt]
          rw [hget] at hct
          generalize text[j] = x at *
          have d0 : wr.cell? ⟨ga, oa + j * 7, none⟩ = some (.int .i64 1) := c0
          have d1 : wr.cell? ⟨ga, oa + j * 7 + 1, none⟩ = some (.int .i32 x) := c1'
          clear hfj hget c0 c1'
          go_wp2
          go_quiet (fail)
          go_wp2
          exact ⟨⟨j + 1, by omega, by go_num, HFJ.out.trans (((Fr.refl NoB _).alloc _).drewN nq) fun _ _ h => h⟩, by simp [intOf]; omega⟩
        · have hlj' : (n2 : Int) ≤ (j : Int) := by omega
          clear hfj
          go_wp2
          go_ret
          exact ⟨rfl, HF7.out.trans HFJ.out fun _ _ h => h⟩
end Go.Proofs.YtopaeikddlpecaaDoor
