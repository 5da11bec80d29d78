/-
  Walk: the law VtparseStream answers true (under way). Conditions: the tables; at most 1048576 bytes and parts in all.
-/
import Derived.Test.YtopaeikddlpecaaDoorStr
namespace Go.Proofs.YtopaeikddlpecaaDoor
open Go.RowKit

/-- the first k parts in a row -/
def flat (ls : List (List Int)) (k : Nat) : List Int := (ls.take k).flatten

theorem flat_succ {ls : List (List Int)} {k : Nat} (h : k < ls.length) : flat ls (k + 1) = flat ls k ++ ls[k] := by
  unfold flat
  rw [List.take_succ_eq_append_getElem h, List.flatten_append]
  simp
theorem flat_le {ls : List (List Int)} {k j : Nat} (h : k ≤ j) : (flat ls k).length ≤ (flat ls j).length := by
  unfold flat
  obtain ⟨d, rfl⟩ := Nat.exists_eq_add_of_le h
  rw [List.take_add, List.flatten_append, List.length_append]
  omega

theorem byts_mem {l : List Int} (h : ∀ x ∈ l, 0 ≤ x ∧ x ≤ 255) : Byts l := fun k => by
  rcases Nat.lt_or_ge k l.length with hk | hk
  · have := h l[k] (List.getElem_mem hk)
    simpa [List.getD_eq_getElem?_getD, hk] using this
  · simp [List.getD_eq_getElem?_getD, hk]
theorem Byts.mem {l : List Int} (h : Byts l) : ∀ x ∈ l, 0 ≤ x ∧ x ≤ 255 := fun x hx => by
  obtain ⟨k, hk, rfl⟩ := List.getElem_of_mem hx
  have := h k
  simpa [List.getD_eq_getElem?_getD, hk] using this
theorem byts_flat {ls : List (List Int)} (h : ∀ l ∈ ls, Byts l) (k : Nat) : Byts (flat ls k) := byts_mem fun x hx => by
  unfold flat at hx
  obtain ⟨l, hl, hx⟩ := List.mem_flatten.1 hx
  exact (h l (List.mem_of_mem_take hl)).mem x hx

/-- what stands at the loop's head -/
def StrLoop (w : World) (gp gq : Nat) (ls : List (List Int)) (k : Nat) (v5 v6 : Value) (wr : World) : Prop :=
  ∃ Fp Fq sA sc aA ac cs, v5 = .slice sA (flat ls k).length sc ∧ v6 = .slice aA (PS0.run (flat ls k)).out.length ac ∧
    StrS w wr gp gq (flat ls k).length { PS0.run (flat ls k) with out := [] } Fp Fq sA sc (flat ls k) aA ac (PS0.run (flat ls k)).out cs

set_option maxHeartbeats 1600000 in
set_option maxRecDepth 100000 in
theorem stream_any (ls : List (List Int)) (A : Option Addr) (n c : Nat) (w : World) (hT : Tabs w) (hr : Parts w (fun k => k < w.heap.size) A n ls) (hn : n + (flat ls n).length ≤ 1048576) (hb : ∀ l ∈ ls, Byts l) :
    Calls Tryd.prog 4 #[.slice A n c] w (TrueP w) := by
  have HT := Lib.hid hT
  have HR := Lib.hid hr
  have HB := Lib.hid hb
  clear hT hr hb
  go_enter Tryd.func4, Tryd.ntmps4
  go_wp2_with (first
    | (go_at_call 16
       refine (@new_any avNo w (fun _ h => h.elim)).mono ?_
       rintro e w1 ⟨gp, Fp, rfl, hp, hf, hF⟩
       have HP := Lib.hid (CanS.start (Fr.refl NoB w) hp hf hF)
       have CN := Lib.hid (@new_any avNo w1 (fun _ h => h.elim))
       have HF1 := Lib.hid hf
       clear hp hf hF)
    | (go_at_call 16
       refine CN.out.mono ?_
       rintro e w2 ⟨gq, Fq, rfl, hq, hf, hF⟩
       have HQ := Lib.hid (CanS.start HP.out.fr hq hf hF)
       have HP2 := Lib.hid (HP.out.to hf (fun _ _ => noB_no) (fun _ h => h.elim))
       have HD := Lib.hid (show ∀ j, Fp j → ¬ Fq j from fun j hp hq => by have := HP.out.lt j hp; have := hF j hq; omega)
       have CL := Lib.hid (live_any w2 (HT.out.fr HP2.out.fr fun _ _ => noB_no))
       clear hq hf hF)
    | (go_at_call 12
       refine CL.out.mono ?_
       rintro e w3 ⟨rfl, hf⟩
       have HP3 := Lib.hid (HP2.out.to hf (fun _ _ => noB_no) (fun _ h => h.elim))
       have HQ3 := Lib.hid (HQ.out.to hf (fun _ _ => noB_no) (fun _ h => h.elim))
       clear hf))
  have HL := Lib.hid (show StrLoop w gp gq ls 0 (.slice none 0 0) (.slice none 0 0) w3 from
    ⟨Fp, Fq, none, 0, none, 0, [], rfl, rfl, HP3.out, HQ3.out, Sl.nil _ _ _ _, Sl.nil _ _ _ _, RepActs.nil _ _, HD.out, fun _ h => (by cases h), fun _ h => (by cases h)⟩)
  have hln : ls.length = n := HR.out.1.symm
  go_loopw [5, 6, 23] (fun v5 v6 i wr => ∃ k : Nat, k ≤ n ∧ i = .int .i64 k ∧ StrLoop w gp gq ls k v5 v6 wr) (fun _ _ i _ => n - (intOf i).toNat)
  case atStart => exact ⟨0, by omega, rfl, HL.out⟩
  case round =>
    obtain ⟨k, hk, rfl, Fp', Fq', sA, sc, aA, ac, cs, rfl, rfl, hst⟩ := hrel
    have HST := Lib.hid hst
    by_cases hlt : k < n
    · have hkl : k < ls.length := by omega
      obtain ⟨g, o, B, m, cB, rfl, ltg, hc, hrB, hm⟩ := (HR.out.fr hst.p.fr fun _ _ => noB_no).at_ (List.getElem?_eq_getElem hkl)
      have hbs := HB.out ls[k] (List.getElem_mem hkl)
      have hlm : ls[k].length = m := by have := hrB.1; rw [byts_length] at this; omega
      have hfl := flat_le (ls := ls) (k := k + 1) (j := n) (by omega)
      rw [flat_succ hkl, List.length_append, hlm] at hfl
      have HRB := Lib.hid hrB
      have HLM := Lib.hid hlm
      have HBS := Lib.hid hbs
      have hszw := hst.p.fr.size
      have hrun := run_two PS0 (flat ls k) ls[k]
      rw [← flat_succ hkl] at hrun
      generalize hS0 : ({ PS0.run (flat ls k) with out := [] } : PS) = s0 at *
      have HRUN := Lib.hid hrun
      have hfl1 := flat_succ hkl
      have HFL := Lib.hid hfl1
      have hout1 := (PS0_inv.run (flat ls (k + 1)) (byts_flat HB.out (k + 1))).out
      have eon : ((s0.run ls[k]).on (PS0.run (flat ls k)).out).out.length = (PS0.run (flat ls k)).out.length + (s0.run ls[k]).out.length := by simp [PS.on]
      rw [hrun, eon, hfl1, List.length_append, hlm] at hout1
      have hout2 : (PS0.run (flat ls k)).out.length + (s0.run ls[k]).out.length ≤ 1048577 := by omega
      have hsN : (flat ls k).length ≤ 1048576 := by omega
      have HS0 := Lib.hid hS0
      clear hst hrB hlm hbs hrun hfl1 hout1 eon hS0
      go_wp2_with (first
        | (at_builtin
           refine wpList_append_sl wr rfl (.tmp 27) (.tmp 28) _ rfl 5 _ 1 1 Tryd.underlying22 byte_info rfl (by omega) rfl rfl HST.out.sl HRB.out (fun u hu => by simp [byts] at hu; obtain ⟨_, _, rfl⟩ := hu; rfl) (by simp only [maxLen]; omega) (by omega) ?_
           intro sA' sc' w3 hf3 hs3 hA3
           have h3 := HST.out.bytes HLM.out hf3 hs3 hA3
           have CP := put_str (Clear Fq' sA' aA) (fun j hj => by
               rcases hj with hj | hj | hj
               · exact h3.q.lt j hj
               · exact h3.sl.inB hj
               · exact h3.al.inB hj) (fun j hj hc => by
               rcases hc with hc | hc | hc
               · exact h3.d1 j hj hc
               · exact (h3.d2 j hc).1 hj
               · exact (h3.d3 j hc).1 hj) h3.p HT.out ls[k] B m cB (by omega) (HRB.out.fr hf3 (fun j hj ho => by have := (HST.out.d2 j ho).2.2.2; omega)) (fun j hj hF => by have := h3.p.new j hF; omega) HBS.out
           have HS3 := Lib.hid h3
           have CPP := Lib.hid CP
           clear hf3 hs3 hA3 h3 CP)
        | (go_at_call 17
           refine CPP.out.mono ?_
           rintro e w4 ⟨A4, k4, F4, cs4, rfl, hrd4, hra4, hc4, hF4, hf4, hlen4, _⟩
           have HRD4 := Lib.hid hrd4
           have HRA4 := Lib.hid hra4
           have HC4 := Lib.hid hc4
           have HF4 := Lib.hid hF4
           have HFR4 := Lib.hid hf4
           have hal4 := HS3.out.al.fr hf4 (fun j hj hp => (HS3.out.d3 j hj).1 hp)
           have HAL4 := Lib.hid hal4
           clear hrd4 hra4 hc4 hF4 hf4 hlen4 hal4 CPP)
        | (at_builtin
           refine wpList_append_sl w4 rfl (.tmp 30) (.tmp 33) _ rfl 35 _ 7 72 Tryd.underlying25 act_info rfl (by omega) rfl rfl HAL4.out HRD4.out HRA4.out.cells_one (by simp only [maxLen]; omega) (by omega) ?_
           intro aA' ac' w5 hf5 hs5 hA5
           have h5 := HS3.out.put HC4.out HF4.out HFR4.out HRA4.out hf5 hs5 hA5
           have HS5 := Lib.hid h5
           clear hf5 hs5 hA5 h5))
      refine ⟨⟨k + 1, by omega, by go_num, F4, Fq', sA', sc', aA', ac', cs ++ cs4, ?_, ?_, ?_⟩, by simp [intOf]; omega⟩
      · rw [HFL.out, List.length_append, HLM.out]
      · rw [HRUN.out]; simp [PS.on]
      · have h5 := HS5.out
        rw [HRUN.out, HFL.out, List.length_append, HLM.out]
        exact h5
    · obtain rfl : k = n := by omega
      have hbf := byts_flat HB.out k
      have hout := (PS0_inv.run (flat ls k) hbf).out
      have hok := PS0_ok.run PS0_inv (flat ls k) hbf
      have h64 : ∀ p ∈ (PS0.run (flat ls k)).out, p.params.length ≤ 64 := fun p hp => by have := (hok.out p hp).parL; omega
      have CQ := put_str (fun _ => False) (fun _ h => h.elim) (fun _ _ h => h) hst.q HT.out (flat ls k) sA (flat ls k).length sc (by omega) hst.sl.rd (fun j hj => (hst.d2 j hj).2.1) hbf
      have HCQ := Lib.hid CQ
      have H64 := Lib.hid h64
      have hlo : (PS0.run (flat ls k)).out.length ≤ 4194303 := by omega
      clear hst CQ h64 hok hout hbf
      go_wp2_with fail
      go_at_call 17
      refine HCQ.out.mono ?_
      rintro e w4 ⟨A4, k4, F4, cs4, rfl, hrd4, hra4, hc4, hF4, hf4, _, _⟩
      have z4 := hf4.size
      have hin1 : ActsIn w4 (fun j => j < w4.heap.size) aA (PS0.run (flat ls k)).out.length (PS0.run (flat ls k)).out :=
        ⟨rfl, cs, (HST.out.al.fr hf4 (fun j hj => (HST.out.d3 j hj).2.1)).rd.mono fun j hj _ => hj, (HST.out.ra.fr hf4 (fun j hj => hj.2.2.1)).mono fun j hj _ => hj⟩
      have hin2 : ActsIn w4 (fun j => j < w4.heap.size) A4 (PS0.run (flat ls k)).out.length (PS0.run (flat ls k)).out :=
        ⟨rfl, cs4, hrd4.mono fun j hj _ => hj, hra4.mono fun j hj _ => hj⟩
      have CS := Lib.hid (same_any (PS0.run (flat ls k)).out _ _ aA A4 _ ac k4 w4 hin1 hin2 (by omega) H64.out)
      have HP4 := Lib.hid (HST.out.p.to hf4 (HST.out.d1) HST.out.q.new)
      have HQ4 := Lib.hid hc4
      clear hrd4 hra4 hc4 hF4 hf4 hin1 hin2 HCQ
      go_wp2_with (first
        | (go_at_call 13
           refine CS.out.mono ?_
           rintro e w6 ⟨rfl, hf6⟩
           have HP6 := Lib.hid (HP4.out.to hf6 (fun _ _ => noB_no) (fun _ h => h.elim))
           have HQ6 := Lib.hid (HQ4.out.to hf6 (fun _ _ => noB_no) (fun _ h => h.elim))
           have CG1 := Lib.hid (@ground_any avNo gp _ Fp' w6 HP6.out.rep)
           have CG2 := Lib.hid (@ground_any avNo gq _ F4 w6 HQ6.out.rep)
           have HF6 := Lib.hid HP6.out.fr
           generalize (({ PS0.run (flat ls k) with out := [] } : PS).isGround) = gb at *
           clear hf6 HP6 HQ6 HP4 HQ4)
        | (go_at_call 18
           refine CG1.out.mono ?_
           rintro e w7 ⟨rfl, rfl⟩
           clear CG1)
        | (go_at_call 18
           refine CG2.out.mono ?_
           rintro e w7 ⟨rfl, rfl⟩))
      go_ret
      exact ⟨rfl, HF6.out⟩
end Go.Proofs.YtopaeikddlpecaaDoor
