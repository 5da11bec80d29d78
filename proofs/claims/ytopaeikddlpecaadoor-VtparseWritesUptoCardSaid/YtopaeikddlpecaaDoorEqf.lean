/-
  Walks: slices.EqualFunc over vtparse.Same's function, vtparse.Same, lanyardref05.Same of whatever actions, lanyardref05.Param. Conditions: bounds on lengths.
-/
import Derived.Test.YtopaeikddlpecaaDoorEq
namespace Go.Proofs.YtopaeikddlpecaaDoor
open Go.RowKit

/-- each list of parameters is no longer than this -/
def Short (ps : List PAct) : Prop := ∀ p ∈ ps, p.params.length ≤ 67108864

set_option maxHeartbeats 3200000 in
set_option maxRecDepth 100000 in
theorem eqfunc_any (ps qs : List PAct) (R1 R2 : Nat → Prop) (A B : Option Addr) (n m c d : Nat) (w : World) (h1 : ActsIn w R1 A n ps) (h2 : ActsIn w R2 B m qs) (hn : n ≤ 67108864) (hm : m ≤ 67108864) (hps : Short ps) (hqs : Short qs) :
    Calls Tryd.prog 38 #[.slice A n c, .slice B m d, .func (.func 39) #[] #[]] w fun e w' => e = .returned (.bool (sameL ps qs)) ∧ Fr NoB w w' := by
  have hl : ps.length = n := h1.1.symm
  have hr : qs.length = m := h2.1.symm
  by_cases hnm : n = m
  · subst hnm
    have H1 := Lib.hid h1
    have H2 := Lib.hid h2
    have HL := Lib.hid hl
    have HR := Lib.hid hr
    have HPS := Lib.hid hps
    have HQS := Lib.hid hqs
    clear h1 h2 hl hr hm hps hqs
    go_enter Tryd.func38, Tryd.ntmps38
    go_wp2
    go_loopw [17] (fun i wr => ∃ k : Nat, k ≤ n ∧ i = .int .i64 k ∧ Fr NoB w wr ∧ ∀ j, j < k → eqA (ps.getD j act0) (qs.getD j act0) = true) (fun i _ => n - (intOf i).toNat)
    case atStart => exact ⟨0, Nat.zero_le _, rfl, Fr.refl _ _, fun j hj => by omega⟩
    case round =>
      obtain ⟨k, hk, rfl, hf, he⟩ := hrel
      have HF := Lib.hid hf
      have HE := Lib.hid he
      clear hf he
      by_cases hlt : k < n
      · have hlt' : (k : Int) < (n : Int) := by omega
        have hkp : k < ps.length := by rw [HL.out]; exact hlt
        have hkq : k < qs.length := by rw [HR.out]; exact hlt
        obtain ⟨ga, oa, A', n', k', rfl, _, lta, hrd, _, c0, c1, c2, c3, c4, c5, c6⟩ := (H1.out.fr HF.out fun _ _ => noB_no).at_ (j := k) (List.getElem?_eq_getElem hkp)
        obtain ⟨gb, ob, B', m', l', rfl, _, ltb, hrb, _, d0, d1, d2, d3, d4, d5, d6⟩ := (H2.out.fr HF.out fun _ _ => noB_no).at_ (j := k) (List.getElem?_eq_getElem hkq)
        have p1 := HPS.out ps[k] (List.getElem_mem hkp)
        have p2 := HQS.out qs[k] (List.getElem_mem hkq)
        have g1 : ps.getD k act0 = ps[k] := by simp [List.getD_eq_getElem?_getD, hkp]
        have g2 : qs.getD k act0 = qs[k] := by simp [List.getD_eq_getElem?_getD, hkq]
        generalize ps[k] = x at *
        generalize qs[k] = y at *
        have hxn : x.params.length = n' := by have := hrd.1; rw [ints_length] at this; omega
        have hyn : y.params.length = m' := by have := hrb.1; rw [ints_length] at this; omega
        have CS := Lib.hid (fun (W : World) (hf : Fr NoB wr W) => sameq1_any x y _ _ A' B' n' m' k' l' W (hrd.fr hf fun _ _ => noB_no) (hrb.fr hf fun _ _ => noB_no) (by omega) (by omega))
        have G1 := Lib.hid g1
        have G2 := Lib.hid g2
        clear hrd hrb hxn hyn g1 g2 p1 p2
        cases hv : eqA x y with
        | true =>
          have HV := Lib.hid hv
          rw [hv] at CS
          clear hv
          go_wp2_with
            (go_at_call 39
             refine (CS.out _ ?hf).mono ?_
             case hf => exact ((Fr.refl _ _).alloc _).alloc _
             rintro e w1 ⟨rfl, hf1⟩
             have HF1 := Lib.hid ((HF.out.alloc _).alloc _ |>.trans hf1 fun _ _ h => h)
             clear hf1)
          refine ⟨⟨k + 1, by omega, by go_num, HF1.out, fun j hj => ?_⟩, by simp [intOf]; omega⟩
          rcases (by omega : j < k ∨ j = k) with h | rfl
          · exact HE.out j h
          · rw [G1.out, G2.out]; exact HV.out
        | false =>
          have HV := Lib.hid hv
          rw [hv] at CS
          clear hv
          go_wp2_with
            (go_at_call 39
             refine (CS.out _ ?hf).mono ?_
             case hf => exact ((Fr.refl _ _).alloc _).alloc _
             rintro e w1 ⟨rfl, hf1⟩
             have HF1 := Lib.hid ((HF.out.alloc _).alloc _ |>.trans hf1 fun _ _ h => h)
             clear hf1)
          go_ret
          refine ⟨?_, HF1.out⟩
          rw [sameL_no hkp (by rw [G1.out, G2.out]; exact HV.out)]
          rfl
      · have hlt' : (n : Int) ≤ (k : Int) := by omega
        go_wp2
        go_ret
        refine ⟨?_, HF.out⟩
        rw [sameL_yes (by rw [HL.out, HR.out]) fun j hj => HE.out j (by rw [HL.out] at hj; omega)]
        rfl
  · have hlr := sameL_len (ps := ps) (qs := qs) (by omega)
    have t1 : ((n : Int) != (m : Int)) = true := neT (by omega)
    have t2 : ((n : Int) == (m : Int)) = false := bne_f (by omega)
    have HLR := Lib.hid hlr
    clear h1 h2 hl hr hlr hnm
    go_enter Tryd.func38, Tryd.ntmps38
    go_wp2
    go_ret
    exact ⟨by rw [HLR.out]; rfl, Fr.refl _ _⟩
end Go.Proofs.YtopaeikddlpecaaDoor
