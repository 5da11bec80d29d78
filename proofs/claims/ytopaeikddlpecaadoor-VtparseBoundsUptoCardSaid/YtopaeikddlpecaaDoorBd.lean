/-
  Walk: the law VtparseBounds answers true. Conditions: the tables; at most 1048576 bytes.
-/
import Derived.Test.YtopaeikddlpecaaDoorLive
import Derived.Test.YtopaeikddlpecaaDoorActs
namespace Go.Proofs.YtopaeikddlpecaaDoor
open Go.RowKit

set_option maxHeartbeats 3200000 in
set_option maxRecDepth 100000 in
theorem bounds_any (bs : List Int) (R : Nat → Prop) (B : Option Addr) (n c : Nat) (w : World) (hT : Tabs w) (hr : Rd w R 1 B n (byts bs)) (hn : n ≤ 1048576) (hbs : Byts bs) :
    Calls Tryd.prog 5 #[.slice B n c] w (TrueP w) := by
  have hbn : bs.length = n := by have := hr.1; rw [byts_length] at this; omega
  have CA := Lib.hid (all_any bs R B n c w hT hr (by omega) hbs)
  have hal := allP_len bs hbs
  rw [hbn] at hal
  have HOK := Lib.hid (allP_ok bs hbs)
  have HT := Lib.hid hT
  clear hT hr hbs hbn
  generalize allP bs = acts at *
  generalize hN : acts.length = N at *
  have HN := Lib.hid hN
  clear hN
  go_enter Tryd.func5, Tryd.ntmps5
  go_wp2_with
    (go_at_call 14
     refine CA.out.mono ?_
     rintro e w1 ⟨A, c1, rfl, hin, hf, hc⟩
     rw [HN.out] at hin
     rw [HN.out]
     have HIN := Lib.hid hin
     have HF1 := Lib.hid hf
     clear hin hf hc)
  have HNN : Hid (N ≤ n) := hal
  go_loopw [18] (fun i wr => ∃ k : Nat, k ≤ N ∧ i = .int .i64 k ∧ Fr NoB w1 wr) (fun i _ => N - (intOf i).toNat)
  case atStart => exact ⟨0, Nat.zero_le _, rfl, Fr.refl _ _⟩
  case round =>
    obtain ⟨k, hk, rfl, hfr⟩ := hrel
    have HFR := Lib.hid hfr
    clear hfr
    by_cases hlt : k < N
    · have hkl : k < acts.length := by rw [HN.out]; exact hlt
      obtain ⟨ga, oa, A', n', k', hA, hRa, lta, hrd, hk', c0, c1', c2, c3, c4, c5, c6⟩ := (HIN.out.fr HFR.out fun _ _ => noB_no).at_ (j := k) (List.getElem?_eq_getElem hkl)
      have hok := HOK.out acts[k] (List.getElem_mem hkl)
      generalize acts[k] = a at *
      subst hA
      have hln : a.params.length = n' := by have := hrd.1; rw [ints_length] at this; omega
      have q1 := hok.kind.1
      have q2 := hok.kind.2
      have q3 : n' ≤ 16 := by have := hok.parL; omega
      have q4 : (a.inter.size : Int) ≤ 2 := by have := hok.inter; omega
      have q5 : (a.text.size : Int) ≤ 1024 := by have := hok.text; omega
      have HRD := Lib.hid hrd
      have HPR := Lib.hid hok.parR
      have HLN := Lib.hid hln
      clear hrd hok hln hkl hRa
      go_wp2
      obtain ⟨wo, rfl⟩ : ∃ wo : World, wo = wr := ⟨_, rfl⟩
      go_loopw [51] (fun i wr2 => ∃ j : Nat, j ≤ n' ∧ i = .int .i64 j ∧ Fr NoB wo wr2) (fun i _ => n' - (intOf i).toNat)
      case atStart => exact ⟨0, Nat.zero_le _, rfl, (Fr.refl _ _).alloc _⟩
      case round =>
        obtain ⟨j, hj, rfl, hfj⟩ := hrel
        have HFJ := Lib.hid hfj
        clear hfj c0 c1' c2 c3 c4 c5 c6 q1 q2 q3 q4 q5
        by_cases hlj : j < n'
        · obtain ⟨gp, op, u, hA, ltp, hu, hc⟩ := (HRD.out.fr HFJ.out fun _ _ => noB_no).at_ hlj
          rw [ints_at (by rw [HLN.out]; exact hlj)] at hu
          have hpr := HPR.out j
          generalize a.params.getD j 0 = x at *
          injection hu with hu
          subst hu
          subst hA
          obtain ⟨r1, r2⟩ := hpr
          go_wp2
          exact ⟨⟨j + 1, by omega, by go_num, HFJ.out⟩, by simp [intOf]; omega⟩
        · go_wp2
          exact ⟨⟨k + 1, by omega, by go_num, HFR.out.trans HFJ.out fun _ _ h => h⟩, by simp [intOf]; omega⟩
    · go_wp2_with (go_at_call 12; refine (live_any wr ?_).mono ?_; exact (((HT.out.fr HF1.out fun _ _ => noB_no).fr HFR.out fun _ _ => noB_no)); rintro e w2 ⟨rfl, hf2⟩)
      go_ret
      exact ⟨rfl, (HF1.out.trans HFR.out fun _ _ h => h).trans hf2 fun _ _ h => h⟩
end Go.Proofs.YtopaeikddlpecaaDoor
