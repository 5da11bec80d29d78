/-
  Walk: the law VtparsePieces answers true. Conditions: the tables; at most 1048576 bytes and parts in all.
-/
import Derived.Test.YtopaeikddlpecaaDoorPia
namespace Go.Proofs.YtopaeikddlpecaaDoor
open Go.RowKit

def bools (l : List Bool) : List Value := l.map .bool

/-- what stands at the loop's head -/
def PieLoop (w : World) (gp : Nat) (ls : List (List Int)) (k : Nat) (v6 : Value) (wr : World) : Prop :=
  ∃ s r Fp Fw gw N, v6 = .pointer (some ⟨gw, 0, none⟩) ∧ CanS w wr gp N s Fp ∧ RepQ wr Fw gw r ∧ r.out = [] ∧ Sim s r ∧ (∀ j, Fw j → w.heap.size ≤ j) ∧ (∀ j, Fp j → ¬ Fw j) ∧ N ≤ (flat ls k).length

set_option maxHeartbeats 3200000 in
set_option maxRecDepth 100000 in
theorem pieces_any (ls : List (List Int)) (A : Option Addr) (n c : Nat) (rs : List Bool) (B : Option Addr) (nb cb : Nat) (w : World) (hT : Tabs w) (hr : Parts w (fun k => k < w.heap.size) A n ls) (hrs : Rd w (fun k => k < w.heap.size) 1 B nb (bools rs)) (hnb : nb ≤ 1048576) (hn : n + (flat ls n).length ≤ 1048576) (hb : ∀ l ∈ ls, Byts l) :
    Calls Tryd.prog 8 #[.slice A n c, .slice B nb cb] w (TrueP w) := by
  have HT := Lib.hid hT
  have HR := Lib.hid hr
  have HRS := Lib.hid hrs
  have HB := Lib.hid hb
  clear hT hr hb hrs
  go_enter Tryd.func8, Tryd.ntmps8
  go_wp2_with (first
    | (go_at_call 16
       refine (@new_any avNo w (fun _ h => h.elim)).mono ?_
       rintro e w1 ⟨gp, Fp, rfl, hp, hf, hF⟩
       have HP := Lib.hid (CanS.start (Fr.refl NoB w) hp hf hF)
       clear hp hf hF)
    | (go_at_call 19
       refine (rnew_any w1).mono ?_
       rintro e w2 ⟨rfl, hq, hf⟩
       have HP2 := Lib.hid (HP.out.to hf (fun _ _ => noB_no) (fun _ h => h.elim))
       have HQ := Lib.hid hq.q
       have CL := Lib.hid (live_any w2 (HT.out.fr HP2.out.fr fun _ _ => noB_no))
       clear hq hf)
    | (go_at_call 12
       refine CL.out.mono ?_
       rintro e w3 ⟨rfl, hf⟩
       have HP3 := Lib.hid (HP2.out.to hf (fun _ _ => noB_no) (fun _ h => h.elim))
       have HQ3 := Lib.hid (HQ.out.fr hf fun _ _ => noB_no)
       clear hf))
  have HL := Lib.hid (show PieLoop w gp ls 0 (.pointer (some ⟨w1.heap.size, 0, none⟩)) w3 from
    ⟨PS0, RS0, Fp, _, w1.heap.size, 0, rfl, HP3.out, HQ3.out, rfl, PS0_sim, fun j hj => by subst hj; have := HP.out.fr.size; omega, fun j hj hw => by subst hw; have := HP.out.lt _ hj; omega, Nat.zero_le _⟩)
  have hln : ls.length = n := HR.out.1.symm
  go_loopw [6, 19] (fun v6 i wr => ∃ k : Nat, k ≤ n ∧ i = .int .i64 k ∧ PieLoop w gp ls k v6 wr) (fun _ i _ => n - (intOf i).toNat)
  case atStart => exact ⟨0, by omega, rfl, HL.out⟩
  case round =>
    obtain ⟨k, hk, rfl, s, r, Fp', Fw, gw, N, rfl, hp, hq, hro, hsim, hFw, hdis, hN⟩ := hrel
    have HPL := Lib.hid hp
    have HQL := Lib.hid hq
    have HSIM := Lib.hid hsim
    have HFW := Lib.hid hFw
    have HDIS := Lib.hid hdis
    have HRO := Lib.hid hro
    by_cases hlt : k < n
    · have hlt' : (k : Int) < (n : Int) := by omega
      have hkl : k < ls.length := by omega
      obtain ⟨g, o, D, m, cD, rfl, ltg, hc, hrD, hm⟩ := (HR.out.fr hp.fr fun _ _ => noB_no).at_ (List.getElem?_eq_getElem hkl)
      have hbs := HB.out ls[k] (List.getElem_mem hkl)
      have hlm : ls[k].length = m := by have := hrD.1; rw [byts_length] at this; omega
      have hfl := flat_le (ls := ls) (k := k + 1) (j := n) (by omega)
      have hfs := flat_succ hkl
      rw [hfs, List.length_append, hlm] at hfl
      have hNm : N + m ≤ (flat ls (k + 1)).length := by rw [hfs, List.length_append, hlm]; omega
      have CP := Lib.hid (put_can Fw hq.lt hdis hp HT.out ls[k] D m cD (by omega) hrD (fun j hj hF => by have := hp.new j hF; omega) hbs)
      have HRD := Lib.hid hrD
      have HBS := Lib.hid hbs
      have hrun := hsim.run hp.inv ls[k] hbs
      have HRUN := Lib.hid hrun
      have hok := (hp.ok.run hp.inv ls[k] hbs).out
      have HOK := Lib.hid hok
      have hpinv := hp.inv
      have HPINV := Lib.hid hpinv
      have heq := hrun.out
      have hgr : ({ s.run ls[k] with out := [] } : PS).isGround = ({ r.run ls[k] with out := [] } : RS).isGround := hrun.clear.ground_eq
      have HNM := Lib.hid hNm
      have HEQ := Lib.hid heq
      have HGR := Lib.hid hgr
      have hsz := hp.fr.size
      clear hp hq hro hsim hFw hdis hrD hbs hfs hrun hok hpinv hNm heq hgr
      have hcase : ((nb : Int) ≤ (k : Int)) ∨ (∃ gB oB, B = some ⟨gB, oB, none⟩ ∧ w.cell? ⟨gB, oB + k, none⟩ = some (.bool false) ∧ (k : Int) < (nb : Int)) ∨ (∃ gB oB, B = some ⟨gB, oB, none⟩ ∧ w.cell? ⟨gB, oB + k, none⟩ = some (.bool true) ∧ (k : Int) < (nb : Int)) := by
        by_cases hkb : k < nb
        · obtain ⟨gB, oB, u, hB, _, hu, hcB⟩ := HRS.out.at_ hkb
          simp only [bools, List.getElem?_map, Option.map_eq_some_iff] at hu
          obtain ⟨bv, _, rfl⟩ := hu
          cases bv with
          | false => exact .inr (.inl ⟨gB, oB, hB, hcB, by omega⟩)
          | true => exact .inr (.inr ⟨gB, oB, hB, hcB, by omega⟩)
        · exact .inl (by omega)
      rcases hcase with hnk | ⟨gB, oB, rfl, hcB, hkb⟩ | ⟨gB, oB, rfl, hcB, hkb⟩
      all_goals
        try have HCB := Lib.hid hcB
        try clear hcB
        go_wp2_with (first
          | (go_at_call 17
             refine CP.out.mono ?_
             rintro e w4 ⟨A4, k4, F4, rfl, hin4, hp4, hF4, hf4, hlen4, _⟩
             have hq4 := HQL.out.fr hf4 fun j hj hp => HDIS.out j hp hj
             have CR := rputs_any gw ls[k] r s Fw _ D m cD w4 N hq4 HRO.out HSIM.out HPINV.out (by omega) (HRD.out.fr hf4 fun j hj hF => by have := HPL.out.new j hF; omega) (fun j hj hF => by have := HFW.out j hF; omega) HBS.out
             have hd4 : ∀ j, F4 j → ¬ Fw j := fun j hj hw => HDIS.out j (hF4 j hj (HQL.out.lt j hw)) hw
             rw [← HEQ.out] at CR
             have CRR := Lib.hid CR
             have HIN4 := Lib.hid hin4
             have HP4 := Lib.hid hp4
             have HD4 := Lib.hid hd4
             clear hin4 hp4 hF4 hf4 hq4 CR hd4 CP)
          | (go_at_call 20
             refine CRR.out.mono ?_
             rintro e w5 ⟨F5, m5, rfl, hr5, hf5, hF5⟩
             obtain ⟨_, cs5, hos5, hoa5⟩ := hr5.out
             have hin5 := HIN4.out.fr hf5 fun j hj => hj.2
             have hin5b : ActsIn w5 (fun _ => True) m5.oA (s.run ls[k]).out.length (s.run ls[k]).out := by
               rw [HEQ.out]
               exact ⟨rfl, cs5, hos5.rd.mono fun _ _ _ => trivial, hoa5.mono fun _ _ _ => trivial⟩
             have CS := Lib.hid (same_any (s.run ls[k]).out _ _ A4 m5.oA _ k4 m5.oc w5 hin5 hin5b (by omega) (fun p hp => by have := (HOK.out p hp).parL; omega))
             have HP5 := Lib.hid (HP4.out.to hf5 HD4.out HFW.out)
             have HQ5 := Lib.hid hr5.q
             have HD5 := Lib.hid (show ∀ j, F4 j → ¬ F5 j from fun j hj h5 => HD4.out j hj (hF5 j h5 (HP4.out.lt j hj)))
             have HW5 := Lib.hid (show ∀ j, F5 j → w.heap.size ≤ j from fun j hj => by
               rcases Nat.lt_or_ge j w4.heap.size with h | h
               · exact HFW.out j (hF5 j hj h)
               · have := HP4.out.fr.size; omega)
             clear hr5 hf5 hF5 hos5 hoa5 hin5 hin5b CRR)
          | (go_at_call 13
             refine CS.out.mono ?_
             rintro e w6 ⟨rfl, hf6⟩
             have HP6 := Lib.hid (HP5.out.to hf6 (fun _ _ => noB_no) (fun _ h => h.elim))
             have HQ6 := Lib.hid (HQ5.out.fr hf6 fun _ _ => noB_no)
             have CG1 := Lib.hid (@ground_any avNo gp _ F4 w6 HP6.out.rep)
             have CG2 := Lib.hid (rground_any gw _ F5 w6 HQ6.out)
             rw [HGR.out] at CG1
             generalize (({ r.run ls[k] with out := [] } : RS).isGround) = gb at *
             try (have hcb6 := HP6.out.fr.cell_some HCB.out noB_no)
             have CRS := Lib.hid (reset_any gp _ F4 w6 HP6.out.rep)
             clear hf6 CS)
          | (go_at_call 18
             refine CG1.out.mono ?_
             rintro e w7 ⟨rfl, rfl⟩
             clear CG1)
          | (go_at_call 21
             refine CG2.out.mono ?_
             rintro e w7 ⟨rfl, rfl⟩
             clear CG2)
          | (go_at_call 22
             refine CRS.out.mono ?_
             rintro e w8 ⟨rfl, F8, hp8, hf8, hF8⟩
             have hg4 : F4 gp := by obtain ⟨m6, h6⟩ := HP6.out.rep; exact @RepPM.own avNo _ _ _ _ _ h6
             have HP8 := Lib.hid (show CanS w w8 gp 0 PS0 F8 from ⟨hp8, rfl, PS0_inv, fun _ => rfl, PS0_ok, HP6.out.fr.trans hf8 (fun i hi hx => by subst hx; have := HP6.out.new _ hg4; omega), fun j hj => by
               rcases hF8 j hj with h | h
               · subst h; exact HP6.out.new _ hg4
               · have := HP6.out.fr.size; omega⟩)
             clear hp8 hf8 hF8 hg4 CRS)
          | (go_at_call 19
             refine (rnew_any w8).mono ?_
             rintro e w9 ⟨rfl, hq9, hf9⟩
             have hp9 := HP8.out.to hf9 (fun _ _ => noB_no) (fun _ h => h.elim)
             have cg := @ground_any avNo gp _ F8 w9 hp9.rep
             rw [show PS0.isGround = true from rfl] at cg
             have CG3 := Lib.hid cg
             have HP9 := Lib.hid hp9
             have HQ9 := Lib.hid hq9.q
             have HW9 := Lib.hid (show ∀ j, j = w8.heap.size → w.heap.size ≤ j from fun j hj => by subst hj; exact HP8.out.fr.size)
             have HD9 := Lib.hid (show ∀ j, F8 j → ¬ j = w8.heap.size from fun j hj e => by have := HP8.out.lt j hj; omega)
             clear hq9 hf9 hp9 cg)
          | (go_at_call 18
             refine CG3.out.mono ?_
             rintro e w10 ⟨rfl, rfl⟩
             clear CG3))
        first
          | exact ⟨⟨k + 1, by omega, by go_num, _, _, F4, F5, gw, N + m, rfl, HP6.out, HQ6.out, rfl, HRUN.out.clear, HW5.out, HD5.out, HNM.out⟩, by simp [intOf]; omega⟩
          | exact ⟨⟨k + 1, by omega, by go_num, PS0, RS0, F8, _, _, 0, rfl, HP9.out, HQ9.out, rfl, PS0_sim, HW9.out, HD9.out, Nat.zero_le _⟩, by simp [intOf]; omega⟩
    · obtain rfl : k = n := by omega
      clear hp hq hro hsim hFw hdis hN
      go_wp2
      go_ret
      exact ⟨rfl, HPL.out.fr⟩
end Go.Proofs.YtopaeikddlpecaaDoor
