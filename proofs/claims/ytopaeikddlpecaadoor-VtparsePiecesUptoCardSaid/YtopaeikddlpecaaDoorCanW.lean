/-
  Walk: the law VtparseCancels answers true. Conditions: the tables; at most 1048576 bytes in all.
-/
import Derived.Test.YtopaeikddlpecaaDoorSame
import Derived.Test.YtopaeikddlpecaaDoorActs
import Derived.Test.YtopaeikddlpecaaDoorCan
namespace Go.Proofs.YtopaeikddlpecaaDoor
open Go.RowKit

/-- a parser that holds no action, carried over a step that turns none of its blocks -/
theorem RepP.off {X F : Nat → Prop} {w w' : World} {g : Nat} {s : PS} (i : Inhabited AvoidSet) (h : @RepP i w F g s) (ho : s.out = []) (hf : Fr X w w') (hd : ∀ k, F k → ¬ X k) : @RepP i w' F g s := by
  obtain ⟨m, h⟩ := h
  obtain ⟨hn, cs, hos, hoa⟩ := @RepPM.out i _ _ _ _ _ h
  obtain ⟨A, n, c, hb, hF, hs⟩ := @RepPM.dec i _ _ _ _ _ h
  have hown := @RepPM.own i _ _ _ _ _ h
  refine ⟨m, @RepPM.mk i _ _ _ _ _ ((@RepPM.blk i _ _ _ _ _ h).fr hf (hd g hown)) hown (fun k hk => Nat.lt_of_lt_of_le (@RepPM.dom i _ _ _ _ _ h k hk) hf.size) (fun k hk => Nat.lt_of_lt_of_le (@RepPM.avd i _ _ _ _ _ h k hk) hf.size) ⟨A, n, c, hb.fr hf (hd _ hF), hF, hs.fr hf hd⟩ ((@RepPM.par i _ _ _ _ _ h).fr hf hd) ⟨hn, cs, hos.fr hf hd, hoa.1, fun j p hp => ?_⟩⟩
  rw [ho] at hp
  simp at hp

/-- what stands at the loop's head: a parser of its own, with no action held -/
structure CanS (w wr : World) (g : Nat) (N : Nat) (s : PS) (F : Nat → Prop) : Prop where
  rep : @RepP avNo wr F g s
  out : s.out = []
  inv : PInv N s
  tidy : s.Tidy
  ok : OutOK s
  fr : Fr NoB w wr
  new : ∀ j, F j → w.heap.size ≤ j

theorem put_can {w wr : World} {g N : Nat} {s : PS} {F R : Nat → Prop} (S : Nat → Prop) (hS : ∀ k, S k → k < wr.heap.size) (hFS : ∀ k, F k → ¬ S k) (h : CanS w wr g N s F) (hT : Tabs w) (bs : List Int) (B : Option Addr) (n c : Nat) (hN : N + n ≤ 4194302) (hr : Rd wr R 1 B n (byts bs)) (hRF : ∀ k, R k → ¬ F k) (hbs : Byts bs) :
    Calls Tryd.prog 17 #[.pointer (some ⟨g, 0, none⟩), .slice B n c] wr fun e w' => ∃ A k F', e = .returned (.slice A (s.run bs).out.length k) ∧
      ActsIn w' (fun j => j < w'.heap.size ∧ ¬ S j) A (s.run bs).out.length (s.run bs).out ∧ CanS w w' g (N + n) { s.run bs with out := [] } F' ∧ (∀ j, F' j → j < wr.heap.size → F j) ∧ Fr F wr w' ∧ (s.run bs).out.length ≤ N + n ∧ ∀ p ∈ (s.run bs).out, p.params.length ≤ 64 := by
  have hbn : bs.length = n := by have := hr.1; rw [byts_length] at this; omega
  have e0 : s.clear = s := by obtain ⟨_, _, _, _, o⟩ := s; have := h.out; simp only at this; subst this; rfl
  have hc := @putP_any (avOf S) g bs s F R B n c wr N (RepP.swap avNo (avOf S) h.rep h.out hS) h.inv hN (hT.fr h.fr fun _ _ => noB_no) (fun k hk hF => by have := h.new k hF; have := hT.lt k hk; omega) hr hRF hbs
  rw [e0] at hc
  refine hc.mono fun e w' hp => ?_
  obtain ⟨A, k, cs, F', he, hs, ha, hAF, hrep, hf, hF, hA⟩ := hp
  have hi := h.inv.run bs hbs
  have hok := h.ok.run h.inv bs hbs
  rw [hbn] at hi
  have hnew : ∀ j, F' j → w.heap.size ≤ j := fun j hj => by
    rcases Nat.lt_or_ge j wr.heap.size with hlt | hge
    · exact h.new j (hF j hj hlt)
    · have := h.fr.size; omega
  have hSA : ∀ j, Own A j → ¬ S j := fun j hj hs => hFS j (hA j hj (hS j hs)) hs
  refine ⟨A, k, F', he, ⟨rfl, cs, hs.rd.mono fun k hk ho => ⟨hk, hSA k ho⟩, ha.mono fun k hk ho => ⟨hk, ho.2.2⟩⟩,
    ⟨RepP.swap (avOf S) avNo hrep rfl (fun _ h => h.elim), rfl, ⟨hi.st, hi.many, hi.par, hi.parL, hi.parR, by have := hi.out; simp; omega, hi.dec⟩, h.tidy.run bs, ⟨by simp, hok.inter, hok.text⟩, h.fr.trans hf fun i hi hj => by have := h.new i hj; omega, hnew⟩, hF, hf, by have := hi.out; omega, fun p hp => by have := (hok.out p hp).parL; omega⟩

theorem CanS.to {w wr wx : World} {g N : Nat} {s : PS} {F X : Nat → Prop} (h : CanS w wr g N s F) (hf : Fr X wr wx) (hX : ∀ k, F k → ¬ X k) (hXw : ∀ k, X k → w.heap.size ≤ k) : CanS w wx g N s F :=
  ⟨RepP.off avNo h.rep h.out hf hX, h.out, h.inv, h.tidy, h.ok, h.fr.trans hf fun i hi hx => by have := hXw i hx; omega, h.new⟩
theorem CanS.lt {w wr : World} {g N : Nat} {s : PS} {F : Nat → Prop} (h : CanS w wr g N s F) : ∀ k, F k → k < wr.heap.size := by
  obtain ⟨m, hm⟩ := h.rep
  exact @RepPM.dom avNo _ _ _ _ _ hm
theorem CanS.grow {w wr : World} {g N M : Nat} {s : PS} {F : Nat → Prop} (h : CanS w wr g N s F) (hm : N ≤ M) : CanS w wr g M s F := ⟨h.rep, h.out, h.inv.grow hm, h.tidy, h.ok, h.fr, h.new⟩
/-- a new parser -/
theorem CanS.start {w wr w1 : World} {g : Nat} {F : Nat → Prop} (hw : Fr NoB w wr) (h : @RepP avNo w1 F g PS0) (hf : Fr NoB wr w1) (hF : ∀ k, F k → wr.heap.size ≤ k) : CanS w w1 g 0 PS0 F :=
  ⟨h, rfl, PS0_inv, fun _ => rfl, PS0_ok, hw.trans hf fun _ _ h => h, fun j hj => by have := hF j hj; have := hw.size; omega⟩

theorem byts_can : Byts [24, 26] := fun k => by
  match k with
  | 0 | 1 => simp
  | k + 2 => simp
theorem byts_single {x : Int} (h : 0 ≤ x ∧ x ≤ 255) : Byts [x] := fun k => by
  match k with
  | 0 => simpa using h
  | k + 1 => simp

/-- what stands at the loop's head in VtparseCancels -/
def CanLoop (w : World) (g gb n k : Nat) (wr : World) : Prop :=
  ∃ s F, CanS w wr g (k * (n + 1)) s F ∧ Rd wr (· = gb) 1 (some ⟨gb, 0, none⟩) 2 (byts [24, 26]) ∧ ¬ F gb ∧ gb < wr.heap.size ∧ (k = 0 ∨ (s.state = 0 ∧ s.dec = []))

set_option maxHeartbeats 6400000 in
set_option maxRecDepth 100000 in
theorem cancels_any (l1 l2 : List Int) (A B : Option Addr) (n c m d : Nat) (w : World) (hT : Tabs w) (hr1 : Rd w (fun k => k < w.heap.size) 1 A n (byts l1)) (hr2 : Rd w (fun k => k < w.heap.size) 1 B m (byts l2)) (hn : n + m ≤ 1048576) (hb1 : Byts l1) (hb2 : Byts l2) :
    Calls Tryd.prog 6 #[.slice A n c, .slice B m d] w (TrueP w) := by
  have HT := Lib.hid hT
  have H1 := Lib.hid hr1
  have H2 := Lib.hid hr2
  have HB1 := Lib.hid hb1
  have HB2 := Lib.hid hb2
  clear hT hr1 hr2 hb1 hb2
  go_enter Tryd.func6, Tryd.ntmps6
  go_wp2_with (first
    | (go_at_call 16
       refine (@new_any avNo w (fun _ h => h.elim)).mono ?_
       rintro e w1 ⟨g, F, rfl, hp, hf, hF⟩
       have HP := Lib.hid (CanS.start (Fr.refl NoB w) hp hf hF)
       have CL := Lib.hid (live_any w1 (HT.out.fr hf fun _ _ => noB_no))
       clear hp hf hF)
    | (go_at_call 12
       refine CL.out.mono ?_
       rintro e w2 ⟨rfl, hf⟩
       have HP2 := Lib.hid (HP.out.to hf (fun _ _ => noB_no) (fun _ h => h.elim))
       clear hf))
  have hgb : ¬ F w2.heap.size := fun h => by have := HP2.out.lt _ h; omega
  have HGB := Lib.hid hgb
  have HL := Lib.hid (show CanLoop w g w2.heap.size n 0 (w2.alloc (.cells #[.int .u8 24, .int .u8 26] 5)) from
    ⟨PS0, F, by rw [Nat.zero_mul]; exact HP2.out.to ((Fr.refl NoB w2).alloc _) (fun _ _ => noB_no) (fun _ h => h.elim), Rd.newF w2 5 1 #[.int .u8 24, .int .u8 26] (0, 0) 2 rfl, hgb, by simp, .inl rfl⟩)
  clear hgb
  have hnn : n ≤ 1048576 := by omega
  go_loopw [19] (fun i wr => ∃ k : Nat, k ≤ 2 ∧ i = .int .i64 k ∧ CanLoop w g w2.heap.size n k wr) (fun i _ => 2 - (intOf i).toNat)
  case atStart => exact ⟨0, by omega, rfl, HL.out⟩
  case round =>
    obtain ⟨k, hk, rfl, s, F1, hs, hrd, hgF, hlt, hz⟩ := hrel
    have HS := Lib.hid hs
    have HZ := Lib.hid hz
    by_cases hk2 : k < 2
    · obtain ⟨x, hx, hc⟩ : ∃ x : Int, (x = 24 ∨ x = 26) ∧ wr.cell? ⟨w2.heap.size, k, none⟩ = some (.int .u8 x) := by
        obtain ⟨g', o, u, hA, _, hu, hc⟩ := hrd.at_ hk2
        injection hA with hA
        injection hA with e1 e2 _
        subst e1 e2
        rw [Nat.zero_add] at hc
        rcases (by omega : k = 0 ∨ k = 1) with rfl | rfl
        · exact ⟨24, .inl rfl, by rw [hc, ← hu]; rfl⟩
        · exact ⟨26, .inr rfl, by rw [hc, ← hu]; rfl⟩
      have HX := Lib.hid hx
      have hkn : k * (n + 1) ≤ 1048577 := by
        rcases (by omega : k = 0 ∨ k = 1) with rfl | rfl <;> omega
      have CP1 := Lib.hid (put_can (fun _ => False) (fun _ h => h.elim) (fun _ _ h => h) hs HT.out l1 A n c (by omega) (H1.out.fr hs.fr fun _ _ => noB_no) (fun j hj hF => by have := hs.new j hF; omega) HB1.out)
      have HRD := Lib.hid hrd
      have HGF := Lib.hid hgF
      clear hs hrd hgF hx hz
      go_wp2_with (first
        | (go_at_call 17
           refine CP1.out.mono ?_
           rintro e w3 ⟨A1, k1, F3, rfl, _, hs3, hF3, hf3, _, _⟩
           have hs3' := hs3.to ((Fr.refl NoB w3).alloc (.cells #[.int .u8 x] 5)) (fun _ _ => noB_no) (fun _ h => h.elim)
           have hl3 := hs3.lt
           have CP2 := put_can (fun _ => False) (fun _ h => h.elim) (fun _ _ h => h) hs3' HT.out [x] (some ⟨w3.heap.size, 0, none⟩) 1 1 (by omega) (Rd.newF w3 5 1 #[.int .u8 x] (0, 0) 1 rfl) (fun j hj hF => by subst hj; have := hl3 _ hF; omega) (byts_single (by have := HX.out; omega))
           have hcan := cancel_one hs3.tidy HX.out
           have hrd3 := HRD.out.fr hf3 (fun i hi hF => by subst hi; exact HGF.out hF)
           have hgF3 : ¬ F3 w2.heap.size := fun h => HGF.out (hF3 _ h (by omega))
           have HRD3 := Lib.hid hrd3
           have HGF3 := Lib.hid hgF3
           have hsz3 := hf3.size
           generalize ({ s.run l1 with out := [] } : PS) = s3 at *
           obtain ⟨l, hout, hst, hdec⟩ := hcan
           have hrun : s3.run [x] = s3.one x := rfl
           rw [hrun, hout, List.length_append, List.length_singleton] at CP2
           generalize s3.one x = s4 at *
           have HST := Lib.hid hst
           have HDEC := Lib.hid hdec
           have HCP2 := Lib.hid CP2
           clear hs3 hF3 hf3 hs3' hl3 CP2 CP1 hrd3 hgF3 hout hst hdec hrun)
        | (go_at_call 17
           refine HCP2.out.mono ?_
           rintro e w4 ⟨A4, k4, F4, rfl, hin, hs4, hF4, hf4, hlen, _⟩
           obtain ⟨ga, oa, A', n', kk, rfl, _, lta, _, _, c0, _, c2, _, _, _, _⟩ := hin.at_ (j := l.length) (p := aExec x) (by simp)
           have CG := Lib.hid (@ground_any avNo g _ F4 w4 hs4.rep)
           have hig : ({ s4 with out := [] } : PS).isGround = true := by simp [PS.isGround, HST.out, HDEC.out]
           rw [hig] at CG
           have HS4 := Lib.hid hs4
           have HF4 := Lib.hid hF4
           have HFF4 := Lib.hid hf4
           have hll : l.length ≤ 4194302 := by omega
           generalize l.length = q at *
           clear hin hs4 hF4 hf4 hig hlen HCP2)
        | (go_at_call 18
           refine CG.out.mono ?_
           rintro e w5 ⟨rfl, rfl⟩))
      have hz4 := HFF4.out.size
      simp only [World.size_alloc] at hz4
      refine ⟨⟨k + 1, by omega, by go_num, _, F4, HS4.out.grow (by rw [Nat.add_mul]; omega), (HRD3.out.fr ((Fr.refl NoB w3).alloc _) fun _ _ => noB_no).fr HFF4.out (fun i hi hF => by subst hi; exact HGF3.out hF),
        fun h => HGF3.out (HF4.out _ h (by simp; omega)), by omega, .inr ⟨HST.out, HDEC.out⟩⟩, by simp [intOf]; omega⟩
    · obtain rfl : k = 2 := by omega
      obtain ⟨hst, hdec⟩ : s.state = 0 ∧ s.dec = [] := by
        rcases hz with h | h
        · omega
        · exact h
      have hlike : s.Like PS0 := ⟨hst, hdec, hs.out, fun h => absurd hst h⟩
      have HLK := Lib.hid (hlike.run l2)
      have hsl := hs.lt
      have HSL := Lib.hid hsl
      clear hs hrd hgF hz hst hdec hlike hsl HZ
      go_wp2_with (first
        | (go_at_call 16
           refine (@new_any avNo wr (fun _ h => h.elim)).mono ?_
           rintro e w3 ⟨gq, Fq, rfl, hq, hf, hF⟩
           have hcq := CanS.start HS.out.fr hq hf hF
           have hcp := HS.out.to hf (fun _ _ => noB_no) (fun _ h => h.elim)
           have CPP := Lib.hid (put_can Fq hcq.lt (fun j hj hq => by have := HSL.out j hj; have := hF j hq; omega) hcp HT.out l2 B m d (by omega) (H2.out.fr hcp.fr fun _ _ => noB_no) (fun j hj hF => by have := hcp.new j hF; omega) HB2.out)
           have HQ := Lib.hid hcq
           have HFQ := Lib.hid hF
           clear hq hf hF hcq hcp)
        | (go_at_call 17
           refine CPP.out.mono ?_
           rintro e w4 ⟨A4, k4, F4, rfl, hin, hs4, hF4, hf4, hlen, hp64⟩
           have hq4 := HQ.out.to hf4 (fun j hj hp => by have := HSL.out j hp; have := HFQ.out j hj; omega) HS.out.new
           have CPQ := Lib.hid (put_can (fun _ => False) (fun _ h => h.elim) (fun _ _ h => h) hq4 HT.out l2 B m d (by omega) (H2.out.fr hq4.fr fun _ _ => noB_no) (fun j hj hF => by have := hq4.new j hF; omega) HB2.out)
           have HIN := Lib.hid hin
           have HP64 := Lib.hid hp64
           have HLN := Lib.hid hlen
           clear hin hs4 hF4 hf4 hq4 hp64 hlen CPP)
        | (go_at_call 17
           refine CPQ.out.mono ?_
           rintro e w5 ⟨A5, k5, F5, rfl, hin5, hs5, hF5, hf5, _, _⟩
           have hin4 := HIN.out.fr hf5 (fun j hj => hj.2)
           have hlist : (s.run l2).out = (PS0.run l2).out := HLK.out.2.2.1
           rw [← hlist] at hin5
           have CS := same_any (s.run l2).out _ _ A4 A5 _ k4 k5 w5 hin4 hin5 (by have := HLN.out; omega) HP64.out
           rw [hlist] at CS
           rw [hlist]
           have CSS := Lib.hid CS
           have HF5 := Lib.hid hs5.fr
           clear hin5 hs5 hF5 hf5 hin4 hlist CS CPQ)
        | (go_at_call 13
           refine CSS.out.mono ?_
           rintro e w6 ⟨rfl, hf6⟩
           have HF6 := Lib.hid hf6
           clear hf6))
      go_ret
      exact ⟨rfl, HF5.out.trans HF6.out fun _ _ h => h⟩
end Go.Proofs.YtopaeikddlpecaaDoor
