/-
  Walk: vtparse.All. Conditions: fewer than 67108862 bytes; the tables.
-/
import Derived.Test.YtopaeikddlpecaaDoorPh
namespace Go.Proofs.YtopaeikddlpecaaDoor
open Go.RowKit

/-- a slice of actions that is read; it and its parameters lie in blocks of R -/
def ActsIn (w : World) (R : Nat → Prop) (A : Option Addr) (n : Nat) (ps : List PAct) : Prop := n = ps.length ∧ ∃ cs, Rd w R 7 A n cs ∧ RepActs w R ps cs
theorem ActsIn.fr {w w' : World} {R G : Nat → Prop} {A : Option Addr} {n : Nat} {ps : List PAct} (h : ActsIn w R A n ps) (hf : Fr G w w') (hd : ∀ i, R i → ¬ G i) : ActsIn w' R A n ps := by
  obtain ⟨hn, cs, h1, h2⟩ := h
  exact ⟨hn, cs, h1.fr hf hd, h2.fr hf hd⟩
theorem ActsIn.mono {w : World} {R G : Nat → Prop} {A : Option Addr} {n : Nat} {ps : List PAct} (h : ActsIn w R A n ps) (hR : ∀ g, g < w.heap.size → R g → G g) : ActsIn w G A n ps := by
  obtain ⟨hn, cs, h1, h2⟩ := h
  exact ⟨hn, cs, h1.mono hR, h2.mono hR⟩

/-- nothing to avoid -/
@[reducible] def avNo : Inhabited AvoidSet := ⟨⟨fun _ => False⟩⟩
/-- these blocks are to be avoided -/
@[reducible] def avOf (S : Nat → Prop) : Inhabited AvoidSet := ⟨⟨S⟩⟩

/-- another set to avoid, where no action is held -/
theorem RepP.swap {w : World} {F : Nat → Prop} {g : Nat} {s : PS} (i1 i2 : Inhabited AvoidSet) (h : @RepP i1 w F g s) (ho : s.out = []) (hs : ∀ k, @Av i2 k → k < w.heap.size) : @RepP i2 w F g s := by
  obtain ⟨m, h⟩ := h
  obtain ⟨hn, cs, hos, hoa⟩ := (@RepPM.out i1 _ _ _ _ _ h)
  refine ⟨m, @RepPM.mk i2 _ _ _ _ _ (@RepPM.blk i1 _ _ _ _ _ h) (@RepPM.own i1 _ _ _ _ _ h) (@RepPM.dom i1 _ _ _ _ _ h) hs (@RepPM.dec i1 _ _ _ _ _ h) (@RepPM.par i1 _ _ _ _ _ h) ⟨hn, cs, hos, hoa.1, fun j p hp => ?_⟩⟩
  rw [ho] at hp
  simp at hp

theorem ActC.cells_one {w : World} {R : Nat → Prop} {p : PAct} {c : List Value} (h : ActC w R p c) : c.length = 7 ∧ ∀ u ∈ c, u.oneCell' = true := by
  obtain ⟨A, n, k, rfl, _, _⟩ := h
  refine ⟨rfl, fun u hu => ?_⟩
  simp only [PAct.cells, List.mem_cons, List.not_mem_nil, or_false] at hu
  rcases hu with rfl | rfl | rfl | rfl | rfl | rfl | rfl <;> rfl
theorem RepActs.cells_one {w : World} {R : Nat → Prop} {ps : List PAct} {cs : List Value} (h : RepActs w R ps cs) : ∀ u ∈ cs, u.oneCell' = true := by
  intro u hu
  obtain ⟨i, hi, he⟩ := List.getElem_of_mem hu
  have hl := h.1
  have hj : i / 7 < ps.length := by omega
  have hc := (h.2 (i / 7) ps[i / 7] (List.getElem?_eq_getElem hj)).cells_one
  refine hc.2 u (List.mem_of_getElem? (i := i % 7) ?_)
  rw [List.getElem?_take, if_pos (by omega), List.getElem?_drop]
  have e : i / 7 * 7 + i % 7 = i := by omega
  rw [e, List.getElem?_eq_getElem hi, he]

def PS.tail (s : PS) : PS := if s.state = 0 then s.clear.flush else s.clear
def allP (bs : List Int) : List PAct := (PS0.run bs).out ++ (PS0.run bs).tail.out
theorem allP_len (bs : List Int) (hb : Byts bs) : (allP bs).length ≤ bs.length := by
  have h := (PS0_inv.run bs hb).out
  unfold allP PS.tail
  rw [List.length_append]
  split
  · have h1 := prints_len { (PS0.run bs).clear with dec := [] } (runesOf (PS0.run bs).dec)
    have h2 := runesOf_len (PS0.run bs).dec
    have h3 : ({ (PS0.run bs).clear with dec := [] } : PS).out.length = 0 := rfl
    have h4 : (PS0.run bs).clear.flush.out = (({ (PS0.run bs).clear with dec := [] } : PS).prints (runesOf (PS0.run bs).dec)).out := rfl
    rw [h4]
    omega
  · have h3 : (PS0.run bs).clear.out.length = 0 := rfl
    omega

def AllR (w : World) (ps : List PAct) (e : Ending) (w' : World) : Prop := ∃ A c, e = .returned (.slice A ps.length c) ∧ ActsIn w' (fun k => k < w'.heap.size) A ps.length ps ∧ Fr NoB w w' ∧ ps.length ≤ c

set_option maxHeartbeats 1600000 in
theorem all_any (bs : List Int) (R : Nat → Prop) (B : Option Addr) (n c : Nat) (w : World) (hT : Tabs w) (hr : Rd w R 1 B n (byts bs)) (hn : n ≤ 67108862) (hbs : Byts bs) :
    Calls Tryd.prog 14 #[.slice B n c] w (AllR w (allP bs)) := by
  have hbn : bs.length = n := by have := hr.1; rw [byts_length] at this; omega
  have hr0 : Rd w (fun k => k < w.heap.size) 1 B n (byts bs) := hr.mono fun k hk _ => hk
  have HRD := Lib.hid hr0
  have HT := Lib.hid hT
  have HBS := Lib.hid hbs
  have HBN := Lib.hid hbn
  have hal := allP_len bs hbs
  have hinv := PS0_inv.run bs hbs
  have HINV := Lib.hid hinv
  have HALL := Lib.hid (show allP bs = (PS0.run bs).out ++ (PS0.run bs).tail.out from rfl)
  have HTAIL := Lib.hid (show (PS0.run bs).tail = if (PS0.run bs).state = 0 then (PS0.run bs).clear.flush else (PS0.run bs).clear from rfl)
  have hol : (PS0.run bs).out.length + (PS0.run bs).dec.length ≤ n := by have := hinv.out; omega
  clear hr hr0 hT hbs hbn hinv
  generalize allP bs = acts at *
  have CN := Lib.hid (@new_any avNo w (fun _ h => h.elim))
  have hcl : PInv bs.length (PS0.run bs).clear := by
    have h := HINV.out
    exact PInv.grow (N := bs.length) ⟨h.st, by have := h.many; exact ⟨this.1, by have := this.2; show (PS0.run bs).many ≤ _; omega⟩, h.par, h.parL, h.parR, by have := h.out; show 0 + (PS0.run bs).dec.length ≤ _; omega, h.dec⟩ (Nat.le_refl _)
  have HCL := Lib.hid hcl
  clear hcl
  have hruneq : PS0.clear.run bs = PS0.run bs := rfl
  rw [hruneq] at *
  clear hruneq
  by_cases k1 : (PS0.run bs).state = 0
  · have t1 := beq_t k1
    have ht := HTAIL.out
    rw [if_pos k1] at ht
    have HTL := Lib.hid ht
    clear ht k1 HTAIL
    generalize hrr : PS0.run bs = s at *
    have HRR := Lib.hid hrr
    have hlen : s.out.length + s.clear.flush.out.length ≤ 67108862 := by
      have h1 := HALL.out
      rw [HTL.out] at h1
      rw [← List.length_append, ← h1]
      have := HBN.out
      omega
    clear hrr
    go_enter Tryd.func14, Tryd.ntmps14
    go_wp2_with (first
      | (go_at_call 16
         refine CN.out.mono ?_
         rintro e w1 ⟨g, F, rfl, hp, hf, hF⟩
         have CP := @putP_any avNo g bs PS0 F (fun k => k < w.heap.size) B n c w1 0 hp PS0_inv (by omega) (HT.out.fr hf fun _ _ => noB_no) (fun k hk hn => by have := hF k hn; have := HT.out.lt k hk; omega) (HRD.out.fr hf fun _ _ => noB_no) (fun k hk hn => by have := hF k hn; omega) HBS.out
         have e0 : PS0.clear.run bs = s := HRR.out
         rw [e0] at CP
         have CPP := Lib.hid CP
         have HF := Lib.hid hf
         have HFF := Lib.hid hF
         clear hp hf hF CP e0)
      | (go_at_call 17
         refine CPP.out.mono ?_
         rintro e w2 ⟨A, c2, cs, F', rfl, hs, ha, hAF, hrep, hf2, hF2, hA2⟩
         have hrep2 := RepP.swap avNo (avOf (Own A)) hrep rfl (fun k hk => hs.inB hk)
         have hT2 := (HT.out.fr HF.out fun _ _ => noB_no).fr hf2 (fun k hk hn => by have := HFF.out k hn; have := HT.out.lt k hk; omega)
         obtain ⟨m2, hm2⟩ := hrep2
         have d1 : w2.cell? ⟨g, 1, none⟩ = some (.int .i64 s.state) := (@RepPM.blk (avOf (Own A)) _ _ _ _ _ hm2).cell 1
         have d2 : w2.cell? ⟨g, 2, none⟩ = some (.pointer (some ⟨m2.gd, 0, none⟩)) := (@RepPM.blk (avOf (Own A)) _ _ _ _ _ hm2).cell 2
         have CF := Lib.hid (@flushprint_pair (avOf (Own A)) g s.clear F' w2 m2 hm2 hT2 bs.length HCL.out (by have := HBN.out; omega))
         have HS := Lib.hid hs
         have HA := Lib.hid ha
         have HAF := Lib.hid hAF
         have HF2 := Lib.hid hf2
         have HFF2 := Lib.hid hF2
         have HA2 := Lib.hid hA2
         clear hs ha hAF hrep hf2 hF2 hA2 hm2 hT2)
      | (go_at_call 30
         refine CF.out.mono ?_
         rintro e w3 ⟨A1, n1, c3, rfl, hpr⟩
         have CPR := Lib.hid hpr
         clear hpr)
      | (go_at_call 29
         refine CPR.out.mono ?_
         rintro e w4 ⟨rfl, F4, ⟨m4, h4⟩, hf4, hF4⟩
         obtain ⟨hn4, cs4, hos4, hoa4⟩ := @RepPM.out (avOf (Own A)) _ _ _ _ _ h4
         have d11 : w4.cell? ⟨g, 11, none⟩ = some (.slice m4.oA s.clear.flush.out.length m4.oc) := (@RepPM.blk (avOf (Own A)) _ _ _ _ _ h4).cell 11
         have HS4 := Lib.hid (HS.out.fr hf4 HAF.out)
         have HO4 := Lib.hid hos4
         have HOA4 := Lib.hid hoa4
         have HF4 := Lib.hid hf4
         clear h4 hf4 hF4 hn4 hos4 hoa4)
      | (at_builtin
         refine wpList_append_sl w4 rfl (.tmp 21) (.tmp 25) _ rfl 35 _ 7 72 Tryd.underlying25 act_info rfl (by omega) rfl rfl HS4.out HO4.out.rd HOA4.out.cells_one (by simp only [maxLen]; omega) (by omega) ?_
         intro A5 c5 w5 hf5 hs5 hA5
         have HF5 := Lib.hid hf5
         have HS5 := Lib.hid hs5
         clear hf5 hs5 hA5))
    go_ret
    have hacts : acts = s.out ++ s.clear.flush.out := by rw [HALL.out, HTL.out]
    subst hacts
    have z1 := HF.out.size
    have z2 := HF2.out.size
    have z4 := HF4.out.size
    have z5 := HF5.out.size
    have hFw : ∀ k, F k → w.heap.size ≤ k := HFF.out
    have hF'w : ∀ k, F' k → w.heap.size ≤ k := fun k hk => by
      rcases Nat.lt_or_ge k w1.heap.size with h | h
      · exact hFw k (HFF2.out k hk h)
      · omega
    have hAw : ∀ k, Own A k → w.heap.size ≤ k := fun k hk => by
      rcases Nat.lt_or_ge k w1.heap.size with h | h
      · exact hFw k (HA2.out k hk h)
      · omega
    refine ⟨A5, c5, by rw [List.length_append]; rfl, ⟨rfl, cs ++ cs4, ?_, ?_⟩, ?_, by rw [List.length_append]; exact HS5.out.le.1⟩
    · rw [List.length_append]
      exact HS5.out.rd.mono fun k hk _ => hk
    · have h1 := (HA.out.fr HF4.out fun k hk => hk.1).fr HF5.out fun k hk => hk.2.1
      have h2 := HOA4.out.fr HF5.out fun k hk => hk.2
      exact (h1.mono (G := fun k => k < w5.heap.size) fun k hk _ => hk).append (h2.mono fun k hk _ => hk)
    · exact ((HF.out.trans HF2.out fun k hk h => by have := hFw k h; omega).trans HF4.out fun k hk h => by have := hF'w k h; omega).trans HF5.out fun k hk h => by have := hAw k h; omega
  · have t1 := bne_f k1
    have ht := HTAIL.out
    rw [if_neg k1] at ht
    have HTL := Lib.hid ht
    clear ht k1 HTAIL
    generalize hrr : PS0.run bs = s at *
    have HRR := Lib.hid hrr
    clear hrr
    go_enter Tryd.func14, Tryd.ntmps14
    go_wp2_with (first
      | (go_at_call 16
         refine CN.out.mono ?_
         rintro e w1 ⟨g, F, rfl, hp, hf, hF⟩
         have CP := @putP_any avNo g bs PS0 F (fun k => k < w.heap.size) B n c w1 0 hp PS0_inv (by omega) (HT.out.fr hf fun _ _ => noB_no) (fun k hk hn => by have := hF k hn; have := HT.out.lt k hk; omega) (HRD.out.fr hf fun _ _ => noB_no) (fun k hk hn => by have := hF k hn; omega) HBS.out
         have e0 : PS0.clear.run bs = s := HRR.out
         rw [e0] at CP
         have CPP := Lib.hid CP
         have HF := Lib.hid hf
         have HFF := Lib.hid hF
         clear hp hf hF CP e0)
      | (go_at_call 17
         refine CPP.out.mono ?_
         rintro e w2 ⟨A, c2, cs, F', rfl, hs, ha, hAF, hrep, hf2, hF2, hA2⟩
         have hrep2 := RepP.swap avNo (avOf (Own A)) hrep rfl (fun k hk => hs.inB hk)
         obtain ⟨m2, hm2⟩ := hrep2
         have d1 : w2.cell? ⟨g, 1, none⟩ = some (.int .i64 s.state) := (@RepPM.blk (avOf (Own A)) _ _ _ _ _ hm2).cell 1
         have d11 : w2.cell? ⟨g, 11, none⟩ = some (.slice m2.oA 0 m2.oc) := (@RepPM.blk (avOf (Own A)) _ _ _ _ _ hm2).cell 11
         have HS := Lib.hid hs
         have HA := Lib.hid ha
         have HAF := Lib.hid hAF
         have HF2 := Lib.hid hf2
         have HFF2 := Lib.hid hF2
         have HA2 := Lib.hid hA2
         clear hs ha hAF hrep hf2 hF2 hA2 hm2)
      | (at_builtin
         refine wpList_append_sl w2 rfl (.tmp 21) (.tmp 25) _ rfl 35 _ 7 72 Tryd.underlying25 act_info rfl (by omega) rfl rfl HS.out (Rd.nil w2 NoB 7 m2.oA) (fun u hu => by cases hu) (by simp only [maxLen]; omega) (by omega) ?_
         intro A5 c5 w5 hf5 hs5 hA5
         have HF5 := Lib.hid hf5
         have HS5 := Lib.hid hs5
         clear hf5 hs5 hA5))
    go_ret
    have hacts : acts = s.out := by rw [HALL.out, HTL.out]; simp [PS.clear]
    subst hacts
    have z1 := HF.out.size
    have z2 := HF2.out.size
    have z5 := HF5.out.size
    have hFw : ∀ k, F k → w.heap.size ≤ k := HFF.out
    have hAw : ∀ k, Own A k → w.heap.size ≤ k := fun k hk => by
      rcases Nat.lt_or_ge k w1.heap.size with h | h
      · exact hFw k (HA2.out k hk h)
      · omega
    refine ⟨A5, c5, rfl, ⟨rfl, cs, ?_, ?_⟩, ?_, HS5.out.le.1⟩
    · have h1 := HS5.out.rd.mono (G := fun k => k < w5.heap.size) fun k hk _ => hk
      rw [List.append_nil] at h1
      exact h1
    · have h1 := HA.out.fr HF5.out fun k hk => hk.2.1
      exact h1.mono fun k hk _ => hk
    · exact (HF.out.trans HF2.out fun k hk h => by have := hFw k h; omega).trans HF5.out fun k hk h => by have := hAw k h; omega
end Go.Proofs.YtopaeikddlpecaaDoor
