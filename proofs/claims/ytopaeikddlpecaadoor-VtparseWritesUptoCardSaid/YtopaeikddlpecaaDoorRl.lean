/-
  Walks of the document's parser: New, Put, Ground, All. Conditions: fewer than 67108862 bytes; what is put lies outside the parser's own memory.
-/
import Derived.Test.YtopaeikddlpecaaDoorRk
namespace Go.Proofs.YtopaeikddlpecaaDoor
open Go.RowKit

/-- the parser, whatever list it holds -/
structure RepQM (w : World) (F : Nat → Prop) (g : Nat) (r : RS) (m : RM) (v : Value) : Prop where
  blk : Blk w g 59 ((r.blk m).setIfInBounds 8 v)
  own : F g
  dom : ∀ k, F k → k < w.heap.size
  dec : Sl w F 5 1 m.dA m.dn m.dc (byts r.dec)
  par : Sl w F 3 1 m.pA m.pn m.pc (ints r.params)
def RepQ (w : World) (F : Nat → Prop) (g : Nat) (r : RS) : Prop := ∃ m v, RepQM w F g r m v

section
variable {w w' : World} {F X : Nat → Prop} {g : Nat} {r : RS} {m : RM} {v : Value}
theorem RepRM.q (h : RepRM w F g r m) : RepQ w F g { r with out := [] } :=
  ⟨m, .slice m.oA r.out.length m.oc, by simpa [RS.blk] using h.blk, h.own, h.dom, h.dec, h.par⟩
theorem RepQ.fr (h : RepQ w F g r) (hf : Fr X w w') (hX : ∀ k, F k → ¬ X k) : RepQ w' F g r := by
  obtain ⟨m, v, h⟩ := h
  exact ⟨m, v, h.blk.fr hf (hX g h.own), h.own, fun k hk => Nat.lt_of_lt_of_le (h.dom k hk) hf.size, h.dec.fr hf hX, h.par.fr hf hX⟩
theorem RepQ.lt (h : RepQ w F g r) : ∀ k, F k → k < w.heap.size := by
  obtain ⟨m, v, h⟩ := h
  exact h.dom
/-- its list let go -/
theorem RepQM.give (h : RepQM w F g r m v) (ho : r.out = []) {G : Nat → Prop} (hG : G g) (hGF : ∀ k, G k → F k) (hd : ∀ k, Own m.dA k → G k) (hp : ∀ k, Own m.pA k → G k) : RepR (w.setCell ⟨g, 8, none⟩ (.slice none 0 0)) G g r := by
  have hf : Fr (· = g) w (w.setCell ⟨g, 8, none⟩ (.slice none 0 0)) := (Fr.refl (· = g) w).setCell (p := ⟨g, 8, none⟩) (fun _ => rfl) _
  refine ⟨{ m with oA := none, oc := 0 }, ?_, hG, fun k hk => Nat.lt_of_lt_of_le (h.dom k (hGF k hk)) hf.size, (h.dec.carry hf (Free.blk h.blk (by decide))).only.mono hd, (h.par.carry hf (Free.blk h.blk (by decide))).only.mono hp, rfl, [], ?_, ?_⟩
  · have := h.blk.put 8 (.slice none 0 0)
    simpa [RS.blk, ho] using this
  · rw [ho]; exact Sl.nil _ _ _ _
  · rw [ho]; exact RepActs.nil _ _
end

theorem RInv.clear {N : Nat} {r : RS} (h : RInv N r) : RInv N { r with out := [] } := ⟨h.st, by have := h.out; show 0 + r.dec.length ≤ N; omega, h.dec, h.par⟩

theorem rnew_any (w : World) : Calls Tryd.prog 19 #[] w fun e w' => e = .returned (.pointer (some ⟨w.heap.size, 0, none⟩)) ∧ RepRM w' (fun k => k = w.heap.size) w.heap.size RS0 ⟨none, 0, 0, none, 0, 0, none, 0⟩ ∧ Fr NoB w w' := by
  go_enter Tryd.func19, Tryd.ntmps19
  go_wp2
  go_ret
  refine ⟨rfl, ⟨?_, rfl, by rintro k rfl; simp, Sl.nil _ _ _ _, Sl.nil _ _ _ _, rfl, [], Sl.nil _ _ _ _, RepActs.nil _ _⟩, (Fr.refl NoB w).alloc _⟩
  have h := Blk.new w 59 (RS0.blk ⟨none, 0, 0, none, 0, 0, none, 0⟩)
  simpa [RS.blk, RS0] using h

def RS.isGround (r : RS) : Bool := decide (r.state = 0) && decide (r.dec = [])
theorem rground_any (g : Nat) (r : RS) (F : Nat → Prop) (w : World) (h : RepQ w F g r) :
    Calls Tryd.prog 21 #[.pointer (some ⟨g, 0, none⟩)] w fun e w' => e = .returned (.bool r.isGround) ∧ w = w' := by
  obtain ⟨m, v, h⟩ := h
  have c0 : w.cell? ⟨g, 0, none⟩ = some (.int .i64 r.state) := by rw [h.blk.cell 0]; rfl
  have c1 : w.cell? ⟨g, 1, none⟩ = some (.slice m.dA m.dn m.dc) := by rw [h.blk.cell 1]; rfl
  have hdn : r.dec.length = m.dn := by have := h.dec.1; rw [byts_length] at this; omega
  have HDN := Lib.hid hdn
  clear h hdn
  by_cases k1 : r.state = 0
  · have t1 := beq_t k1
    have hg : r.isGround = decide (r.dec = []) := by simp [RS.isGround, k1]
    rw [hg]
    have HG : Hid (decide (r.dec = []) = (((m.dn : Nat) : Int) == 0)) := Lib.hid (by
      rw [← HDN.out]
      cases r.dec with
      | nil => rfl
      | cons x l =>
        have : ((((x :: l).length : Nat) : Int) == 0) = false := bne_f (by simp; omega)
        rw [this]
        simp)
    clear k1 hg
    go_enter Tryd.func21, Tryd.ntmps21
    go_wp2
    go_ret
    refine ⟨?_, rfl⟩
    rw [HG.out]
    simp
  · have t1 := bne_f k1
    have hg : r.isGround = false := by simp [RS.isGround, k1]
    rw [hg]
    clear k1 hg
    go_enter Tryd.func21, Tryd.ntmps21
    go_wp2
    go_ret
    exact ⟨rfl, rfl⟩

theorem RS.run_snoc (r : RS) (l : List Int) (b : Int) : r.run (l ++ [b]) = (r.run l).take b := by simp [RS.run, List.foldl_append]

set_option maxHeartbeats 1600000 in
theorem rputs_any (g : Nat) (bs : List Int) (r : RS) (s : PS) (F R : Nat → Prop) (B : Option Addr) (n c : Nat) (w : World) (N : Nat) (h : RepQ w F g r) (hro : r.out = []) (hs : Sim s r) (hi : PInv N s) (hN : N + n ≤ 67108862)
    (hr : Rd w R 1 B n (byts bs)) (hRF : ∀ k, R k → ¬ F k) (hbs : Byts bs) :
    Calls Tryd.prog 20 #[.pointer (some ⟨g, 0, none⟩), .slice B n c] w fun e w' => ∃ F' m, e = .returned (.slice m.oA (r.run bs).out.length m.oc) ∧ RepRM w' F' g (r.run bs) m ∧ Fr F w w' ∧ ∀ k, F' k → k < w.heap.size → F k := by
  have hbn : bs.length = n := by have := hr.1; rw [byts_length] at this; omega
  obtain ⟨m, v, h⟩ := h
  have c8 : w.cell? ⟨g, 8, none⟩ = some v := by rw [h.blk.cell 8]; simp [RS.blk]
  have f8 := h.blk.frozen 8
  have h1 : LeftR w F g r (w.setCell ⟨g, 8, none⟩ (.slice none 0 0)) :=
    ⟨F, h.give hro h.own (fun _ hk => hk) (fun k hk => h.dec.inF hk) (fun k hk => h.par.inF hk), (Fr.refl F w).setCell (p := ⟨g, 8, none⟩) (fun _ => h.own) _, fun k hk _ => hk⟩
  have H1 := Lib.hid h1
  have HI := Lib.hid hi
  have HS := Lib.hid hs
  have HRD := Lib.hid hr
  have HRF := Lib.hid hRF
  have HBS := Lib.hid hbs
  have HBN := Lib.hid hbn
  clear h hi hs h1 hr hRF hbs hbn hro
  go_enter Tryd.func20, Tryd.ntmps20
  go_wp2
  go_loopw [5] (fun i wr => ∃ k : Nat, k ≤ n ∧ i = .int .i64 k ∧ LeftR w F g (r.run (bs.take k)) wr) (fun i _ => n - (intOf i).toNat)
  case atStart => exact ⟨0, Nat.zero_le _, rfl, H1.out⟩
  case round =>
    obtain ⟨k, hk, rfl, hl⟩ := hrel
    have HL := Lib.hid hl
    clear hl
    by_cases hlt : k < n
    · obtain ⟨F', hr', hf', hF'⟩ := HL.out
      obtain ⟨gb, ob, u, hA, ltb, hu, hc⟩ := (HRD.out.fr hf' HRF.out).at_ hlt
      rw [byts_at (by rw [HBN.out]; exact hlt)] at hu
      have hkl : k < bs.length := by rw [HBN.out]; exact hlt
      have hb := HBS.out k
      have htk := take_succ' (l := bs) (k := k) hkl
      generalize hx : bs.getD k 0 = x at *
      injection hu with hu
      subst hu
      subst hA
      have hbt : Byts (bs.take k) := fun j => by
        have := HBS.out j
        simp only [List.getD_eq_getElem?_getD, List.getElem?_take] at this ⊢
        split
        · exact this
        · simp
      have hinv := (HS.out.run HI.out (bs.take k) hbt).rinv (HI.out.run (bs.take k) hbt)
      have hlen : (bs.take k).length ≤ k := by rw [List.length_take]; omega
      have CO := Lib.hid (rtake_any g x (r.run (bs.take k)) F' wr (N + (bs.take k).length) hr' hinv (by omega) hb)
      have NX : Hid (∀ w2, LeftR wr F' g ((r.run (bs.take k)).take x) w2 → LeftR w F g (r.run (bs.take (k + 1))) w2) := Lib.hid fun w2 h2 => by
        rw [htk, RS.run_snoc]
        exact LeftR.trans hf' hF' h2
      have hlt' : (k : Int) < (n : Int) := by omega
      clear hr' hf' hF' hinv htk hx hbt
      go_wp2_with (go_at_call 37; refine CO.out.mono ?_; rintro e w1 ⟨rfl, hl1⟩; have HL1 := Lib.hid hl1; clear hl1)
      exact ⟨⟨k + 1, by omega, by go_num, NX.out _ HL1.out⟩, by simp [intOf]; omega⟩
    · have e : bs.take k = bs := List.take_of_length_le (by rw [HBN.out]; omega)
      have hl := HL.out
      rw [e] at hl
      obtain ⟨F', ⟨m2, hr'⟩, hf', hF'⟩ := hl
      have d8 : wr.cell? ⟨g, 8, none⟩ = some (.slice m2.oA (r.run bs).out.length m2.oc) := hr'.blk.cell 8
      have HR' := Lib.hid hr'
      have HF' := Lib.hid hf'
      have HFF := Lib.hid hF'
      have hlt' : (n : Int) ≤ (k : Int) := by omega
      clear hr' hf' hF' e
      go_wp2
      go_ret
      exact ⟨F', m2, rfl, HR'.out, HF'.out, HFF.out⟩

theorem RepActs.bare {w : World} {R G : Nat → Prop} {ps : List PAct} {cs : List Value} (h : RepActs w R ps cs) (hp : ∀ p ∈ ps, p.params = []) : RepActs w G ps cs := by
  refine ⟨h.1, fun j p hj => ?_⟩
  obtain ⟨A, n, k, e, hr, hk⟩ := h.2 j p hj
  have h0 := hp p (List.mem_of_getElem? hj)
  have hn : n = 0 := by have := hr.1; rw [h0] at this; simp [ints] at this; omega
  subst hn
  exact ⟨A, 0, k, e, by rw [h0]; exact Rd.nil _ _ _ _, hk⟩
theorem flush_bare (r : RS) (h : r.out = []) : ∀ p ∈ r.flush.out, p.params = [] := by
  intro p hp
  simp only [RS.flush, RS.prints, h, List.nil_append, List.mem_map] at hp
  obtain ⟨x, _, rfl⟩ := hp
  rfl

set_option maxHeartbeats 1600000 in
theorem rall_any (bs : List Int) (A : Option Addr) (n c : Nat) (w : World) (hr : Rd w (fun k => k < w.heap.size) 1 A n (byts bs)) (hn : n ≤ 67108861) (hb : Byts bs) :
    Calls Tryd.prog 15 #[.slice A n c] w (AllR w (allR bs)) := by
  have HR := Lib.hid hr
  have HB := Lib.hid hb
  have hbn : bs.length = n := by have := hr.1; rw [byts_length] at this; omega
  have hinv := PS0_inv.run bs hb
  have hsim := PS0_sim.run PS0_inv bs hb
  have hri := hsim.rinv hinv
  have hlen : (RS0.run bs).out.length + (RS0.run bs).dec.length ≤ n := by have := hri.out; omega
  have HRI := Lib.hid hri.clear
  have hall : allR bs = (RS0.run bs).out ++ (RS0.run bs).tail.out := rfl
  have htl : (RS0.run bs).tail = if (RS0.run bs).state = 0 then ({ RS0.run bs with out := [] } : RS).flush else { RS0.run bs with out := [] } := rfl
  have HALL := Lib.hid hall
  have CP := Lib.hid (fun (w1 : World) (F : Nat → Prop) (hp : RepRM w1 F w.heap.size RS0 ⟨none, 0, 0, none, 0, 0, none, 0⟩) (hf : Fr NoB w w1) (hF : ∀ k, F k → w.heap.size ≤ k) =>
    rputs_any w.heap.size bs RS0 PS0 F _ A n c w1 0 hp.q rfl PS0_sim PS0_inv (by omega) (HR.out.fr hf fun _ _ => noB_no) (fun k hk hn => by have := hF k hn; omega) HB.out)
  have hflen : ({ RS0.run bs with out := [] } : RS).flush.out.length ≤ (RS0.run bs).dec.length := by
    have h1 := rprints_len { ({ RS0.run bs with out := [] } : RS) with dec := [] } (runesOf (RS0.run bs).dec)
    have h2 := runesOf_len (RS0.run bs).dec
    have h3 : ({ ({ RS0.run bs with out := [] } : RS) with dec := [] } : RS).out.length = 0 := rfl
    have h4 : ({ RS0.run bs with out := [] } : RS).flush.out = (({ ({ RS0.run bs with out := [] } : RS) with dec := [] } : RS).prints (runesOf (RS0.run bs).dec)).out := rfl
    rw [h4]
    omega
  have hbare := flush_bare { RS0.run bs with out := [] } rfl
  have HBARE := Lib.hid hbare
  generalize allR bs = acts at *
  clear hr hb hinv hsim hri hall hbare
  generalize hrr : RS0.run bs = r at *
  have HRR := Lib.hid hrr
  clear hrr
  by_cases k1 : r.state = 0
  · rw [if_pos k1] at htl
    have HTL := Lib.hid htl
    have HK1 := Lib.hid k1
    clear htl k1
    go_enter Tryd.func15, Tryd.ntmps15
    go_wp2_with (first
      | (go_at_call 19
         refine (rnew_any w).mono ?_
         rintro e w1 ⟨rfl, hp, hf⟩
         have CPP := Lib.hid (CP.out w1 _ hp hf (fun k hk => by omega))
         have HF := Lib.hid hf
         clear hp hf)
      | (go_at_call 20
         refine CPP.out.mono ?_
         rintro e w2 ⟨F', m2, rfl, hr2, hf2, hF2⟩
         have d0 : w2.cell? ⟨w.heap.size, 0, none⟩ = some (.int .i64 0) := by rw [← HK1.out]; exact hr2.blk.cell 0
         have d8 : w2.cell? ⟨w.heap.size, 8, none⟩ = some (.slice m2.oA r.out.length m2.oc) := hr2.blk.cell 8
         have e8 : w2.frozen? ⟨w.heap.size, 8, none⟩ = false := hr2.blk.frozen 8
         obtain ⟨_, cs, hos, hoa⟩ := hr2.out
         have hgo : ¬ Own m2.oA w.heap.size := fun hk => Free.own hos (e := 59) (by decide) _ hk _ _ hr2.blk
         have hdo : ∀ k, Own m2.dA k → ¬ Own m2.oA k := fun k hk ho => by
           rcases hr2.dec.2 with ⟨hA, _⟩ | ⟨g', o, hA, _, ⟨⟨cur, fz, hh, _⟩, _⟩⟩
           · rw [hA] at hk; cases hk
           · rw [hA] at hk
             have : g' = k := by injection hk
             subst this
             exact Free.own hos (e := 5) (by decide) g' ho cur fz hh
         have hpo : ∀ k, Own m2.pA k → ¬ Own m2.oA k := fun k hk ho => by
           rcases hr2.par.2 with ⟨hA, _⟩ | ⟨g', o, hA, _, ⟨⟨cur, fz, hh, _⟩, _⟩⟩
           · rw [hA] at hk; cases hk
           · rw [hA] at hk
             have : g' = k := by injection hk
             subst this
             exact Free.own hos (e := 3) (by decide) g' ho cur fz hh
         obtain ⟨m3, hm3⟩ := (RepQM.give (r := { r with out := [] }) (m := m2) (v := .slice m2.oA r.out.length m2.oc) ⟨by simpa [RS.blk] using hr2.blk, hr2.own, hr2.dom, hr2.dec, hr2.par⟩ rfl (G := fun k => F' k ∧ ¬ Own m2.oA k) ⟨hr2.own, hgo⟩ (fun k hk => hk.1) (fun k hk => ⟨hr2.dec.inF hk, hdo k hk⟩) (fun k hk => ⟨hr2.par.inF hk, hpo k hk⟩))
         have CF := Lib.hid (rflushprint_pair w.heap.size { r with out := [] } _ _ m3 hm3 _ HRI.out (by omega))
         have HR2 := Lib.hid hr2
         have HOS := Lib.hid (hos.carry (X := (· = w.heap.size)) ((Fr.refl (· = w.heap.size) w2).setCell (p := ⟨w.heap.size, 8, none⟩) (fun _ => rfl) (.slice none 0 0)) (Free.blk hr2.blk (by decide))).only
         have HOA := Lib.hid (hoa.fr (G := (· = w.heap.size)) ((Fr.refl (· = w.heap.size) w2).setCell (p := ⟨w.heap.size, 8, none⟩) (fun _ => rfl) (.slice none 0 0)) (by rintro i hi rfl; exact hi hr2.own))
         have HOF := Lib.hid (show ∀ k, Own m2.oA k → F' k from fun k hk => hos.inF hk)
         have HF2 := Lib.hid hf2
         have HFF2 := Lib.hid hF2
         clear hr2 hf2 hF2 hos hoa hgo hdo hpo hm3 CPP)
      | (go_at_call 32
         refine CF.out.mono ?_
         rintro e w3 ⟨A1, n1, c3, rfl, hpr⟩
         have CPR := Lib.hid hpr
         clear hpr)
      | (go_at_call 31
         refine CPR.out.mono ?_
         rintro e w4 ⟨rfl, F4, ⟨m4, h4⟩, hf4, hF4⟩
         obtain ⟨hn4, cs4, hos4, hoa4⟩ := h4.out
         have d48 : w4.cell? ⟨w.heap.size, 8, none⟩ = some (.slice m4.oA ({ r with out := [] } : RS).flush.out.length m4.oc) := h4.blk.cell 8
         have HS4 := Lib.hid (HOS.out.fr hf4 fun k hk h => h.2 hk)
         have HA4 := Lib.hid (HOA.out.fr hf4 fun k hk h => hk h.1)
         have HO4 := Lib.hid hos4.rd
         have HOA4 := Lib.hid (RepActs.bare (G := NoB) hoa4 HBARE.out)
         have HF4 := Lib.hid hf4
         clear h4 hf4 hF4 hn4 hos4 hoa4)
      | (at_builtin
         refine wpList_append_sl w4 rfl (.tmp 23) (.tmp 27) _ rfl 35 _ 7 72 Tryd.underlying25 act_info rfl (by omega) rfl rfl HS4.out HO4.out HOA4.out.cells_one (by simp only [maxLen]; omega) (by omega) ?_
         intro A5 c5 w5 hf5 hs5 hA5
         have HF5 := Lib.hid hf5
         have HS5 := Lib.hid hs5
         clear hf5 hs5 hA5))
    go_ret
    have hacts : acts = r.out ++ ({ r with out := [] } : RS).flush.out := by rw [HALL.out, HTL.out]
    subst hacts
    have z1 := HF.out.size
    have z2 := HF2.out.size
    have z4 := HF4.out.size
    have z5 := HF5.out.size
    simp only [World.size_setCell] at z4
    have hF'w : ∀ k, F' k → w.heap.size ≤ k := fun k hk => by
      rcases Nat.lt_or_ge k w1.heap.size with h | h
      · have := HFF2.out k hk h; omega
      · omega
    refine ⟨A5, c5, by rw [List.length_append]; rfl, ⟨rfl, cs ++ cs4, ?_, ?_⟩, ?_, by rw [List.length_append]; exact HS5.out.le.1⟩
    · rw [List.length_append]
      exact HS5.out.rd.mono fun k hk _ => hk
    · have h1 := HA4.out.fr HF5.out fun k hk ho => hk (HOF.out k ho)
      have h2 := HOA4.out.fr HF5.out fun k hk _ => hk
      exact (h1.mono (G := fun k => k < w5.heap.size) fun k hk _ => hk).append (h2.mono fun k hk _ => hk)
    · exact (((HF.out.trans HF2.out fun k hk h => by omega).setCell (p := ⟨w.heap.size, 8, none⟩) (fun h => absurd h (Nat.lt_irrefl _)) _).trans HF4.out fun k hk h => by have := hF'w k h.1; omega).trans HF5.out fun k hk h => by have := hF'w k (HOF.out k h); omega
  · rw [if_neg k1] at htl
    have t1 := bne_f k1
    have HTL := Lib.hid htl
    clear htl k1
    go_enter Tryd.func15, Tryd.ntmps15
    go_wp2_with (first
      | (go_at_call 19
         refine (rnew_any w).mono ?_
         rintro e w1 ⟨rfl, hp, hf⟩
         have CPP := Lib.hid (CP.out w1 _ hp hf (fun k hk => by omega))
         have HF := Lib.hid hf
         clear hp hf)
      | (go_at_call 20
         refine CPP.out.mono ?_
         rintro e w2 ⟨F', m2, rfl, hr2, hf2, hF2⟩
         have d0 : w2.cell? ⟨w.heap.size, 0, none⟩ = some (.int .i64 r.state) := hr2.blk.cell 0
         have HR2 := Lib.hid hr2
         have HF2 := Lib.hid hf2
         have HFF2 := Lib.hid hF2
         clear hr2 hf2 hF2 CPP))
    go_ret
    have hacts : acts = r.out := by rw [HALL.out, HTL.out]; simp
    subst hacts
    have z1 := HF.out.size
    obtain ⟨_, cs, hos, hoa⟩ := HR2.out.out
    exact ⟨m2.oA, m2.oc, rfl, ⟨rfl, cs, hos.rd.mono fun k hk _ => hk, hoa.mono fun k hk _ => hk⟩, HF.out.trans HF2.out fun k hk h => by omega, hos.le.1⟩
end Go.Proofs.YtopaeikddlpecaaDoor
