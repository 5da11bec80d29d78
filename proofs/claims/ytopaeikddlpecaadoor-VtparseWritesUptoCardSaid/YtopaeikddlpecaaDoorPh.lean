/-
  Walks: vtparse.New, Parser.Put, Ground. Conditions: fewer than 67108864 bytes; the tables; what is put lies outside the parser's own memory.
-/
import Derived.Test.YtopaeikddlpecaaDoorInv
namespace Go.Proofs.YtopaeikddlpecaaDoor
open Go.RowKit

def PS0 : PS := ⟨0, [], act0, 0, []⟩
theorem PS0_inv : PInv 0 PS0 := ⟨by show (0 : Int) ≤ 0 ∧ (0 : Int) ≤ 13; omega, ⟨by show (0 : Int) ≤ 0; omega, by show (0 : Int) ≤ _; omega⟩, fun _ h => absurd h (by show ¬ (1 : Int) ≤ 0; omega), by simp [PS0, act0], fun k => by simp [PS0, act0], by simp [PS0], Byts.nil⟩

/-- a new parser -/
def NewP [Inhabited AvoidSet] (w : World) (e : Ending) (w' : World) : Prop := ∃ g F, e = .returned (.pointer (some ⟨g, 0, none⟩)) ∧ RepP w' F g PS0 ∧ Fr NoB w w' ∧ ∀ k, F k → w.heap.size ≤ k

theorem new_any [Inhabited AvoidSet] (w : World) (hav : ∀ k, Av k → k < w.heap.size) : Calls Tryd.prog 16 #[] w (NewP w) := by
  go_enter Tryd.func16, Tryd.ntmps16
  go_wp2_with (go_at_call 33; refine (dnew_any w).mono ?_; rintro e w1 ⟨rfl, rfl⟩)
  go_ret
  refine ⟨w.heap.size + 1, fun k => k = w.heap.size ∨ k = w.heap.size + 1, rfl, ⟨⟨w.heap.size, none, 0, 0, none, 0⟩, ?_, .inr rfl, ?_, fun k hk => by have := hav k hk; simp; omega, ?_, Sl.nil _ _ _ _, rfl, [], Sl.nil _ _ _ _, RepActs.nil _ _⟩, ((Fr.refl NoB w).alloc _).alloc _, ?_⟩
  · have h := Blk.new (w.alloc (.cells #[.bool true, .slice none 0 0] 71)) 53 (PS0.blk ⟨w.heap.size, none, 0, 0, none, 0⟩)
    simpa [PS.blk, PS0, act0] using h
  · rintro k (rfl | rfl)
    · simp; omega
    · simp
  · exact ⟨none, 0, 0, (Blk.new w _ _).alloc _, .inl rfl, Sl.nil _ _ _ _⟩
  · rintro k (rfl | rfl) <;> omega

def PS.isGround (s : PS) : Bool := decide (s.state = 0) && decide (s.dec = [])
theorem ground_any [Inhabited AvoidSet] (g : Nat) (s : PS) (F : Nat → Prop) (w : World) (h : RepP w F g s) :
    Calls Tryd.prog 18 #[.pointer (some ⟨g, 0, none⟩)] w fun e w' => e = .returned (.bool s.isGround) ∧ w = w' := by
  obtain ⟨m, h⟩ := h
  have c0 : w.cell? ⟨g, 0, none⟩ = some (.bool true) := h.blk.cell 0
  have c1 : w.cell? ⟨g, 1, none⟩ = some (.int .i64 s.state) := h.blk.cell 1
  have c2 : w.cell? ⟨g, 2, none⟩ = some (.pointer (some ⟨m.gd, 0, none⟩)) := h.blk.cell 2
  have CP := Lib.hid (pending_any m.gd s.dec F w h.dec)
  clear h
  by_cases k1 : s.state = 0
  · have t1 := beq_t k1
    have hg : s.isGround = decide (s.dec = []) := by simp [PS.isGround, k1]
    rw [hg]
    clear k1 hg
    go_enter Tryd.func18, Tryd.ntmps18
    go_wp2_with (first
      | (go_at_call 34; refine (pnone_any g w c0).mono ?_; rintro e w1 ⟨rfl, rfl⟩)
      | (go_at_call 36; refine CP.out.mono ?_; rintro e w1 ⟨rfl, rfl⟩))
    go_ret
    refine ⟨?_, rfl⟩
    cases s.dec with
    | nil => rfl
    | cons x l => simp; omega
  · have t1 := bne_f k1
    have hg : s.isGround = false := by simp [PS.isGround, k1]
    rw [hg]
    clear k1 hg
    go_enter Tryd.func18, Tryd.ntmps18
    go_wp2_with (first
      | (go_at_call 34; refine (pnone_any g w c0).mono ?_; rintro e w1 ⟨rfl, rfl⟩)
      | (go_at_call 36; refine CP.out.mono ?_; rintro e w1 ⟨rfl, rfl⟩))
    go_ret
    exact ⟨rfl, rfl⟩

/-! ### Put -/
/-- what Put leaves: the actions, and the parser without them -/
def PutR [Inhabited AvoidSet] (w : World) (F : Nat → Prop) (g : Nat) (s' : PS) (e : Ending) (w' : World) : Prop :=
  ∃ A c cs F', e = .returned (.slice A s'.out.length c) ∧ Sl w' (Own A) 35 7 A s'.out.length c cs ∧ RepActs w' (fun k => ¬ F' k ∧ ¬ Own A k ∧ ¬ Av k) s'.out cs ∧ (∀ k, Own A k → ¬ F' k) ∧
    RepP w' F' g { s' with out := [] } ∧ Fr F w w' ∧ (∀ k, F' k → k < w.heap.size → F k) ∧ ∀ k, Own A k → k < w.heap.size → F k

/-- the list of actions is let go -/
theorem RepPM.give [Inhabited AvoidSet] {w : World} {F : Nat → Prop} {g : Nat} {s : PS} {m : PM} (h : RepPM w F g s m) :
    ∃ cs, Sl w (Own m.oA) 35 7 m.oA s.out.length m.oc cs ∧ RepActs w (fun k => ¬ (F k ∧ ¬ Own m.oA k) ∧ ¬ Own m.oA k ∧ ¬ Av k) s.out cs ∧
      RepPM (w.setCell ⟨g, 11, none⟩ (.slice none 0 0)) (fun k => F k ∧ ¬ Own m.oA k) g { s with out := [] } { m with oA := none, oc := 0 } ∧ ¬ Own m.oA g := by
  obtain ⟨_, cs, hos, hoa⟩ := h.out
  have hg : ¬ Own m.oA g := fun hk => Free.own hos (e := 53) (by decide) _ hk _ _ h.blk
  have hf : Fr (· = g) w (w.setCell ⟨g, 11, none⟩ (.slice none 0 0)) := (Fr.refl (· = g) w).setCell (p := ⟨g, 11, none⟩) (fun _ => rfl) _
  have sl : ∀ {e size A n c xs}, Sl w F e size A n c xs → e ≠ 35 → Sl w (fun k => F k ∧ ¬ Own m.oA k) e size A n c xs := by
    intro e size A n c xs hs he
    refine ⟨hs.1, ?_⟩
    rcases hs.2 with h0 | ⟨g', o, hA, hF, hat⟩
    · exact .inl h0
    · refine .inr ⟨g', o, hA, ⟨hF, fun hk => ?_⟩, hat⟩
      obtain ⟨⟨cur, fz, hh, _⟩, _⟩ := hat
      exact Free.own hos (Ne.symm he) g' hk cur fz hh
  obtain ⟨Ad, nd, cd, hdb, hdF, hds⟩ := h.dec
  refine ⟨cs, hos.only, hoa.mono fun k _ hk => ⟨fun h => hk.1 h.1, fun ho => hk.1 (hos.inF ho), hk.2⟩, ⟨h.blk.put 11 _, ⟨h.own, hg⟩, fun k hk => Nat.lt_of_lt_of_le (h.dom k hk.1) hf.size, fun k hk => Nat.lt_of_lt_of_le (h.avd k hk) hf.size, ?_, ?_, rfl, [], Sl.nil _ _ _ _, RepActs.nil _ _⟩, hg⟩
  · have hd : RepD w (fun k => F k ∧ ¬ Own m.oA k) m.gd s.dec := ⟨Ad, nd, cd, hdb, ⟨hdF, fun hk => Free.own hos (e := 71) (by decide) _ hk _ _ hdb⟩, sl hds (by decide)⟩
    exact hd.carry hf (Free.blk h.blk (by decide)) (Free.blk h.blk (by decide))
  · exact (sl h.par (by decide)).carry hf (Free.blk h.blk (by decide))

def PS.clear (s : PS) : PS := { s with out := [] }

set_option maxHeartbeats 1600000 in
theorem putP_any [Inhabited AvoidSet] (g : Nat) (bs : List Int) (s : PS) (F R : Nat → Prop) (B : Option Addr) (n c : Nat) (w : World) (N : Nat) (h : RepP w F g s) (hi : PInv N s) (hN : N + n ≤ 67108862) (hT : Tabs w) (hTF : ∀ k, Tab k → ¬ F k)
    (hr : Rd w R 1 B n (byts bs)) (hRF : ∀ k, R k → ¬ F k) (hbs : Byts bs) :
    Calls Tryd.prog 17 #[.pointer (some ⟨g, 0, none⟩), .slice B n c] w (PutR w F g (s.clear.run bs)) := by
  have hbn : bs.length = n := by have := hr.1; rw [byts_length] at this; omega
  obtain ⟨m, h⟩ := h
  have c0 : w.cell? ⟨g, 0, none⟩ = some (.bool true) := h.blk.cell 0
  have c11 : w.cell? ⟨g, 11, none⟩ = some (.slice m.oA s.out.length m.oc) := h.blk.cell 11
  have f11 := h.blk.frozen 11
  have hi0 : PInv N s.clear := ⟨hi.st, hi.many, hi.par, hi.parL, hi.parR, by have := hi.out; show 0 + s.dec.length ≤ N; omega, hi.dec⟩
  obtain ⟨_, _, _, hgive, _⟩ := h.give
  have h1 : LeftP w F g s.clear (w.setCell ⟨g, 11, none⟩ (.slice none 0 0)) :=
    ⟨_, ⟨_, hgive⟩, (Fr.refl F w).setCell (p := ⟨g, 11, none⟩) (fun _ => h.own) _, fun k hk _ => hk.1⟩
  have H1 := Lib.hid h1
  have HT := Lib.hid hT
  have HTF := Lib.hid hTF
  have HI := Lib.hid hi0
  have HRD := Lib.hid hr
  have HRF := Lib.hid hRF
  have HBS := Lib.hid hbs
  have HBN := Lib.hid hbn
  clear h hi h1 hgive hT hTF hi0 hr hRF hbs hbn
  generalize s.clear = s1 at *
  go_enter Tryd.func17, Tryd.ntmps17
  go_wp2_with (go_at_call 34; refine (pnone_any g w c0).mono ?_; rintro e w1 ⟨rfl, rfl⟩)
  go_loopw [15] (fun i wr => ∃ k : Nat, k ≤ n ∧ i = .int .i64 k ∧ LeftP w F g (s1.run (bs.take k)) wr) (fun i _ => n - (intOf i).toNat)
  case atStart => exact ⟨0, Nat.zero_le _, rfl, H1.out⟩
  case round =>
    obtain ⟨k, hk, rfl, hl⟩ := hrel
    have HL := Lib.hid hl
    clear hl
    by_cases hlt : k < n
    · obtain ⟨F', hr', hf', hF'⟩ := HL.out
      obtain ⟨gb, ob, u, hA, ltb, hu, hc⟩ := (HRD.out.fr hf' HRF.out).at_ hlt
      rw [byts_at (by rw [HBN.out]; exact hlt)] at hu
      have hkl : k < bs.length := by rw [HBN.out]; exact hlt
      have hb := HBS.out k
      have htk := take_succ' (l := bs) (k := k) hkl
      generalize hx : bs.getD k 0 = x at *
      injection hu with hu
      subst hu
      subst hA
      have hinv := HI.out.run (bs.take k) (fun j => by
        have := HBS.out j
        simp only [List.getD_eq_getElem?_getD, List.getElem?_take] at this ⊢
        split
        · exact this
        · simp)
      have hlen : (bs.take k).length ≤ k := by rw [List.length_take]; omega
      have CO := Lib.hid (one_any g x (s1.run (bs.take k)) F' wr (N + (bs.take k).length) hr' hinv (by omega) (HT.out.fr hf' HTF.out) (fun j hj hn => HTF.out j hj (hF' j hn (HT.out.lt j hj))) hb.1 hb.2)
      have NX : Hid (∀ w2, LeftP wr F' g ((s1.run (bs.take k)).one x) w2 → LeftP w F g (s1.run (bs.take (k + 1))) w2) := Lib.hid fun w2 h2 => by
        rw [htk, PS.run_snoc]
        exact LeftP.trans hf' hF' h2
      have HX := Lib.hid hx
      clear hr' hf' hF' hinv htk hx
      go_wp2_with (go_at_call 35; refine CO.out.mono ?_; rintro e w1 ⟨rfl, hl1⟩; have HL1 := Lib.hid hl1; clear hl1)
      exact ⟨⟨k + 1, by omega, by go_num, NX.out _ HL1.out⟩, by simp [intOf]; omega⟩
    · have e : bs.take k = bs := List.take_of_length_le (by rw [HBN.out]; omega)
      have hl := HL.out
      rw [e] at hl
      obtain ⟨F', ⟨m2, hr'⟩, hf', hF'⟩ := hl
      have d11 : wr.cell? ⟨g, 11, none⟩ = some (.slice m2.oA (s1.run bs).out.length m2.oc) := hr'.blk.cell 11
      have e11 := hr'.blk.frozen 11
      have HR' := Lib.hid hr'
      have HF' := Lib.hid hf'
      have HFF := Lib.hid hF'
      clear hr' hf' hF' e
      go_wp2
      go_ret
      obtain ⟨cs, hs, ha, hp, hg⟩ := HR'.out.give
      have hoF : ∀ k, Own m2.oA k → F' k := by
        obtain ⟨_, _, hos, _⟩ := HR'.out.out
        exact fun k hk => hos.inF hk
      have hfx : Fr (· = g) wr (wr.setCell ⟨g, 11, none⟩ (.slice none 0 0)) := (Fr.refl (· = g) wr).setCell (p := ⟨g, 11, none⟩) (fun _ => rfl) _
      have hne : ∀ k, Own m2.oA k → ¬ k = g := by rintro k hk rfl; exact hg hk
      refine ⟨m2.oA, m2.oc, cs, fun k => F' k ∧ ¬ Own m2.oA k, rfl, hs.fr hfx hne, ?_, fun k hk h => h.2 hk, ⟨_, hp⟩, ?_, fun k hk hlt => HFF.out k hk.1 hlt, fun k hk hlt => HFF.out k (hoF k hk) hlt⟩
      · exact ha.fr hfx fun k hk hkg => by
          subst hkg
          exact hk.1 ⟨HR'.out.own, hg⟩
      · exact HF'.out.setCell (p := ⟨g, 11, none⟩) (fun hlt => HFF.out g HR'.out.own hlt) _
end Go.Proofs.YtopaeikddlpecaaDoor
