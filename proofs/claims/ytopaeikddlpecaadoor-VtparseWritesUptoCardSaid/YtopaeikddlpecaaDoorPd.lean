/-
  Walks: vtparse.Parser's none, ends, plain, and what Flush and print do together. Conditions: the tables; bounds on lengths; the tables are not the parser's.
-/
import Derived.Test.YtopaeikddlpecaaDoorPc
namespace Go.Proofs.YtopaeikddlpecaaDoor
open Go.RowKit

theorem pnone_any (g : Nat) (w : World) (h : w.cell? ⟨g, 0, none⟩ = some (.bool true)) :
    Calls Tryd.prog 34 #[.pointer (some ⟨g, 0, none⟩)] w fun e w' => e = .returned (.bool false) ∧ w = w' := by
  go_enter Tryd.func34, Tryd.ntmps34
  go_wp2
  go_ret
  exact ⟨rfl, rfl⟩

/-- the decoder's own blocks, no more -/
theorem RepD.exact {w : World} {F : Nat → Prop} {g : Nat} {l : List Int} (h : RepD w F g l) :
    ∃ X : Nat → Prop, RepD w X g l ∧ (∀ k, X k → F k) ∧ (∀ k, X k → k < w.heap.size) ∧ ∀ e, 71 ≠ e → 5 ≠ e → Free w X e := by
  obtain ⟨A, n, c, hb, hF, hs⟩ := h
  refine ⟨fun k => k = g ∨ Own A k, ⟨A, n, c, hb, .inl rfl, hs.only.mono fun k hk => .inr hk⟩, ?_, ?_, ?_⟩
  · rintro k (rfl | hk)
    · exact hF
    · exact hs.inF hk
  · rintro k (rfl | hk)
    · exact hb.lt
    · exact hs.inB hk
  · rintro e h1 h2 k (rfl | hk)
    · exact Free.blk hb h1 k rfl
    · exact Free.own hs h2 k hk

/-- the decoder has turned -/
theorem RepPM.decTurned [Inhabited AvoidSet] {w w1 : World} {F X F1 : Nat → Prop} {g : Nat} {s : PS} {m : PM} {l : List Int} (h : RepPM w F g s m) (hf : Fr X w w1) (hX : ∀ e, 71 ≠ e → 5 ≠ e → Free w X e) (hXF : ∀ k, X k → F k)
    (hd : RepD w1 F1 m.gd l) (hF1 : ∀ k, F1 k → k < w.heap.size → F k) (hdom : ∀ k, F1 k → k < w1.heap.size) : RepPM w1 (fun k => F k ∨ F1 k) g { s with dec := l } m := by
  obtain ⟨hn, cs, hos, hoa⟩ := h.out
  refine ⟨h.blk.carry hf (hX _ (by decide) (by decide)), .inl h.own, ?_, fun k hk => Nat.lt_of_lt_of_le (h.avd k hk) hf.size, hd.mono fun k hk => .inr hk, (h.par.carry hf (hX _ (by decide) (by decide))).mono fun k hk => .inl hk, hn, cs, (hos.carry hf (hX _ (by decide) (by decide))).mono fun k hk => .inl hk, ?_⟩
  · rintro k (hk | hk)
    · exact Nat.lt_of_lt_of_le (h.dom k hk) hf.size
    · exact hdom k hk
  · have h2 := (hoa.mono (G := fun k => k < w.heap.size ∧ OffS F k) fun k hk ho => ⟨hk, ho⟩).fr hf fun i hi hx => hi.2.1 (hXF i hx)
    refine h2.mono fun k _ hk => ⟨fun hn => ?_, hk.2.2⟩
    rcases hn with hn | hn
    · exact hk.2.1 hn
    · exact hk.2.1 (hF1 k hn hk.1)

/-! ### ends -/
def PS.ends (s : PS) (b k : Int) : PS := { ({ s with a := { s.a with fin := b } } : PS).tellK k with state := 0 }

set_option maxHeartbeats 400000 in
theorem ends_any [Inhabited AvoidSet] (g : Nat) (b k : Int) (s : PS) (F : Nat → Prop) (w : World) (h : RepP w F g s) (hn : s.out.length ≤ 67108864) (hp : s.a.params.length ≤ 64) :
    Calls Tryd.prog 70 #[.pointer (some ⟨g, 0, none⟩), .int .u8 b, .int .i64 k] w (PostP w F g (s.ends b k)) := by
  obtain ⟨m, h⟩ := h
  have c5 : w.cell? ⟨g, 5, none⟩ = some (.int .u8 s.a.fin) := h.blk.cell 5
  have f5 : w.frozen? ⟨g, 5, none⟩ = false := h.blk.frozen 5
  have CT := Lib.hid (tell_any g k { s with a := { s.a with fin := b } } F _ ⟨m, h.put { s with a := { s.a with fin := b } } 5 (.int .u8 b) rfl rfl rfl rfl⟩ hn hp)
  have HR := Lib.hid h
  clear h
  go_enter Tryd.func70, Tryd.ntmps70
  go_wp2_with
    (go_at_call 49
     refine CT.out.mono ?_
     rintro e w1 ⟨rfl, F1, ⟨m1, h1⟩, hf1, hF1⟩
     have c1 : w1.cell? ⟨g, 1, none⟩ = some (.int .i64 s.state) := h1.blk.cell 1
     have f1 : w1.frozen? ⟨g, 1, none⟩ = false := h1.blk.frozen 1
     have HR1 := Lib.hid h1
     have HF1 := Lib.hid hf1
     have HFF := Lib.hid hF1
     clear h1 hf1 hF1)
  go_end0
  refine ⟨rfl, LeftP.trans (F1 := F1) (((Fr.refl F w).setCell (p := ⟨g, 5, none⟩) (fun _ => HR.out.own) _).trans HF1.out fun _ _ h => h) (fun k hk hlt => HFF.out k hk (by simpa using hlt)) ?_⟩
  exact LeftP.put1 HR1.out _ 1 _ rfl rfl rfl rfl

/-! ### Flush and print together -/
def PS.flush (s : PS) : PS := ({ s with dec := [] } : PS).prints (runesOf s.dec)

/-- behind Flush: the slice that it gives, and the parser -/
theorem after_flush [Inhabited AvoidSet] {w w1 : World} {F : Nat → Prop} {g : Nat} {s : PS} {m : PM} {e : Ending} (h : RepPM w F g s m) (k : FlushP w F m.gd s.dec e w1) :
    ∃ A n c, e = .returned (.slice A n c) ∧ Fr F w w1 ∧ RepP w1 F g { s with dec := [] } ∧ Rd w1 (Off F) 1 A n (runes (runesOf s.dec)) := by
  obtain ⟨A, n, c, he, hs, hd, hf⟩ := k
  obtain ⟨X, hx, hxF, hxB, hfree⟩ := h.dec.exact
  have hgd : Blk w m.gd 71 _ := (h.dec.choose_spec.choose_spec.choose_spec).1
  have hgF : F m.gd := (h.dec.choose_spec.choose_spec.choose_spec).2.1
  have h2 := h.decTurned (X := (· = m.gd)) (F1 := F) hf (fun e h1 _ => Free.blk hgd h1) (by rintro k rfl; exact hgF) hd (fun k hk _ => hk) (fun k hk => Nat.lt_of_lt_of_le (h.dom k hk) hf.size)
  refine ⟨A, n, c, he, hf.mono (by rintro k _ rfl; exact hgF), ⟨m, ?_⟩, ?_⟩
  · have e1 : (fun k => F k ∨ F k) = F := by funext k; simp
    rw [e1] at h2
    exact h2
  · exact hs.rd.mono fun k _ hk hF => by have := h.dom k hF; unfold NewB at hk; omega

/-- behind Put: the slice that it gives, and the parser -/
theorem after_put [Inhabited AvoidSet] {w W w1 : World} {F X : Nat → Prop} {g : Nat} {s : PS} {m : PM} {e : Ending} {l : List Int} (h : RepPM W F g s m) (hXF : ∀ k, X k → F k) (hfree : ∀ e, 71 ≠ e → 5 ≠ e → Free W X e)
    (k : PutP W X m.gd l e w1) (hwW : ∀ k, F k → k < w.heap.size) (hle : w.heap.size ≤ W.heap.size) :
    ∃ A n c F1, e = .returned (.slice A n c) ∧ Fr F W w1 ∧ RepP w1 F1 g { s with dec := (decLoop l).2 } ∧ Rd w1 (Off F1) 1 A n (runes (decLoop l).1) ∧ ∀ k, F1 k → k < w.heap.size → F k := by
  obtain ⟨A, n, c, F', he, hs, hd, hf, _, hFo, _⟩ := k
  obtain ⟨Y, hy, hyF, hyB, hyfree⟩ := hd.exact
  have hYo : ∀ k, Y k → k < W.heap.size → F k := fun k hk hlt => hXF k (hFo k (hyF k hk) hlt)
  refine ⟨A, n, c, fun k => F k ∨ Y k, he, hf.mono fun k _ hk => hXF k hk, ⟨m, h.decTurned hf hfree hXF hy hYo hyB⟩, ?_, ?_⟩
  · have h1 := hs.only.rd
    refine h1.mono fun k _ hk hn => ?_
    have hin := hs.inF hk
    rcases hn with hn | hn
    · have := hwW k hn
      unfold NewB at hin
      omega
    · rcases hs.2 with ⟨hA, _⟩ | ⟨g', o, hA, _, ⟨⟨cur, fz, hh, _⟩, _⟩⟩
      · rw [hA] at hk; cases hk
      · rw [hA] at hk
        have : g' = k := by injection hk
        subst this
        exact hyfree 21 (by decide) (by decide) g' hn cur fz hh
  · rintro k (hk | hk) hlt
    · exact hk
    · exact hYo k hk (Nat.lt_of_lt_of_le hlt hle)

def PS.high (s : PS) (b : Int) : PS := ({ s with dec := (decLoop (s.dec ++ [b])).2 } : PS).prints (decLoop (s.dec ++ [b])).1
def PS.plain (s : PS) (b : Int) : PS := if 128 ≤ b then s.high b else if b < 32 then s.tells (aExec b) else if b < 127 then s.prints [b] else s

set_option maxHeartbeats 800000 in
theorem plain_any [Inhabited AvoidSet] (g : Nat) (b : Int) (s : PS) (F : Nat → Prop) (w : World) (h : RepP w F g s) (hT : Tabs w) (hTF : ∀ k, Tab k → ¬ F k) (hn : s.out.length + s.dec.length + 1 ≤ 67108864) (hB : Byts s.dec) (hb : 0 ≤ b ∧ b ≤ 255) :
    Calls Tryd.prog 50 #[.pointer (some ⟨g, 0, none⟩), .int .u8 b] w (PostP w F g (s.plain b)) := by
  have HH := Lib.hid h
  obtain ⟨m, h⟩ := h
  have c2 : w.cell? ⟨g, 2, none⟩ = some (.pointer (some ⟨m.gd, 0, none⟩)) := h.blk.cell 2
  have HR := Lib.hid h
  have HT := Lib.hid hT
  have HTF := Lib.hid hTF
  have HB := Lib.hid hB
  clear h hT hTF hB
  have hpl : s.plain b = if 128 ≤ b then s.high b else if b < 32 then s.tells (aExec b) else if b < 127 then s.prints [b] else s := rfl
  rcases (by omega : 128 ≤ b ∨ b < 32 ∨ (32 ≤ b ∧ b < 127) ∨ b = 127) with hc | hc | ⟨hc, hc'⟩ | hc
  · rw [hpl, if_pos hc]
    clear hpl
    obtain ⟨X, hx, hxF, hxB, hxfree⟩ := HR.out.dec.exact
    have hfa := (Fr.refl NoB w).alloc (.cells #[.int .u8 b] 5)
    have HFA := Lib.hid hfa
    have HRW := Lib.hid (HR.out.fr hfa fun _ _ => noB_no)
    have hbox : Rd (w.alloc (.cells #[.int .u8 b] 5)) (fun k => k = w.heap.size) 1 (some ⟨w.heap.size, 0, none⟩) 1 (byts [b]) := Rd.box w 5 1 #[.int .u8 b] rfl
    have hbb : Byts [b] := fun j => by
      cases j with
      | zero => simpa using hb
      | succ j => simp
    have CP := Lib.hid (put_any m.gd s.dec [b] X _ _ 1 1 _ (hx.fr hfa fun _ _ => noB_no) (HT.out.fr hfa fun _ _ => noB_no) (fun k hk hX => HTF.out k hk (hxF k hX)) hbox (by omega) HB.out hbb)
    have HXF := Lib.hid hxF
    have HFREE := Lib.hid (show ∀ e, 71 ≠ e → 5 ≠ e → Free (w.alloc (.cells #[.int .u8 b] 5)) X e from fun e h1 h2 k hk cur fz hh => by
      rw [Below.heap_alloc w _ k (hxB k hk)] at hh
      exact hxfree e h1 h2 k hk cur fz hh)
    have hdl := decLoop_len (s.dec ++ [b])
    rw [List.length_append, List.length_singleton] at hdl
    clear hx hxF hxB hxfree hfa hbox hbb
    go_enter Tryd.func50, Tryd.ntmps50
    go_wp2_with (first
      | (go_at_call 67
         refine CP.out.mono ?_
         intro e w1 hput
         obtain ⟨A1, n1, c1, F1, rfl, hf1, hr1, hrd1, hF1⟩ := after_put (w := w) HRW.out HXF.out HFREE.out hput HR.out.dom (by simp)
         have hl1 : (decLoop (s.dec ++ [b])).1.length = n1 := by have := hrd1.1; rw [runes_length] at this; omega
         have CPR := Lib.hid (print_any g A1 n1 c1 _ _ F1 w1 hr1 hrd1 (by show s.out.length + n1 ≤ _; omega))
         have HF1 := Lib.hid hf1
         have HFF := Lib.hid hF1
         clear hput hr1 hrd1 hF1 hf1 hl1)
      | (go_at_call 29
         refine CPR.out.mono ?_
         rintro e w2 ⟨rfl, hl2⟩
         have HL2 := Lib.hid hl2
         clear hl2))
    go_end0
    exact ⟨rfl, LeftP.trans ((HFA.out.mono fun _ _ h => h.elim).trans HF1.out fun _ _ h => h) HFF.out HL2.out⟩
  · rw [hpl, if_neg (by omega), if_pos hc]
    clear hpl
    have CT := Lib.hid (exec_any g b s F w HH.out (by omega))
    go_enter Tryd.func50, Tryd.ntmps50
    go_wp2_with
      (go_at_call 48
       refine CT.out.mono ?_
       rintro e w1 ⟨rfl, hl1⟩
       have HL1 := Lib.hid hl1
       clear hl1)
    go_end0
    exact ⟨rfl, HL1.out⟩
  · rw [hpl, if_neg (by omega), if_neg (by omega), if_pos hc']
    clear hpl
    have hfa := (Fr.refl NoB w).alloc (.cells #[.int .i32 b] 21)
    have HFA := Lib.hid hfa
    have hbox : Rd (w.alloc (.cells #[.int .i32 b] 21)) (fun k => k = w.heap.size) 1 (some ⟨w.heap.size, 0, none⟩) 1 (runes [b]) := Rd.box w 21 1 #[.int .i32 b] rfl
    have CT := Lib.hid (print_any g _ 1 1 [b] s F _ (HH.out.fr hfa fun _ _ => noB_no) (hbox.mono fun k _ hk hF => by have := HR.out.dom k hF; omega) (by omega))
    clear hfa hbox
    go_enter Tryd.func50, Tryd.ntmps50
    go_wp2_with
      (go_at_call 29
       refine CT.out.mono ?_
       rintro e w1 ⟨rfl, hl1⟩
       have HL1 := Lib.hid hl1
       clear hl1)
    go_end0
    exact ⟨rfl, LeftP.trans (HFA.out.mono fun _ _ h => h.elim) (fun k h _ => h) HL1.out⟩
  · rw [hpl, if_neg (by omega), if_neg (by omega), if_neg (by omega)]
    clear hpl
    go_enter Tryd.func50, Tryd.ntmps50
    go_wp2
    go_end0
    exact ⟨rfl, LeftP.refl HH.out⟩
end Go.Proofs.YtopaeikddlpecaaDoor
