/-
  Walks of the document's parser: tell, list, gather, put, next, digit. Conditions: bounds on lengths and numbers.
-/
import Derived.Test.YtopaeikddlpecaaDoorRm
import Derived.BigQuiet
namespace Go.Proofs.YtopaeikddlpecaaDoor
open Go.RowKit

set_option maxHeartbeats 800000 in
set_option maxRecDepth 100000 in
theorem rtell_any (g : Nat) (p : PAct) (B : Option Addr) (n k : Nat) (R : Nat → Prop) (r : RS) (F : Nat → Prop) (w : World) (h : RepR w F g r) (hp : Rd w R 1 B n (ints p.params)) (hk : n ≤ k) (hR : ∀ k, k < w.heap.size → R k → ¬ F k) (hn : r.out.length ≤ 67108864) :
    Calls Tryd.prog 46 #[.pointer (some ⟨g, 0, none⟩), .agg #[.int .i64 p.kind, .int .i32 p.rune, .int .u8 p.fin, .int .u8 p.priv, .slice B n k, .string p.inter, .string p.text]] w (PostR w F g (r.tells p)) := by
  obtain ⟨m, h⟩ := h
  have lt := h.blk.lt
  have hf0 := (Fr.refl NoB w).alloc (.cells #[.int .i64 p.kind, .int .i32 p.rune, .int .u8 p.fin, .int .u8 p.priv, .slice B n k, .string p.inter, .string p.text] 35)
  have hr0 := h.fr hf0 (fun _ _ => noB_no) (.inr fun _ _ => noB_no)
  have c8 : w.cell? ⟨g, 8, none⟩ = some (.slice m.oA r.out.length m.oc) := h.blk.cell 8
  obtain ⟨_, cs, hos, hoa⟩ := hr0.out
  have HF0 := Lib.hid hf0
  have HR0 := Lib.hid hr0
  have HOS := Lib.hid hos
  have HOA := Lib.hid hoa
  have HP := Lib.hid (show ActC (w.alloc (.cells #[.int .i64 p.kind, .int .i32 p.rune, .int .u8 p.fin, .int .u8 p.priv, .slice B n k, .string p.inter, .string p.text] 35)) R p [.int .i64 p.kind, .int .i32 p.rune, .int .u8 p.fin, .int .u8 p.priv, .slice B n k, .string p.inter, .string p.text] from ⟨B, n, k, rfl, hp.fr hf0 fun _ _ => noB_no, hk⟩)
  have HDM := Lib.hid h.dom
  have HRR := Lib.hid (show ∀ j, j < (w.alloc (.cells #[.int .i64 p.kind, .int .i32 p.rune, .int .u8 p.fin, .int .u8 p.priv, .slice B n k, .string p.inter, .string p.text] 35)).heap.size → R j → ¬ F j from fun j hj hr hF => hR j (h.dom j hF) hr hF)
  clear h hf0 hr0 hos hoa hp hR
  go_enter Tryd.func46, Tryd.ntmps46
  go_wp2
  go_region_law
    (refine step_append_box' (w.alloc (.cells #[.int .i64 p.kind, .int .i32 p.rune, .int .u8 p.fin, .int .u8 p.priv, .slice B n k, .string p.inter, .string p.text] 35)) (w.heap.size + 1) (by simp) rfl (.tmp 8) (.tmp 10) _ rfl 35 _ 7 72 Tryd.underlying25 act_info rfl (by omega) rfl rfl HOS.out rfl ?c1 (by omega) (by omega) ?_
     case c1 => simp [Value.oneCell']
     intro A' c' w3 hf3 hs3 hA3
     have hb3 := HR0.out.blk.carry hf3 (Free.own HOS.out (by decide))
     have d8 : w3.cell? ⟨g, 8, none⟩ = some (.slice m.oA r.out.length m.oc) := hb3.cell 8
     have e8 : w3.frozen? ⟨g, 8, none⟩ = false := hb3.frozen 8
     have HF3 := Lib.hid hf3
     have HS3 := Lib.hid hs3
     have HA3 := Lib.hid hA3
     clear hf3 hs3 hA3 hb3)
  all_goals
    go_end0
    exact ⟨rfl, LeftR.trans (F1 := F) (HF0.out.mono fun _ _ h => h.elim) (fun _ h _ => h) (HR0.out.told HOS.out HOA.out HF3.out HS3.out HA3.out p HP.out HRR.out)⟩

theorem rlist_any (g : Nat) (r : RS) (F : Nat → Prop) (m : RM) (w : World) (h : RepRM w F g r m) (hn : r.params.length ≤ 64) :
    Calls Tryd.prog 55 #[.pointer (some ⟨g, 0, none⟩)] w fun e w' => ∃ A c, e = .returned (.slice A m.pn c) ∧ Sl w' (NewB w) 3 1 A m.pn c (ints r.params) ∧ Fr NoB w w' := by
  have c3 : w.cell? ⟨g, 3, none⟩ = some (.slice m.pA m.pn m.pc) := h.blk.cell 3
  have hpn : r.params.length = m.pn := by have := h.par.1; rw [ints_length] at this; omega
  have HP := Lib.hid h.par
  have hpn' : m.pn ≤ 64 := by omega
  clear h hpn hn
  go_enter Tryd.func55, Tryd.ntmps55
  go_wp2_with
    (at_builtin
     refine wpList_append_sl w rfl (.tmp 4) (.tmp 8) _ rfl 3 _ 1 8 Tryd.underlying33 int_info rfl (by omega) rfl rfl (Sl.nil w NoB 3 1) HP.out.rd ints_one (by simp only [maxLen]; omega) (by omega) ?_
     intro A' c' w1 hf1 hs1 hA1
     have HF1 := Lib.hid hf1
     have HS1 := Lib.hid hs1
     have HA1 := Lib.hid hA1
     clear hf1 hs1 hA1)
  go_ret
  refine ⟨A', c', by simp, ?_, HF1.out.mono fun k _ hk => by cases hk⟩
  have h1 := HS1.out
  simp only [Nat.zero_add, List.nil_append] at h1
  refine h1.mono fun k hk => ?_
  rcases HA1.out with h | h
  · subst h; cases hk
  · have := own_eq h hk
    unfold NewB; omega

/-! ### gather, put -/
theorem rgather_any (g : Nat) (b : Int) (r : RS) (F : Nat → Prop) (w : World) (h : RepR w F g r) (hb : 0 ≤ b ∧ b ≤ 255) :
    Calls Tryd.prog 74 #[.pointer (some ⟨g, 0, none⟩), .int .u8 b] w (PostR w F g (r.gather b)) := by
  obtain ⟨m, h⟩ := h
  have c5 : w.cell? ⟨g, 5, none⟩ = some (.string r.inter) := h.blk.cell 5
  have f5 : w.frozen? ⟨g, 5, none⟩ = false := h.blk.frozen 5
  have hs := encode_size_le b
  have HR := Lib.hid h
  clear h
  by_cases hlt : r.inter.size < 2
  · have e1 : r.gather b = { r with inter := r.inter ++ Utf8.encode b } := by simp [RS.gather, hlt]
    rw [e1]
    have HN : ¬ 9223372036854775807 < r.inter.size + (Utf8.encode b).size := by omega
    clear e1
    go_enter Tryd.func74, Tryd.ntmps74
    go_wp2
    go_end0
    exact ⟨rfl, HR.out.put1 5 _ { r with inter := r.inter ++ Utf8.encode b } rfl rfl rfl rfl⟩
  · have e1 : r.gather b = r := by simp [RS.gather, hlt]
    rw [e1]
    clear e1
    go_enter Tryd.func74, Tryd.ntmps74
    go_wp2
    go_end0
    exact ⟨rfl, LeftR.refl ⟨m, HR.out⟩⟩

set_option maxHeartbeats 400000 in
set_option maxRecDepth 100000 in
theorem rput_any (g : Nat) (b : Int) (r : RS) (F : Nat → Prop) (w : World) (h : RepR w F g r) (_hb : 0 ≤ b ∧ b ≤ 255) :
    Calls Tryd.prog 72 #[.pointer (some ⟨g, 0, none⟩), .int .u8 b] w (PostR w F g (r.put b)) := by
  obtain ⟨m, h⟩ := h
  have c6 : w.cell? ⟨g, 6, none⟩ = some (.string r.text) := h.blk.cell 6
  have f6 : w.frozen? ⟨g, 6, none⟩ = false := h.blk.frozen 6
  have lt := h.blk.lt
  have HR := Lib.hid h
  clear h
  by_cases hlt : r.text.size < 1024
  · have e1 : r.put b = { r with text := r.text ++ strOfNums [b] } := by simp [RS.put, hlt]
    rw [e1]
    clear e1
    have hcv : (convert 22 9 (.slice (some ⟨w.heap.size, 0, none⟩) 1 1)).run Tryd.prog ((w.alloc (.cells #[.int .u8 b] 5)).drew) = .ok (.string (strOfNums [b])) ((w.alloc (.cells #[.int .u8 b] 5)).drew) :=
      run_convert_bytes_arg _ 22 5 Tryd.underlying22 Tryd.underlying5 w.heap.size 0 1 1 [b] rfl (fun i hi => by
        obtain rfl : i = 0 := by omega
        rw [World.cell?_drew, World.cell?_alloc_new]; rfl) _ Tryd.underlying9
    have hz : (strOfNums [b]).size = 1 := strOfNums_size [b]
    have HN : ¬ 9223372036854775807 < r.text.size + (strOfNums [b]).size := by omega
    clear hz
    go_enter Tryd.func72, Tryd.ntmps72
    go_wp2
    go_region
    all_goals
      go_end0
      exact ⟨rfl, (HR.out.put1 6 _ { r with text := r.text ++ strOfNums [b] } rfl rfl rfl rfl).new ((Fr.refl NoB _).alloc _).drew⟩
  · have e1 : r.put b = r := by simp [RS.put, hlt]
    rw [e1]
    clear e1
    go_enter Tryd.func72, Tryd.ntmps72
    go_wp2
    go_end0
    exact ⟨rfl, LeftR.refl ⟨m, HR.out⟩⟩

/-! ### next, digit -/
/-- the first parameter begun: many, then a new list -/
theorem RepRM.begun {w : World} {F : Nat → Prop} {g : Nat} {r : RS} {m : RM} (h : RepRM w F g r m) :
    RepRM (((w.setCell ⟨g, 4, none⟩ (.int .i64 1)).setCell ⟨g, 3, none⟩ (.slice (some ⟨w.heap.size, 0, none⟩) 1 1)).alloc (.cells #[.int .i64 (-1)] 3)) (Plus F (some ⟨w.heap.size, 0, none⟩)) g { r with params := [-1], many := 1 } { m with pA := some ⟨w.heap.size, 0, none⟩, pn := 1, pc := 1 } := by
  have hf : Fr (· = g) w (((w.setCell ⟨g, 4, none⟩ (.int .i64 1)).setCell ⟨g, 3, none⟩ (.slice (some ⟨w.heap.size, 0, none⟩) 1 1)).alloc (.cells #[.int .i64 (-1)] 3)) :=
    (((Fr.refl (· = g) w).setCell (p := ⟨g, 4, none⟩) (fun _ => rfl) _).setCell (p := ⟨g, 3, none⟩) (fun _ => rfl) _).alloc _
  obtain ⟨hn, cs, hos, hoa⟩ := h.out
  refine ⟨((h.blk.put 4 _).put 3 _).alloc _, .inl h.own, ?_, ?_, ?_, hn, cs, ?_, ?_⟩
  · rintro k (hk | hk)
    · exact Nat.lt_of_lt_of_le (h.dom k hk) hf.size
    · have := own_eq rfl hk
      subst this
      simp
  · exact (h.dec.carry hf (Free.blk h.blk (by decide))).mono fun k hk => .inl hk
  · have h1 := Sl.new ((w.setCell ⟨g, 4, none⟩ (.int .i64 1)).setCell ⟨g, 3, none⟩ (.slice (some ⟨w.heap.size, 0, none⟩) 1 1)) (F := Own (some ⟨w.heap.size, 0, none⟩)) (by simp [Own]) 3 1 #[.int .i64 (-1)] 1 1 (Nat.le_refl _) (by simp [maxLen]) rfl
    simpa [ints] using h1.mono (G := Plus F (some ⟨w.heap.size, 0, none⟩)) fun k hk => .inr hk
  · exact (hos.carry hf (Free.blk h.blk (by decide))).mono fun k hk => .inl hk
  · refine ((hoa.mono (G := fun k => k < w.heap.size ∧ Off F k) fun k hk ho => ⟨hk, ho⟩).fr hf (by rintro i hi rfl; exact hi.2 h.own)).mono fun k _ hk => ?_
    rintro (h1 | h1)
    · exact hk.2 h1
    · have := own_eq rfl h1
      have := hk.1
      omega

theorem RepRM.par0 {w : World} {F : Nat → Prop} {g : Nat} {r : RS} {m : RM} (h : RepRM w F g r m) (hz : r.many = 0) :
    LeftR w F g r.par0 (((w.setCell ⟨g, 4, none⟩ (.int .i64 1)).setCell ⟨g, 3, none⟩ (.slice (some ⟨w.heap.size, 0, none⟩) 1 1)).alloc (.cells #[.int .i64 (-1)] 3)) := by
  have e : r.par0 = { r with params := [-1], many := 1 } := by unfold RS.par0; rw [if_pos hz]
  rw [e]
  refine ⟨_, ⟨_, h.begun⟩, (((Fr.refl F w).setCell (p := ⟨g, 4, none⟩) (fun _ => h.own) _).setCell (p := ⟨g, 3, none⟩) (fun _ => h.own) _).alloc _, ?_⟩
  rintro k (hk | hk) hlt
  · exact hk
  · have := own_eq rfl hk
    omega

set_option maxHeartbeats 1600000 in
set_option maxRecDepth 100000 in
theorem rnext_any (g : Nat) (r0 : RS) (F0 : Nat → Prop) (w0 : World) (h0 : RepR w0 F0 g r0) (hm0 : 0 ≤ r0.many ∧ r0.many ≤ 17) (hp : r0.params.length ≤ 64) :
    Calls Tryd.prog 86 #[.pointer (some ⟨g, 0, none⟩)] w0 (PostR w0 F0 g r0.next) := by
  obtain ⟨m, h⟩ := h0
  have c3 : w0.cell? ⟨g, 3, none⟩ = some (.slice m.pA m.pn m.pc) := h.blk.cell 3
  have f3 : w0.frozen? ⟨g, 3, none⟩ = false := h.blk.frozen 3
  have c4 : w0.cell? ⟨g, 4, none⟩ = some (.int .i64 r0.many) := h.blk.cell 4
  have f4 : w0.frozen? ⟨g, 4, none⟩ = false := h.blk.frozen 4
  have lt0 := h.blk.lt
  have hpm : 1 ≤ r0.par0.many ∧ r0.par0.many ≤ 17 ∧ r0.par0.params.length ≤ 64 := by
    unfold RS.par0
    split
    · exact ⟨by simp, by simp, by simp⟩
    · exact ⟨by omega, by omega, hp⟩
  have HR := Lib.hid h
  clear h hp
  have hnx : r0.next = r0.par0.next0 := rfl
  generalize r0.next = rr at *
  have HNX := Lib.hid hnx
  clear hnx
  go_enter Tryd.func86, Tryd.ntmps86
  go_upto_if 6 with (fail)
  go_cut [] (fun wx => LeftR w0 F0 g r0.par0 wx)
  case first =>
    by_cases hz : r0.many = 0
    · have HP := Lib.hid (HR.out.par0 hz)
      rw [hz] at c4
      have b1 : (r0.many == 0) = true := by rw [hz]; rfl
      clear hz
      go_wp2
      all_goals go_meet
      case rel => exact HP.out
    · have b1 : (r0.many == 0) = false := by rw [beq_eq_false_iff_ne]; exact hz
      have HZ := Lib.hid hz
      clear hz
      go_wp2
      all_goals go_meet
      case rel =>
        have e : r0.par0 = r0 := by unfold RS.par0; rw [if_neg HZ.out]
        rw [e]
        exact LeftR.refl ⟨m, HR.out⟩
  case rest =>
    obtain ⟨F, ⟨m1, h⟩, hf1, hF1⟩ := hcut
    obtain ⟨w, rfl⟩ : ∃ w, w = wc := ⟨_, rfl⟩
    clear c3 f3 c4 f4 lt0 HR hm0
    have fin : ∀ w' : World, LeftR w F g r0.par0.next0 w' → LeftR w0 F0 g rr w' := fun w' hw' => by
      rw [HNX.out]
      exact LeftR.trans hf1 hF1 hw'
    clear hf1 hF1 HNX
    generalize r0.par0 = r at *
    obtain ⟨m, rfl⟩ : ∃ m, m = m1 := ⟨_, rfl⟩
    obtain ⟨hm, hm2, hpl⟩ := hpm
    have c3 : w.cell? ⟨g, 3, none⟩ = some (.slice m.pA m.pn m.pc) := h.blk.cell 3
    have f3 : w.frozen? ⟨g, 3, none⟩ = false := h.blk.frozen 3
    have c4 : w.cell? ⟨g, 4, none⟩ = some (.int .i64 r.many) := h.blk.cell 4
    have f4 : w.frozen? ⟨g, 4, none⟩ = false := h.blk.frozen 4
    have lt := h.blk.lt
    have hpn : r.params.length = m.pn := by have := h.par.1; rw [ints_length] at this; omega
    have hpn' : m.pn ≤ 64 := by omega
    have FIN := Lib.hid fin
    have HR := Lib.hid h
    clear fin hpn hpl
    rcases (by omega : r.many + 1 ≤ 16 ∨ r.many = 16 ∨ r.many = 17) with k1 | k1 | k1
    · have e1 : r.next0 = { r with many := r.many + 1, params := r.params ++ [-1] } := by unfold RS.next0; rw [if_pos (by omega), if_pos k1]
      have HE1 := Lib.hid e1
      have HS := Lib.hid ((h.par.carry (X := (· = g)) ((Fr.refl (· = g) w).setCell (p := ⟨g, 4, none⟩) (fun _ => rfl) (.int .i64 (r.many + 1))) (Free.blk h.blk (by decide))))
      have HB := Lib.hid (h.blk.put 4 (.int .i64 (r.many + 1)))
      have k2 : r.many ≤ 16 := by omega
      clear e1 h
      go_wp2_with
        (at_builtin
         refine wpList_append_box' (w.setCell ⟨g, 4, none⟩ (.int .i64 (r.many + 1))) w.heap.size (World.size_setCell _ _ _) rfl (.tmp 35) (.tmp 36) _ rfl 3 _ 1 8 Tryd.underlying33 int_info rfl (by omega) rfl rfl HS.out rfl ?c1 (by omega) (by omega) ?_
         case c1 => simp [Value.oneCell']
         intro A' c' w1 hf1 hs1 hA1
         have hb3 := HB.out.carry hf1 (Free.own HS.out (by decide))
         have d3 : w1.cell? ⟨g, 3, none⟩ = some (.slice m.pA m.pn m.pc) := hb3.cell 3
         have e3 : w1.frozen? ⟨g, 3, none⟩ = false := hb3.frozen 3
         have HB3 := Lib.hid hb3
         have HF1 := Lib.hid hf1
         have HS1 := Lib.hid hs1
         have HA1 := Lib.hid hA1
         clear hf1 hs1 hA1 hb3)
      refine bodyPost_ret (results_none rfl _ _ _) rfl ⟨rfl, FIN.out _ ?_⟩
      rw [HE1.out]
      refine HR.out.parTurned _ (A' := A') (n' := m.pn + 1) (c' := c') ?_ ?_ ?_ ?_ rfl rfl
      · exact (((Fr.refl _ w).setCell (p := ⟨g, 4, none⟩) (fun _ => .inl rfl) _).trans HF1.out fun k _ hk => .inr hk).setCell (p := ⟨g, 3, none⟩) (fun _ => .inl rfl) _
      · exact HB3.out.put 3 _
      · rw [ints_append]
        exact (HS1.out.far (p := ⟨g, 3, none⟩) (fun hk => Free.own HS1.out (e := 59) (by decide) _ hk _ _ HB3.out) _)
      · intro k hk hlt
        rcases HA1.out with h | ⟨g', h, hg'⟩
        · subst h; exact HR.out.par.inF hk
        · have := own_eq h hk
          rw [World.size_setCell] at hg'
          omega
    · have e1 : r.next0 = { r with many := 17 } := by unfold RS.next0; rw [if_pos (by omega), if_neg (by omega), k1]; rfl
      have HE1 := Lib.hid e1
      rw [k1] at c4
      clear e1 h k1
      go_wp2
      refine bodyPost_ret (results_none rfl _ _ _) rfl ⟨rfl, FIN.out _ ?_⟩
      rw [HE1.out]
      exact HR.out.put1 4 _ { r with many := 17 } rfl rfl rfl rfl
    · have e1 : r.next0 = r := by unfold RS.next0; rw [if_neg (by omega)]
      have HE1 := Lib.hid e1
      rw [k1] at c4
      clear e1 h k1
      go_wp2
      refine bodyPost_ret (results_none rfl _ _ _) rfl ⟨rfl, FIN.out _ ?_⟩
      rw [HE1.out]
      exact LeftR.refl ⟨m, HR.out⟩

set_option maxHeartbeats 1600000 in
set_option maxRecDepth 100000 in
theorem rdigit_any (g : Nat) (b : Int) (r0 : RS) (F0 : Nat → Prop) (w0 : World) (h0 : RepR w0 F0 g r0) (hm0 : 0 ≤ r0.many ∧ r0.many ≤ 17) (hp : r0.params.length ≤ 64) (hp2 : 1 ≤ r0.many → r0.many ≤ 16 → (r0.params.length : Int) = r0.many) (hb : 48 ≤ b ∧ b ≤ 57)
    (hr : ∀ k, -1 ≤ r0.params.getD k 0 ∧ r0.params.getD k 0 ≤ 65535) :
    Calls Tryd.prog 87 #[.pointer (some ⟨g, 0, none⟩), .int .u8 b] w0 (PostR w0 F0 g (r0.digit b)) := by
  obtain ⟨m, h⟩ := h0
  have c3 : w0.cell? ⟨g, 3, none⟩ = some (.slice m.pA m.pn m.pc) := h.blk.cell 3
  have f3 : w0.frozen? ⟨g, 3, none⟩ = false := h.blk.frozen 3
  have c4 : w0.cell? ⟨g, 4, none⟩ = some (.int .i64 r0.many) := h.blk.cell 4
  have f4 : w0.frozen? ⟨g, 4, none⟩ = false := h.blk.frozen 4
  have lt0 := h.blk.lt
  have hpm : 1 ≤ r0.par0.many ∧ r0.par0.many ≤ 17 ∧ r0.par0.params.length ≤ 64 ∧ (r0.par0.many ≤ 16 → (r0.par0.params.length : Int) = r0.par0.many) ∧ ∀ k, -1 ≤ r0.par0.params.getD k 0 ∧ r0.par0.params.getD k 0 ≤ 65535 := by
    unfold RS.par0
    split
    · refine ⟨by simp, by simp, by simp, fun _ => rfl, fun k => ?_⟩
      cases k with
      | zero => simp
      | succ k => simp
    · exact ⟨by omega, by omega, hp, hp2 (by omega), hr⟩
  have HR := Lib.hid h
  clear h hp hp2 hr
  have hnx : r0.digit b = r0.par0.digit0 b := rfl
  generalize r0.digit b = rr at *
  have HNX := Lib.hid hnx
  have HPM := Lib.hid hpm
  clear hnx hpm
  go_enter Tryd.func87, Tryd.ntmps87
  go_upto_if 9 with (fail)
  go_cut [] (fun wx => LeftR w0 F0 g r0.par0 wx)
  case first =>
    by_cases hz : r0.many = 0
    · have HP := Lib.hid (HR.out.par0 hz)
      rw [hz] at c4
      have b1 : (r0.many == 0) = true := by rw [hz]; rfl
      clear hz
      go_wp2
      all_goals go_meet
      case rel => exact HP.out
    · have b1 : (r0.many == 0) = false := by rw [beq_eq_false_iff_ne]; exact hz
      have HZ := Lib.hid hz
      clear hz
      go_wp2
      all_goals go_meet
      case rel =>
        have e : r0.par0 = r0 := by unfold RS.par0; rw [if_neg HZ.out]
        rw [e]
        exact LeftR.refl ⟨m, HR.out⟩
  case rest =>
    obtain ⟨F, ⟨m1, h⟩, hf1, hF1⟩ := hcut
    obtain ⟨w, rfl⟩ : ∃ w, w = wc := ⟨_, rfl⟩
    clear c3 f3 c4 f4 lt0 HR hm0
    have fin : ∀ w' : World, LeftR w F g (r0.par0.digit0 b) w' → LeftR w0 F0 g rr w' := fun w' hw' => by
      rw [HNX.out]
      exact LeftR.trans hf1 hF1 hw'
    clear hf1 hF1 HNX
    have hpm := HPM.out
    clear HPM
    generalize r0.par0 = r at *
    obtain ⟨m, rfl⟩ : ∃ m, m = m1 := ⟨_, rfl⟩
    obtain ⟨hm, hm2, hpl, hpe, hrg⟩ := hpm
    have c3 : w.cell? ⟨g, 3, none⟩ = some (.slice m.pA m.pn m.pc) := h.blk.cell 3
    have f3 : w.frozen? ⟨g, 3, none⟩ = false := h.blk.frozen 3
    have c4 : w.cell? ⟨g, 4, none⟩ = some (.int .i64 r.many) := h.blk.cell 4
    have f4 : w.frozen? ⟨g, 4, none⟩ = false := h.blk.frozen 4
    have lt := h.blk.lt
    have hpn : r.params.length = m.pn := by have := h.par.1; rw [ints_length] at this; omega
    have hpn' : m.pn ≤ 64 := by omega
    have FIN := Lib.hid fin
    have HR := Lib.hid h
    by_cases hle : r.many ≤ 16
    · have h1 := hpe hle
      obtain ⟨j, hj⟩ : ∃ j : Nat, (m.pn : Int) - 1 = (j : Int) := ⟨m.pn - 1, by omega⟩
      have hjn : j < m.pn := by omega
      obtain ⟨gp, o, hA, hF, hat⟩ : ∃ gp o, m.pA = some ⟨gp, o, none⟩ ∧ F gp ∧ SlAt w 3 1 gp o m.pn m.pc (ints r.params) := by
        rcases h.par.2 with ⟨_, h0, _⟩ | h
        · omega
        · exact h
      have hcell : w.cell? ⟨gp, o + j, none⟩ = some (.int .i64 (r.params.getD j 0)) := hat.cell j _ (ints_at (by omega))
      have hfree : w.frozen? ⟨gp, o + j, none⟩ = false := hat.free j
      have hrj := hrg j
      have e1 : r.digit0 b = { r with params := r.params.set j (digit (r.params.getD j 0) b) } := by
        have : r.params.length - 1 = j := by omega
        unfold RS.digit0
        rw [if_neg (by omega), this]
      have HE1 := Lib.hid e1
      have HSL := Lib.hid (h.par.put hA j (.int .i64 (digit (r.params.getD j 0) b)))
      have hne : g ≠ gp := fun e => Free.own h.par (e := 59) (by decide) gp (by rw [hA]; rfl) _ _ (by subst e; exact h.blk)
      have HNE := Lib.hid hne
      generalize hd : r.params.getD j 0 = d at *
      rw [hA] at c3
      have HA := Lib.hid hA
      clear hA hat e1 hd hF h fin hpe hrg hpn hne h1 hpl
      go_wp2
      go_region
      all_goals
        go_end0
        refine ⟨rfl, FIN.out _ ?_⟩
        rw [HE1.out]
        have key : ∀ x, x = digit d b → LeftR w F g { r with params := r.params.set j (digit d b) } (w.drew.setCell ⟨gp, o + j, none⟩ (.int .i64 x)) := by
          rintro x rfl
          refine HR.out.parTurned _ (A' := m.pA) (n' := m.pn) (c' := m.pc) (((Fr.refl _ w).drew).setCell (p := ⟨gp, o + j, none⟩) (fun _ => .inr (by rw [HA.out]; rfl)) _) ?_ ?_ (fun k hk _ => HR.out.par.inF hk) rfl rfl
          · exact (HR.out.blk.drew).far (p := ⟨gp, o + j, none⟩) HNE.out _
          · have h1 := HSL.out.only
            have h2 : (ints r.params).set j (.int .i64 (digit d b)) = ints (r.params.set j (digit d b)) := by simp [ints, List.map_set]
            rw [h2] at h1
            exact h1.same fun _ _ _ => rfl
        exact key _ (by unfold digit; omega)
    · have e1 : r.digit0 b = r := by unfold RS.digit0; rw [if_pos (by omega)]
      have HE1 := Lib.hid e1
      have hle' : 16 < r.many := by omega
      clear e1 h hle fin hpe hrg hpn hpl
      go_wp2
      refine bodyPost_ret (results_none rfl _ _ _) rfl ⟨rfl, FIN.out _ ?_⟩
      rw [HE1.out]
      exact LeftR.refl ⟨m, HR.out⟩
end Go.Proofs.YtopaeikddlpecaaDoor
