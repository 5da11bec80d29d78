/-
  Walks of the document's parser: prints, ends, begins, sequence, graphic, control, inText. Conditions: bounds on lengths and numbers.
-/
import Derived.Test.YtopaeikddlpecaaDoorRg
import Derived.Deep.RegionHeld3
namespace Go.Proofs.YtopaeikddlpecaaDoor
open Go.RowKit

theorem rprints_nil (r : RS) : r.prints [] = r := by simp [RS.prints]
theorem rprints_yes (r : RS) (l : List Int) (x : Int) (h : seen x = true) : (r.prints l).tells (aPrint x) = r.prints (l ++ [x]) := by simp [RS.prints, RS.tells, List.filter_append, h]
theorem rprints_no (r : RS) (l : List Int) (x : Int) (h : seen x = false) : r.prints l = r.prints (l ++ [x]) := by simp [RS.prints, List.filter_append, h]
theorem rprints_len (r : RS) (l : List Int) : (r.prints l).out.length ≤ r.out.length + l.length := by
  simp only [RS.prints, List.length_append, List.length_map]
  have := List.length_filter_le seen l
  omega

set_option maxHeartbeats 1600000 in
theorem rprints_any (g : Nat) (A : Option Addr) (n c : Nat) (l : List Int) (r : RS) (F : Nat → Prop) (w : World) (h : RepR w F g r) (hl : Rd w (Off F) 1 A n (runes l)) (hn : r.out.length + n ≤ 67108864) :
    Calls Tryd.prog 31 #[.pointer (some ⟨g, 0, none⟩), .slice A n c] w (PostR w F g (r.prints l)) := by
  have hll : l.length = n := by have := hl.1; rw [runes_length] at this; omega
  have H0 := Lib.hid h
  have HL := Lib.hid hl
  have HLL := Lib.hid hll
  clear h hl hll
  go_enter Tryd.func31, Tryd.ntmps31
  go_wp2
  go_loopw [4] (fun i wr => ∃ k : Nat, k ≤ n ∧ i = .int .i64 k ∧ LeftR w F g (r.prints (l.take k)) wr) (fun i _ => n - (intOf i).toNat)
  case atStart => exact ⟨0, Nat.zero_le _, rfl, by rw [List.take_zero, rprints_nil]; exact LeftR.refl H0.out⟩
  case round =>
    obtain ⟨k, hk, rfl, F', hr, hf, hF⟩ := hrel
    have HF := Lib.hid hf
    have HF' := Lib.hid hF
    have HR := Lib.hid hr
    clear hf hF hr
    by_cases hlt : k < n
    · have hlt' : (k : Int) < (n : Int) := by omega
      obtain ⟨ga, oa, u, hA, lta, hu, hc⟩ := (HL.out.fr HF.out (fun _ hi => hi)).at_ hlt
      rw [runes_at (by rw [HLL.out]; exact hlt)] at hu
      have HT := Lib.hid (take_succ' (l := l) (k := k) (by rw [HLL.out]; exact hlt))
      have hlen := rprints_len r (l.take k)
      rw [List.length_take] at hlen
      generalize hr0 : l.getD k 0 = x at *
      have HR0 := Lib.hid hr0
      clear hr0
      injection hu with hu
      subst hu
      subst hA
      by_cases h1 : x < 128 ∨ 159 < x
      · have hs : seen x = true := by simp [seen]; omega
        have HS := Lib.hid hs
        clear hs
        have next : ∀ w2, LeftR wr F' g ((r.prints (l.take k)).tells (aPrint x)) w2 → LeftR w F g (r.prints (l.take (k + 1))) w2 := fun w2 hw2 => by
          rw [HT.out, ← rprints_yes _ _ _ HS.out]
          exact LeftR.trans HF.out HF'.out hw2
        have NX := Lib.hid next
        have CT := Lib.hid (rtell_any g (aPrint x) none 0 0 NoB (r.prints (l.take k)) F' wr HR.out (Rd.nil _ _ _ _) (Nat.le_refl _) (fun _ _ h => h.elim) (by omega))
        clear next
        rcases (by omega : x < 128 ∨ (128 ≤ x ∧ 159 < x)) with h2 | ⟨h2, h3⟩
        all_goals
          clear h1
          go_wp2_with (go_at_call 46; refine CT.out.mono ?_; rintro e w1 ⟨rfl, hl1⟩; have HL1 := Lib.hid hl1; clear hl1)
          exact ⟨⟨k + 1, by omega, by go_num, NX.out _ HL1.out⟩, by simp [intOf]; omega⟩
      · have h2 : 128 ≤ x := by omega
        have h3 : x ≤ 159 := by omega
        have hs : seen x = false := by simp [seen]; omega
        clear h1
        have HS := Lib.hid hs
        clear hs
        go_wp2
        refine ⟨⟨k + 1, by omega, by go_num, ?_⟩, by simp [intOf]; omega⟩
        rw [HT.out, ← rprints_no _ _ _ HS.out]
        exact ⟨F', HR.out, HF.out, HF'.out⟩
    · have hlt' : (n : Int) ≤ (k : Int) := by omega
      go_wp2
      go_end0
      refine ⟨rfl, ?_⟩
      have e : l.take k = l := List.take_of_length_le (by rw [HLL.out]; omega)
      rw [e] at HR
      exact ⟨F', HR.out, HF.out, HF'.out⟩

/-- list, then tell: the parameters stand in new memory -/
theorem rlisttell_any (g : Nat) (p : PAct) (r : RS) (F : Nat → Prop) (m : RM) (w : World) (h : RepRM w F g r m) (hn : r.params.length ≤ 64) (ho : r.out.length ≤ 67108864) (hp : p.params = r.params) :
    Calls Tryd.prog 55 #[.pointer (some ⟨g, 0, none⟩)] w fun e w1 => ∃ A n c, e = .returned (.slice A n c) ∧ Fr NoB w w1 ∧
      Calls Tryd.prog 46 #[.pointer (some ⟨g, 0, none⟩), .agg #[.int .i64 p.kind, .int .i32 p.rune, .int .u8 p.fin, .int .u8 p.priv, .slice A n c, .string p.inter, .string p.text]] w1 fun e w2 => e = .returned (.tuple #[]) ∧ LeftR w F g (r.tells p) w2 := by
  refine (rlist_any g r F m w h hn).mono fun e w1 ⟨A, c, he, hs, hf⟩ => ?_
  refine ⟨A, m.pn, c, he, hf, ?_⟩
  have hr1 : RepR w1 F g r := ⟨m, h.fr hf (fun _ _ => noB_no) (.inr fun _ _ => noB_no)⟩
  refine (rtell_any g p A m.pn c _ r F w1 hr1 (by rw [hp]; exact hs.rd) hs.le.1 (fun k _ hk hF => by have := h.dom k hF; unfold NewB at hk; omega) ho).mono fun e w2 hq => ⟨hq.1, ?_⟩
  exact LeftR.trans (hf.mono fun _ _ h => h.elim) (fun k hk _ => hk) hq.2

set_option maxHeartbeats 1600000 in
theorem rends_any (g : Nat) (b : Int) (r : RS) (F : Nat → Prop) (w : World) (h : RepR w F g r) (hn : r.params.length ≤ 64) (ho : r.out.length ≤ 67108864) :
    Calls Tryd.prog 85 #[.pointer (some ⟨g, 0, none⟩), .int .u8 b] w (PostR w F g (r.ends b)) := by
  obtain ⟨m, h⟩ := h
  have c0 : w.cell? ⟨g, 0, none⟩ = some (.int .i64 r.state) := h.blk.cell 0
  have f0 := h.blk.frozen 0
  have c2 : w.cell? ⟨g, 2, none⟩ = some (.int .u8 r.priv) := h.blk.cell 2
  have c5 : w.cell? ⟨g, 5, none⟩ = some (.string r.inter) := h.blk.cell 5
  have c7 : w.cell? ⟨g, 7, none⟩ = some (.int .u8 r.fin) := h.blk.cell 7
  have f7 := h.blk.frozen 7
  have HR := Lib.hid h
  have hst : r.ends b = r.ends b := rfl
  conv at hst => rhs; unfold RS.ends
  generalize r.ends b = rr at *
  by_cases k1 : 7 ≤ r.state
  · rw [if_pos k1] at hst
    have HST := Lib.hid hst
    clear hst h
    by_cases k2 : r.state = 10
    · have hs := HST.out
      rw [if_pos k2] at hs
      have HS := Lib.hid hs
      rw [k2] at c0
      clear hs k1 k2
      go_enter Tryd.func85, Tryd.ntmps85
      go_wp2
      refine bodyPost_ret (results_none rfl _ _ _) rfl ⟨rfl, ?_⟩
      rw [HS.out]
      exact (HR.out.put1 7 (.int .u8 b) { r with fin := b } rfl rfl rfl rfl).put 0 _ _ (fun _ => rfl) rfl rfl rfl
    · have hs := HST.out
      rw [if_neg k2] at hs
      have HS := Lib.hid hs
      have t2 := bne_f k2
      clear hs k2
      go_enter Tryd.func85, Tryd.ntmps85
      go_wp2
      refine bodyPost_ret (results_none rfl _ _ _) rfl ⟨rfl, ?_⟩
      rw [HS.out]
      exact (HR.out.put1 7 (.int .u8 b) { r with fin := b } rfl rfl rfl rfl).put 0 _ _ (fun _ => rfl) rfl rfl rfl
  · rw [if_neg k1] at hst
    have k1' : r.state < 7 := by omega
    by_cases k2 : r.state = 6
    · rw [if_pos k2] at hst
      have HS := Lib.hid hst
      rw [k2] at c0
      clear hst h k1 k2
      go_enter Tryd.func85, Tryd.ntmps85
      go_wp2
      go_end0
      refine ⟨rfl, ?_⟩
      rw [HS.out]
      exact HR.out.put1 0 _ { r with state := 0 } rfl rfl rfl rfl
    · rw [if_neg k2] at hst
      have HS := Lib.hid hst
      have t2 := bne_f k2
      have CL := Lib.hid (fun (W : World) (hf : Fr NoB w W) => rlisttell_any g { kind := 4, rune := 0, fin := b, priv := r.priv, params := r.params, inter := r.inter, text := ⟨#[]⟩ } r F m W (h.fr hf (fun _ _ => noB_no) (.inr fun _ _ => noB_no)) hn ho rfl)
      clear hst h k1 k2
      go_enter Tryd.func85, Tryd.ntmps85
      go_wp2
      go_region_held3 (fun w' => w'.cell? ⟨g, 2, none⟩ = some (.int .u8 r.priv) ∧ w'.cell? ⟨g, 5, none⟩ = some (.string r.inter))
        (first | exact ⟨c2, c5⟩ | exact ⟨c22, c52⟩ | exact ⟨c23, c53⟩)
        (first
          | (go_at_call 55
             refine (CL.out w.drew (Fr.refl _ _).drew).mono ?_
             rintro e w1 ⟨A1, n1, k1, rfl, hf1, hc1⟩
             have c22 : w1.cell? ⟨g, 2, none⟩ = some (.int .u8 r.priv) := hf1.cell_some (c2 : w.drew.cell? ⟨g, 2, none⟩ = some (.int .u8 r.priv)) noB_no
             have c52 : w1.cell? ⟨g, 5, none⟩ = some (.string r.inter) := hf1.cell_some (c5 : w.drew.cell? ⟨g, 5, none⟩ = some (.string r.inter)) noB_no
             have HC1 := Lib.hid hc1
             clear hc1 hf1)
          | (go_at_call 46
             refine HC1.out.mono ?_
             rintro e w2 ⟨rfl, hl2⟩
             have c23 : w2.cell? ⟨g, 2, none⟩ = some (.int .u8 r.priv) := by obtain ⟨F2, ⟨m2, h2⟩, _⟩ := hl2; exact h2.blk.cell 2
             have c53 : w2.cell? ⟨g, 5, none⟩ = some (.string r.inter) := by obtain ⟨F2, ⟨m2, h2⟩, _⟩ := hl2; exact h2.blk.cell 5
             have c03 : w2.cell? ⟨g, 0, none⟩ = some (.int .i64 r.state) := by obtain ⟨F2, ⟨m2, h2⟩, _⟩ := hl2; exact h2.blk.cell 0
             have f03 : w2.frozen? ⟨g, 0, none⟩ = false := by obtain ⟨F2, ⟨m2, h2⟩, _⟩ := hl2; exact h2.blk.frozen 0
             have HL2 := Lib.hid hl2
             clear hl2))
      go_wp2
      go_end0
      refine ⟨rfl, ?_⟩
      rw [HS.out]
      have hl := HL2.out.put 0 (.int .i64 0) { r.tells { kind := 4, rune := 0, fin := b, priv := r.priv, params := r.params, inter := r.inter, text := ⟨#[]⟩ } with state := 0 } (fun _ => rfl) rfl rfl rfl
      exact LeftR.trans (w1 := w.drew) (Fr.refl _ _).drew (fun _ h _ => h) hl
end Go.Proofs.YtopaeikddlpecaaDoor
