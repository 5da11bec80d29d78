/-
  Walks of the document's decoder (lanyardref01): need, second, Head, value. Conditions: fewer than 67108864 bytes.
-/
import Derived.Test.YtopaeikddlpecaaDoorRm
import Derived.BigQuiet
namespace Go.Proofs.YtopaeikddlpecaaDoor
open Go.RowKit

theorem need_any (x : Int) (h : 0 ≤ x ∧ x ≤ 255) (w : World) : Calls Tryd.prog 81 #[.int .u8 x] w fun e w' => e = .returned (.int .i64 (needB x)) ∧ w = w' := by
  rcases (by omega : x < 128 ∨ (128 ≤ x ∧ x < 194) ∨ (194 ≤ x ∧ x ≤ 223) ∨ (224 ≤ x ∧ x ≤ 239) ∨ (240 ≤ x ∧ x ≤ 244) ∨ 244 < x) with c | c | c | c | c | c
  all_goals
    have e : needB x = needB x := rfl
    conv at e => rhs; unfold needB
    repeat (first | rw [if_pos (by omega)] at e | rw [if_neg (by omega)] at e)
    rw [e]
    clear e
    go_enter Tryd.func81, Tryd.ntmps81
    go_wp2
    go_ret
    exact ⟨rfl, rfl⟩

theorem needB_le (x : Int) : 0 ≤ needB x ∧ needB x ≤ 4 := by
  unfold needB
  repeat' split
  all_goals omega
def secondB (x y : Int) : Bool := decide (loB x ≤ y) && decide (y ≤ hiB x)
set_option maxHeartbeats 800000 in
theorem second_any (x y : Int) (w : World) : Calls Tryd.prog 82 #[.int .u8 x, .int .u8 y] w fun e w' => e = .returned (.bool (secondB x y)) ∧ w' = w := by
  have hs : secondB x y = (decide (loB x ≤ y) && decide (y ≤ hiB x)) := rfl
  unfold loB hiB at hs
  rcases (by omega : x = 224 ∨ x = 237 ∨ x = 240 ∨ x = 244 ∨ (x ≠ 224 ∧ x ≠ 237 ∧ x ≠ 240 ∧ x ≠ 244)) with rfl | rfl | rfl | rfl | ⟨c1, c2, c3, c4⟩
  · simp only [if_true, if_false, show ¬ (224 : Int) = 237 by omega, show ¬ (224 : Int) = 244 by omega] at hs
    generalize secondB 224 y = b at *
    have HS := Lib.hid hs
    clear hs
    go_enter Tryd.func82, Tryd.ntmps82
    go_wp2
    all_goals
      go_ret
      refine ⟨?_, rfl⟩
      rw [HS.out]
      congr 2
      simp
      try omega
  · simp only [if_true, if_false, show ¬ (237 : Int) = 224 by omega, show ¬ (237 : Int) = 240 by omega] at hs
    generalize secondB 237 y = b at *
    have HS := Lib.hid hs
    clear hs
    go_enter Tryd.func82, Tryd.ntmps82
    go_wp2
    all_goals
      go_ret
      refine ⟨?_, rfl⟩
      rw [HS.out]
      congr 2
      simp
      try omega
  · simp only [if_true, if_false, show ¬ (240 : Int) = 224 by omega, show ¬ (240 : Int) = 237 by omega, show ¬ (240 : Int) = 244 by omega] at hs
    generalize secondB 240 y = b at *
    have HS := Lib.hid hs
    clear hs
    go_enter Tryd.func82, Tryd.ntmps82
    go_wp2
    all_goals
      go_ret
      refine ⟨?_, rfl⟩
      rw [HS.out]
      congr 2
      simp
      try omega
  · simp only [if_true, if_false, show ¬ (244 : Int) = 224 by omega, show ¬ (244 : Int) = 237 by omega, show ¬ (244 : Int) = 240 by omega] at hs
    generalize secondB 244 y = b at *
    have HS := Lib.hid hs
    clear hs
    go_enter Tryd.func82, Tryd.ntmps82
    go_wp2
    all_goals
      go_ret
      refine ⟨?_, rfl⟩
      rw [HS.out]
      congr 2
      simp
      try omega
  · simp only [if_false, c1, c2, c3, c4] at hs
    generalize secondB x y = b at *
    have t1 := bne_f c1
    have t2 := bne_f c2
    have t3 := bne_f c3
    have t4 := bne_f c4
    have HS := Lib.hid hs
    clear hs c1 c2 c3 c4
    go_enter Tryd.func82, Tryd.ntmps82
    go_wp2
    all_goals
      go_ret
      refine ⟨?_, rfl⟩
      rw [HS.out]
      congr 2
      simp
      try omega
theorem second_bad (l : List Int) (h : badAt l 1 = true) : secondB (l.getD 0 0) (l.getD 1 0) = false := by
  have := (badAt_one l).1 h
  simp only [secondB, Bool.and_eq_false_iff, decide_eq_false_iff_not]
  omega
theorem second_good (l : List Int) (h : badAt l 1 = false) : secondB (l.getD 0 0) (l.getD 1 0) = true ∧ 128 ≤ l.getD 1 0 ∧ l.getD 1 0 ≤ 191 := by
  have hn : ¬ badAt l 1 = true := by rw [h]; simp
  rw [badAt_one] at hn
  have h1 : 128 ≤ loB (l.getD 0 0) := by unfold loB; repeat' split
                                         all_goals omega
  have h2 : hiB (l.getD 0 0) ≤ 191 := by unfold hiB; repeat' split
                                         all_goals omega
  simp only [secondB, Bool.and_eq_true, decide_eq_true_eq]
  omega

/-- the cells of a slice of bytes -/
theorem Rd.byte_cells {w : World} {R : Nat → Prop} {A : Option Addr} {n : Nat} {l : List Int} (hl : Rd w R 1 A n (byts l)) (h0 : 0 < n) :
    ∃ g o, A = some ⟨g, o, none⟩ ∧ g < w.heap.size ∧ ∀ k, k < n → w.cell? ⟨g, o + k, none⟩ = some (.int .u8 (l.getD k 0)) := by
  have hll : l.length = n := by have := hl.1; rw [byts_length] at this; omega
  obtain ⟨g, o, hA, _, hlt, hc⟩ := hl.2 (by omega)
  exact ⟨g, o, hA, hlt, fun k hk => hc k _ (byts_at (by omega))⟩

set_option maxHeartbeats 6400000 in
theorem head_any (A : Option Addr) (n c : Nat) (l : List Int) (R : Nat → Prop) (w : World) (hl : Rd w R 1 A n (byts l)) (hn : n ≤ 67108864) (hB : Byts l) :
    Calls Tryd.prog 64 #[.slice A n c] w fun e w' => e = .returned (.tuple #[.int .i64 (headB l).1, .int .i64 (headB l).2]) ∧ Fr NoB w w' := by
  have hll : l.length = n := by have := hl.1; rw [byts_length] at this; omega
  rcases Nat.eq_zero_or_pos n with h0 | h0
  · have hh : headB l = (0, 0) := by unfold headB; rw [if_pos (by omega)]
    rw [hh]
    subst h0
    clear hh hl hll hB
    go_enter Tryd.func64, Tryd.ntmps64
    go_wp2
    go_ret2
    exact ⟨rfl, Fr.refl _ _⟩
  · obtain ⟨g, o, rfl, lt, hc⟩ := hl.byte_cells h0
    have hc0 := hc 0 h0
    rw [Nat.add_zero] at hc0
    have hh : headB l = if needB (l.getD 0 0) = 0 then (0, 0) else headFrom l (needB (l.getD 0 0)) 4 1 := by unfold headB; rw [if_neg (by omega)]
    have b0 := hB 0
    have CN := Lib.hid (need_any (l.getD 0 0) b0 w)
    have hN := needB_le (l.getD 0 0)
    have HC := Lib.hid hc
    have HB := Lib.hid hB
    have HLL := Lib.hid hll
    have HBD := Lib.hid (second_bad l)
    have HGD := Lib.hid (second_good l)
    have CS := Lib.hid (fun W => second_any (l.getD 0 0) (l.getD 1 0) W)
    clear hl hc hB hll
    generalize headB l = H at *
    have HH := Lib.hid hh
    clear hh
    generalize needB (l.getD 0 0) = N at *
    generalize hp0 : l.getD 0 0 = p0 at *
    have HP0 := Lib.hid hp0
    clear hp0
    by_cases hz : N = 0
    · subst hz
      have e := HH.out
      rw [if_pos rfl] at e
      rw [e]
      clear e hN
      go_enter Tryd.func64, Tryd.ntmps64
      go_wp2_with (go_at_call 81; refine CN.out.mono ?_; rintro e w1 ⟨rfl, rfl⟩)
      go_ret2
      exact ⟨rfl, Fr.refl _ _⟩
    · have t0 := bne_f hz
      have e := HH.out
      rw [if_neg hz] at e
      have HE := Lib.hid e
      clear e hz HH
      go_enter Tryd.func64, Tryd.ntmps64
      go_wp2_with (go_at_call 81; refine CN.out.mono ?_; rintro e w1 ⟨rfl, rfl⟩)
      go_loopw [5] (fun i wr => ∃ k : Nat, 1 ≤ k ∧ k ≤ 5 ∧ i = .int .i64 k ∧ headFrom l N (5 - k) k = H ∧ Fr NoB w wr) (fun i _ => 5 - (intOf i).toNat)
      case atStart => exact ⟨1, by omega, by omega, rfl, HE.out.symm, Fr.refl _ _⟩
      case round =>
        obtain ⟨k, hk1, hk5, rfl, he, hf⟩ := hrel
        have HF := Lib.hid hf
        have HK := Lib.hid he
        clear he hf
        by_cases hlt : (k : Int) < N ∧ k < n
        · obtain ⟨g1, g2⟩ := hlt
          have g2' : (k : Int) < (n : Int) := by omega
          have hck : wr.cell? ⟨g, o + k, none⟩ = some (.int .u8 (l.getD k 0)) := HF.out.cell_some (HC.out k g2) noB_no
          have hd : 5 - k = (4 - k) + 1 := by omega
          have hgo := headFrom_go (l := l) (n := N) (d := 4 - k) (k := k) g1 (by rw [HLL.out]; exact g2)
          rw [← hd, HK.out] at hgo
          cases hbd : badAt l k with
          | true =>
            rw [hbd, if_pos rfl] at hgo
            have HGO := Lib.hid hgo
            rcases (by omega : k = 1 ∨ 2 ≤ k) with rfl | hk2
            · have hs := HBD.out hbd
              have hc00 : wr.cell? ⟨g, o, none⟩ = some (.int .u8 p0) := HF.out.cell_some hc0 noB_no
              have CSS := Lib.hid (fun W => CS.out W)
              rw [hs] at CSS
              generalize l.getD 1 0 = p1 at *
              clear hbd hgo hs hd CS
              go_wp2_with fail
              go_quiet (first | (go_at_call 82; refine Calls.quiet_of_same (CSS.out _)))
              go_wp2
              go_ret2
              exact ⟨by rw [HGO.out]; rfl, HF.out.drewN nq⟩
            · have hb2 := (badAt_more l k hk2).1 hbd
              generalize hpk : l.getD k 0 = pk at *
              clear hbd hgo hd CS hpk
              rcases (by omega : k = 2 ∨ k = 3) with rfl | rfl
              all_goals
                rcases (by omega : pk < 128 ∨ (128 ≤ pk ∧ 191 < pk)) with h1 | ⟨h1, h2⟩
                · clear hb2
                  go_wp2_with fail
                  go_quiet (fail)
                  go_wp2
                  go_ret2
                  exact ⟨by rw [HGO.out]; rfl, HF.out.drewN nq⟩
                · have d1 : decide (pk < 128) = false := by simp; omega
                  have d2 : decide (191 < pk) = true := by simp; omega
                  clear hb2
                  go_wp2_with fail
                  go_quiet (fail)
                  go_wp2
                  go_ret2
                  exact ⟨by rw [HGO.out]; rfl, HF.out.drewN nq⟩
          | false =>
            rw [hbd, if_neg (by simp)] at hgo
            have HGO := Lib.hid hgo
            rcases (by omega : k = 1 ∨ 2 ≤ k) with rfl | hk2
            · have hs := HGD.out hbd
              have hc00 : wr.cell? ⟨g, o, none⟩ = some (.int .u8 p0) := HF.out.cell_some hc0 noB_no
              have CSS := Lib.hid (fun W => CS.out W)
              rw [hs.1] at CSS
              have hs2 := hs.2.1
              have hs3 := hs.2.2
              generalize l.getD 1 0 = p1 at *
              have d1 : decide (p1 < 128) = false := by simp; omega
              have d2 : decide (191 < p1) = false := by simp; omega
              clear hbd hgo hs hd CS
              go_wp2_with fail
              go_quiet (first | (go_at_call 82; refine Calls.quiet_of_same (CSS.out _)))
              go_wp2
              refine ⟨⟨2, by omega, by omega, by go_num, HGO.out.symm, HF.out.drewN nq⟩, by simp [intOf]⟩
            · have hb2 : ¬ (l.getD k 0 < 128 ∨ 191 < l.getD k 0) := fun h => by have := (badAt_more l k hk2).2 h; rw [hbd] at this; cases this
              generalize hpk : l.getD k 0 = pk at *
              have h1 : 128 ≤ pk := by omega
              have h2 : pk ≤ 191 := by omega
              have d1 : decide (pk < 128) = false := by simp; omega
              have d2 : decide (191 < pk) = false := by simp; omega
              clear hbd hgo hd CS hb2 hpk
              rcases (by omega : k = 2 ∨ k = 3) with rfl | rfl
              · go_wp2_with fail
                go_quiet (fail)
                go_wp2
                exact ⟨⟨3, by omega, by omega, by go_num, HGO.out.symm, HF.out.drewN nq⟩, by simp [intOf]⟩
              · go_wp2_with fail
                go_quiet (fail)
                go_wp2
                exact ⟨⟨4, by omega, by omega, by go_num, HGO.out.symm, HF.out.drewN nq⟩, by simp [intOf]⟩
        · have hend := headFrom_end (l := l) (n := N) (d := 5 - k) (k := k) (by rw [HLL.out]; exact hlt)
          rw [HK.out] at hend
          have HEND := Lib.hid hend
          clear hend CS
          by_cases g1 : (k : Int) < N
          · have g2 : (n : Int) ≤ (k : Int) := by omega
            clear hlt
            go_wp2
            go_ret2
            exact ⟨by rw [HEND.out]; rfl, HF.out⟩
          · have g2 : N ≤ (k : Int) := by omega
            clear hlt
            go_wp2
            go_ret2
            exact ⟨by rw [HEND.out]; rfl, HF.out⟩

set_option maxHeartbeats 1600000 in
theorem value_any (A : Option Addr) (n c : Nat) (l : List Int) (R : Nat → Prop) (w : World) (hl : Rd w R 1 A n (byts l)) (hn : 1 ≤ n ∧ n ≤ 4) (hB : Byts l) :
    Calls Tryd.prog 65 #[.slice A n c] w fun e w' => e = .returned (.int .i32 (valB l)) ∧ Fr NoB w w' := by
  have hll : l.length = n := by have := hl.1; rw [byts_length] at this; omega
  obtain ⟨g, o, rfl, lt, hc⟩ := hl.byte_cells (by omega)
  have hv : valB l = if n = 1 then l.getD 0 0 else if n = 2 then val2 (l.getD 0 0) (l.getD 1 0) else if n = 3 then val3 (l.getD 0 0) (l.getD 1 0) (l.getD 2 0) else val4 (l.getD 0 0) (l.getD 1 0) (l.getD 2 0) (l.getD 3 0) := by rw [valB, hll]
  have b0 := hB 0
  have b1 := hB 1
  have b2 := hB 2
  have b3 := hB 3
  have c0 := hc 0 (by omega)
  rw [Nat.add_zero] at c0
  rw [hv]
  rcases (by omega : n = 1 ∨ n = 2 ∨ n = 3 ∨ n = 4) with rfl | rfl | rfl | rfl
  · rw [if_pos rfl]
    generalize l.getD 0 0 = p0 at *
    clear hl hB hll hc hv b1 b2 b3
    go_enter Tryd.func65, Tryd.ntmps65
    go_wp2
    go_ret
    exact ⟨rfl, Fr.refl _ _⟩
  · rw [if_neg (by omega), if_pos rfl]
    have c1 := hc 1 (by omega)
    generalize l.getD 0 0 = p0 at *
    generalize l.getD 1 0 = p1 at *
    clear hl hB hll hc hv b2 b3
    go_enter Tryd.func65, Tryd.ntmps65
    go_wp2
    go_quiet (fail)
    go_wp2
    go_ret
    exact ⟨rfl, (Fr.refl _ _).drewN nq⟩
  · rw [if_neg (by omega), if_neg (by omega), if_pos rfl]
    have c1 := hc 1 (by omega)
    have c2 := hc 2 (by omega)
    generalize l.getD 0 0 = p0 at *
    generalize l.getD 1 0 = p1 at *
    generalize l.getD 2 0 = p2 at *
    clear hl hB hll hc hv b3
    go_enter Tryd.func65, Tryd.ntmps65
    go_wp2
    go_quiet (fail)
    go_wp2
    go_ret
    exact ⟨rfl, (Fr.refl _ _).drewN nq⟩
  · rw [if_neg (by omega), if_neg (by omega), if_neg (by omega)]
    have c1 := hc 1 (by omega)
    have c2 := hc 2 (by omega)
    have c3 := hc 3 (by omega)
    generalize l.getD 0 0 = p0 at *
    generalize l.getD 1 0 = p1 at *
    generalize l.getD 2 0 = p2 at *
    generalize l.getD 3 0 = p3 at *
    clear hl hB hll hc hv
    go_enter Tryd.func65, Tryd.ntmps65
    go_wp2
    go_quiet (fail)
    go_wp2
    go_ret
    exact ⟨rfl, (Fr.refl _ _).drewN nq⟩
end Go.Proofs.YtopaeikddlpecaaDoor
