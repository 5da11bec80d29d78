/-
  Walks of the document's parser: begins, sequence, graphic, control, inText. Conditions: bounds on lengths and numbers.
-/
import Derived.Test.YtopaeikddlpecaaDoorRh
namespace Go.Proofs.YtopaeikddlpecaaDoor
open Go.RowKit

section
variable {w w' : World} {F : Nat → Prop} {g : Nat} {r : RS}
theorem LeftR.cell0 (h : LeftR w F g r w') : w'.cell? ⟨g, 0, none⟩ = some (.int .i64 r.state) := by
  obtain ⟨F2, ⟨m2, h2⟩, _⟩ := h
  exact h2.blk.cell 0
theorem LeftR.free (h : LeftR w F g r w') (i : Nat) : w'.frozen? ⟨g, i, none⟩ = false := by
  obtain ⟨F2, ⟨m2, h2⟩, _⟩ := h
  exact h2.blk.frozen i
theorem LeftR.st (h : LeftR w F g r w') (st : Int) : LeftR w F g { r with state := st } (w'.setCell ⟨g, 0, none⟩ (.int .i64 st)) := h.put 0 _ _ (fun _ => rfl) rfl rfl rfl
end

set_option maxHeartbeats 1600000 in
theorem rbegins_any (g : Nat) (x : Int) (r : RS) (F : Nat → Prop) (w : World) (h : RepR w F g r) (ho : r.out.length ≤ 67108864) (hx : 0 ≤ x ∧ x ≤ 255) :
    Calls Tryd.prog 73 #[.pointer (some ⟨g, 0, none⟩), .int .u8 x] w (PostR w F g (r.begins x)) := by
  have HL0 := Lib.hid (LeftR.refl h)
  have c0 := HL0.out.cell0
  have f0 := HL0.out.free 0
  have CG := Lib.hid (rgather_any g x r F w h hx)
  have CT := Lib.hid (rtell_any g { act0 with kind := 3, fin := x } none 0 0 NoB r F w h (Rd.nil _ _ _ _) (Nat.le_refl _) (fun _ _ h => h.elim) ho)
  have hst : r.begins x = r.begins x := rfl
  conv at hst => rhs; unfold RS.begins
  generalize r.begins x = rr at *
  clear h
  rcases (by omega : x < 48 ∨ (48 ≤ x ∧ (x = 91 ∨ x = 93 ∨ x = 80 ∨ x = 88 ∨ x = 94 ∨ x = 95 ∨ x = 92)) ∨ (48 ≤ x ∧ x ≠ 91 ∧ x ≠ 93 ∧ x ≠ 80 ∧ x ≠ 88 ∧ x ≠ 94 ∧ x ≠ 95 ∧ x ≠ 92)) with k | ⟨k0, k⟩ | ⟨k, k1, k2, k3, k4, k5, k6, k7⟩
  · rw [if_pos k] at hst
    have HST := Lib.hid hst
    clear hst CT
    go_enter Tryd.func73, Tryd.ntmps73
    go_wp2_with (go_at_call 74
                 refine CG.out.mono ?_
                 rintro e w1 ⟨rfl, hl⟩
                 have c01 := hl.cell0
                 have f01 := hl.free 0
                 have HL := Lib.hid hl
                 clear hl)
    go_end0
    refine ⟨rfl, ?_⟩
    rw [HST.out]
    exact HL.out.st 2
  · clear CG CT
    rcases k with k | k | k | k | k | k | k
    all_goals
      subst k
      repeat (first | rw [if_pos (by omega)] at hst | rw [if_neg (by omega)] at hst)
      have HST := Lib.hid hst
      clear hst k0
      go_enter Tryd.func73, Tryd.ntmps73
      go_wp2
      go_end0
      refine ⟨rfl, ?_⟩
      rw [HST.out]
      exact HL0.out.st _
  · repeat (first | rw [if_pos (by omega)] at hst | rw [if_neg (by omega)] at hst)
    have HST := Lib.hid hst
    have t1 := bne_f k1
    have t2 := bne_f k2
    have t3 := bne_f k3
    have t4 := bne_f k4
    have t5 := bne_f k5
    have t6 := bne_f k6
    have t7 := bne_f k7
    clear hst CG k1 k2 k3 k4 k5 k6 k7
    go_enter Tryd.func73, Tryd.ntmps73
    go_wp2_with (go_at_call 46
                 refine CT.out.mono ?_
                 rintro e w1 ⟨rfl, hl⟩
                 have c01 := hl.cell0
                 have f01 := hl.free 0
                 have HL := Lib.hid hl
                 clear hl)
    go_end0
    refine ⟨rfl, ?_⟩
    rw [HST.out]
    exact HL.out.st 0

set_option maxHeartbeats 6400000 in
theorem rseq_any (g : Nat) (x : Int) (r : RS) (F : Nat → Prop) (w : World) (h : RepR w F g r) (ho : r.out.length ≤ 67108864) (hx : 32 ≤ x ∧ x ≤ 126) (hs : 3 ≤ r.state ∧ r.state ≤ 10) (hm0 : 0 ≤ r.many ∧ r.many ≤ 17) (hp : r.params.length ≤ 64)
    (hp2 : 1 ≤ r.many → r.many ≤ 16 → (r.params.length : Int) = r.many) (hr : ∀ k, -1 ≤ r.params.getD k 0 ∧ r.params.getD k 0 ≤ 65535) :
    Calls Tryd.prog 75 #[.pointer (some ⟨g, 0, none⟩), .int .u8 x] w (PostR w F g (r.seq x)) := by
  have HL0 := Lib.hid (LeftR.refl h)
  have c0 := HL0.out.cell0
  have f0 := HL0.out.free 0
  have c2 : w.cell? ⟨g, 2, none⟩ = some (.int .u8 r.priv) := by obtain ⟨m, hm⟩ := h; exact hm.blk.cell 2
  have f2 := HL0.out.free 2
  have CE := Lib.hid (rends_any g x r F w h hp ho)
  have CG := Lib.hid (rgather_any g x r F w h (by omega))
  have CN := Lib.hid (rnext_any g r F w h hm0 hp)
  have CD := Lib.hid (fun hq => rdigit_any g x r F w h hm0 hp hp2 hq hr)
  have hst : r.seq x = r.seq x := rfl
  conv at hst => rhs; unfold RS.seq
  generalize r.seq x = rr at *
  have hbs : r.base = if 7 ≤ r.state then 7 else 3 := rfl
  generalize r.base = bs at *
  clear h hp2 hr hp hm0
  by_cases k1 : 64 ≤ x
  · rw [if_pos k1] at hst
    have HST := Lib.hid hst
    clear hst CG CN CD
    rcases (by omega : r.state < 7 ∨ 7 ≤ r.state) with k | k
    all_goals
      clear hbs
      go_enter Tryd.func75, Tryd.ntmps75
      go_wp2_with (go_at_call 85
                   refine CE.out.mono ?_
                   rintro e w1 ⟨rfl, hl⟩
                   have HL := Lib.hid hl
                   clear hl)
      go_end0
      refine ⟨rfl, ?_⟩
      rw [HST.out]
      exact HL.out
  · rw [if_neg k1] at hst
    have k1' : x < 64 := by omega
    clear CE k1
    by_cases k2 : r.state = 6 ∨ r.state = 10
    · have e3 : r.state - bs = 3 := by rcases k2 with k | k <;> (rw [k] at hbs ⊢; rw [hbs]; decide)
      rw [if_pos e3] at hst
      have HST := Lib.hid hst
      clear hst CG CN CD hbs e3
      rcases k2 with k | k
      all_goals
        rw [k] at c0
        clear k hs
        go_enter Tryd.func75, Tryd.ntmps75
        go_wp2
        go_end0
        refine ⟨rfl, ?_⟩
        rw [HST.out]
        exact HL0.out
    · have e3 : ¬ r.state - bs = 3 := by split at hbs <;> omega
      rw [if_neg e3] at hst
      by_cases k3 : x < 48
      · rw [if_pos k3] at hst
        have HST := Lib.hid hst
        clear hst CN CD e3
        rcases (by omega : r.state = 3 ∨ r.state = 4 ∨ r.state = 5 ∨ r.state = 7 ∨ r.state = 8 ∨ r.state = 9) with k | k | k | k | k | k
        all_goals
          rw [k] at c0 hbs
          have HBS := Lib.hid hbs
          clear k hs hbs k2
          go_enter Tryd.func75, Tryd.ntmps75
          go_wp2_with (go_at_call 74
                       refine CG.out.mono ?_
                       rintro e w1 ⟨rfl, hl⟩
                       have c01 := hl.cell0
                       have f01 := hl.free 0
                       have HL := Lib.hid hl
                       clear hl)
          go_end0
          refine ⟨rfl, ?_⟩
          rw [HST.out, HBS.out]
          exact HL.out.st _
      · rw [if_neg k3] at hst
        have k3' : 48 ≤ x := by omega
        clear k3 CG
        by_cases k4 : r.state - bs = 2 ∨ x = 58 ∨ (r.state - bs = 1 ∧ 60 ≤ x)
        · rw [if_pos k4] at hst
          have HST := Lib.hid hst
          clear hst CN CD e3
          rcases (by omega : r.state = 3 ∨ r.state = 4 ∨ r.state = 5 ∨ r.state = 7 ∨ r.state = 8 ∨ r.state = 9) with k | k | k | k | k | k
          all_goals
            rw [k] at c0 hbs k4
            have hb2 : bs = 3 ∨ bs = 7 := by split at hbs <;> omega
            have HBS := Lib.hid hbs
            rcases (by split at hbs <;> omega : x = 58 ∨ (x ≠ 58 ∧ 60 ≤ x) ∨ (x = 59 ∨ x < 58)) with q | ⟨q, q1⟩ | q
            · subst q
              clear k hs hbs k2 k4 hb2
              go_enter Tryd.func75, Tryd.ntmps75
              go_wp2
              go_end0
              refine ⟨rfl, ?_⟩
              rw [HST.out, HBS.out]
              exact HL0.out.st _
            · have t1 := bne_f q
              have hfin : HL0.out.st (bs + 3) = HL0.out.st (bs + 3) := rfl
              first
                | (exfalso; clear hfin; split at hbs <;> omega)
                | (clear k hs hbs k2 k4 hb2 q hfin
                   go_enter Tryd.func75, Tryd.ntmps75
                   go_wp2
                   go_end0
                   refine ⟨rfl, ?_⟩
                   rw [HST.out, HBS.out]
                   exact HL0.out.st _)
            · have t1 : (x == 58) = false := bne_f (by omega)
              have q1 : x < 60 := by omega
              first
                | (exfalso; split at hbs <;> omega)
                | (clear k hs hbs k2 k4 hb2 q
                   go_enter Tryd.func75, Tryd.ntmps75
                   go_wp2
                   go_end0
                   refine ⟨rfl, ?_⟩
                   rw [HST.out, HBS.out]
                   exact HL0.out.st _)
        · rw [if_neg k4] at hst
          have hx58 : x ≠ 58 := by omega
          have t58 := bne_f hx58
          rcases (by split at hbs <;> omega : r.state = 3 ∨ r.state = 4 ∨ r.state = 7 ∨ r.state = 8) with k | k | k | k
          all_goals
            rw [k] at c0 hbs k4
            have hb2 : bs = 3 ∨ bs = 7 := by split at hbs <;> omega
            have HBS := Lib.hid hbs
            rcases (by omega : 60 ≤ x ∨ x = 59 ∨ x ≤ 57) with q | q | q
            · rw [if_pos q] at hst
              have HST := Lib.hid hst
              first
                | (exfalso; split at hbs <;> omega)
                | (clear hst k hs hbs k2 k4 hb2 hx58 CN CD e3
                   go_enter Tryd.func75, Tryd.ntmps75
                   go_wp2
                   go_end0
                   refine ⟨rfl, ?_⟩
                   rw [HST.out, HBS.out]
                   exact (HL0.out.put 2 (.int .u8 x) { r with priv := x } (fun _ => rfl) rfl rfl rfl).st _)
            · subst q
              rw [if_neg (by omega), if_pos rfl] at hst
              have HST := Lib.hid hst
              clear hst k hs hbs k2 k4 hb2 hx58 CD t58 e3
              go_enter Tryd.func75, Tryd.ntmps75
              go_wp2_with (go_at_call 86
                           refine CN.out.mono ?_
                           rintro e w1 ⟨rfl, hl⟩
                           have c01 := hl.cell0
                           have f01 := hl.free 0
                           have HL := Lib.hid hl
                           clear hl)
              go_end0
              refine ⟨rfl, ?_⟩
              rw [HST.out, HBS.out]
              exact HL.out.st _
            · rw [if_neg (by omega), if_neg (by omega)] at hst
              have HST := Lib.hid hst
              have CDD := Lib.hid (CD.out (by omega))
              have t59 : (x == 59) = false := bne_f (by omega)
              clear hst k hs hbs k2 k4 hb2 hx58 CN CD e3
              go_enter Tryd.func75, Tryd.ntmps75
              go_wp2_with (go_at_call 87
                           refine CDD.out.mono ?_
                           rintro e w1 ⟨rfl, hl⟩
                           have c01 := hl.cell0
                           have f01 := hl.free 0
                           have HL := Lib.hid hl
                           clear hl)
              go_end0
              refine ⟨rfl, ?_⟩
              rw [HST.out, HBS.out]
              exact HL.out.st _

theorem rcontrol_any (g : Nat) (x : Int) (r : RS) (F : Nat → Prop) (w : World) (h : RepR w F g r) (ho : r.out.length ≤ 67108864) :
    Calls Tryd.prog 58 #[.pointer (some ⟨g, 0, none⟩), .int .u8 x] w (PostR w F g (r.control x)) := by
  have HL0 := Lib.hid (LeftR.refl h)
  have c0 := HL0.out.cell0
  have CT := Lib.hid (rtell_any g (aExec x) none 0 0 NoB r F w h (Rd.nil _ _ _ _) (Nat.le_refl _) (fun _ _ h => h.elim) ho)
  have hst : r.control x = r.control x := rfl
  conv at hst => rhs; unfold RS.control
  generalize r.control x = rr at *
  clear h
  rcases (by omega : (7 ≤ r.state ∧ r.state ≤ 10) ∨ r.state < 7 ∨ (7 ≤ r.state ∧ 10 < r.state)) with ⟨k, k1⟩ | k | ⟨k, k1⟩
  · rw [if_pos ⟨k, k1⟩] at hst
    have HST := Lib.hid hst
    clear hst CT
    go_enter Tryd.func58, Tryd.ntmps58
    go_wp2
    refine bodyPost_ret (results_none rfl _ _ _) rfl ⟨rfl, ?_⟩
    rw [HST.out]
    exact HL0.out
  all_goals
    rw [if_neg (by omega)] at hst
    have HST := Lib.hid hst
    clear hst
    go_enter Tryd.func58, Tryd.ntmps58
    go_wp2_with (go_at_call 46
                 refine CT.out.mono ?_
                 rintro e w1 ⟨rfl, hl⟩
                 have HL := Lib.hid hl
                 clear hl)
    go_end0
    refine ⟨rfl, ?_⟩
    rw [HST.out]
    exact HL.out
end Go.Proofs.YtopaeikddlpecaaDoor
