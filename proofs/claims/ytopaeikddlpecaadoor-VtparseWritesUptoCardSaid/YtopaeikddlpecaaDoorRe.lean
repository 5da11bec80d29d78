/-
  Walks of the document's decoder: Runes, Decoder.Put, Decoder.Flush. Conditions: fewer than 67108864 bytes; what is put lies outside the decoder's own memory.
-/
import Derived.Test.YtopaeikddlpecaaDoorRd
namespace Go.Proofs.YtopaeikddlpecaaDoor
open Go.RowKit

/-- 'xs[:m]' -/
theorem cut_hi {P : Program} (t e : TypeId) {i : TypeInfo} (ht : P.underlying t = some (.slice e)) (hi : P.info? e = some i) (A : Option Addr) (n c m : Nat) (hm : m ≤ c) (W : World) :
    (Instr.slice t (.slice A n c) none (some (.int .i64 (m : Int))) none).run P W = .ok (.slice A m c) W := by
  have hel : P.elem t = e := by simp [Program.elem, ht]
  have hu : P.underlying t = some (.slice (P.elem t)) := by rw [hel]; exact ht
  rw [run_slice_h W t A n c hu .i64 (m : Int) (Int.natCast_nonneg _) (by omega), hel]
  have ha : (if c = 0 then A else A.map (·.add 0)) = A := by
    split
    · rfl
    · cases A with
      | none => rfl
      | some a => simp [Addr.add]
  simp [sizeOf, typeInfo, hi, sliced, Result.andThen, ha]

/-- what one round of Head's callers comes to -/
theorem head_says (l : List Int) (h : l ≠ []) (hb : Byts l) :
    (∃ m : Nat, headB l = ((m : Int), (m : Int)) ∧ 1 ≤ m ∧ m ≤ l.length ∧ m ≤ 4 ∧ full l = true ∧ decR l = valB (l.take m) ∧ decN l = m) ∨
    (∃ n : Int, headB l = ((l.length : Int), n) ∧ (l.length : Int) < n ∧ full l = false ∧ decR l = 65533 ∧ decN l = 1) ∨
    (∃ n : Int, headB l = (0, n) ∧ 0 ≤ n ∧ full l = true ∧ decR l = 65533 ∧ decN l = 1) := by
  rcases head_cases l h hb with ⟨m, h1, h2, h3, h4, h5⟩ | ⟨n, h1, h2, h3, h4, h5⟩ | ⟨n, h1, h2, h3, h4, h5⟩
  · refine .inl ⟨m, h1, h2, h3, ?_, h4, by simp [decR, h5], by simp [decN, h5]⟩
    have hh : headB l = if l.length < 1 then (0, 0) else if needB (l.getD 0 0) = 0 then (0, 0) else headFrom l (needB (l.getD 0 0)) 4 1 := rfl
    have hN := needB_le (l.getD 0 0)
    have key : ∀ d k : Nat, ∀ N : Int, (headFrom l N d k).2 = N := by
      intro d
      induction d with
      | zero => intro k N; rfl
      | succ d ih =>
        intro k N
        rw [headFrom]
        split
        · split
          · rfl
          · exact ih _ _
        · rfl
    have h6 : (headB l).2 ≤ 4 := by
      rw [hh]
      split
      · show (0 : Int) ≤ 4; omega
      split
      · show (0 : Int) ≤ 4; omega
      · rw [key]; exact hN.2
    rw [h1] at h6
    have h7 : (m : Int) ≤ 4 := h6
    omega
  · exact .inr (.inl ⟨n, h1, h2, h4, by simp [decR, h5], by simp [decN, h5]⟩)
  · exact .inr (.inr ⟨n, h1, h2, h4, by simp [decR, h5], by simp [decN, h5]⟩)

set_option maxHeartbeats 3200000 in
set_option maxRecDepth 100000 in
theorem rrunes_any (A : Option Addr) (n c : Nat) (l : List Int) (R : Nat → Prop) (w : World) (hl : Rd w R 1 A n (byts l)) (hc : n ≤ c) (hn : n ≤ 67108864) (hB : Byts l) :
    Calls Tryd.prog 47 #[.slice A n c] w (NewRunes w (runesOf l)) := by
  have HL := Lib.hid (hl.mono (G := fun k => k < w.heap.size) fun k hk _ => hk)
  have HB := Lib.hid hB
  have HC := Lib.hid hc
  clear hl hB hc
  obtain ⟨i5, hi5, hz5⟩ := Option.map_eq_some_iff.1 byte_info
  simp only [Prod.mk.injEq] at hz5
  have HI5 := Lib.hid hi5
  have HZ5 := Lib.hid hz5
  clear hi5 hz5
  go_enter Tryd.func47, Tryd.ntmps47
  go_wp2
  go_loopw [3, 0] (fun v3 v0 wr => RunesRel w l v3 v0 wr) (fun _ v0 _ => lenV v0)
  case atStart => exact ⟨A, n, c, none, 0, 0, l, [], rfl, rfl, HL.out, HC.out, Sl.nil _ _ _ _, rfl, HB.out, Fr.refl _ _, by omega⟩
  case round =>
    obtain ⟨A1, n1, c1, A2, n2, c2, rest, done, rfl, rfl, hrd, hnc, hsl, he, hb, hf, hsz⟩ := hrel
    have hlen : rest.length = n1 := by have := hrd.1; rw [byts_length] at this; omega
    have hdl : done.length = n2 := by have := hsl.1; rw [runes_length] at this; omega
    rcases Nat.eq_zero_or_pos n1 with h0 | h0
    · obtain rfl : rest = [] := List.eq_nil_of_length_eq_zero (by omega)
      subst h0
      rw [runesOf_nil, List.append_nil] at he
      have HS := Lib.hid hsl
      have HE := Lib.hid he
      have HF := Lib.hid hf
      clear hrd hsl he hb hf hlen hdl
      go_wp2
      go_ret
      exact ⟨_, _, _, rfl, by rw [← HE.out]; exact HS.out, HF.out⟩
    · have hne : rest ≠ [] := by intro h; subst h; simp at hlen; omega
      have hcons := runesOf_cons rest hne
      have CH := Lib.hid (head_any A1 n1 c1 rest _ wr hrd (by omega) hb)
      have hle2 := hsl.le
      have HS := Lib.hid hsl
      have HE := Lib.hid he
      have HF := Lib.hid hf
      have HBB := Lib.hid hb
      have HCS := Lib.hid hcons
      have HRD := Lib.hid hrd
      have HLN := Lib.hid hlen
      have HDL := Lib.hid hdl
      -- what is the same in both ways
      have next : ∀ (r : Int) (m : Nat) (A3 A4 : Option Addr) (c4 : Nat) (w1 w2 : World), decR rest = r → decN rest = m → 1 ≤ m → m ≤ n1 → Fr NoB wr w1 → Fr (Own A2) w1 w2 → (∀ (w : World) (R : Nat → Prop) (xs : List Value), Rd w R 1 A1 n1 xs → Rd w R 1 A3 (n1 - m) (xs.drop (m * 1))) →
          Sl w2 (Own A4) 21 1 A4 (n2 + 1) c4 (runes done ++ [.int .i32 r]) → (A4 = A2 ∨ ∃ g, A4 = some ⟨g, 0, none⟩ ∧ w1.heap.size ≤ g) →
          RunesRel w l (.slice A4 (n2 + 1) c4) (.slice A3 (n1 - m) (c1 - m)) w2 := fun r m A3 A4 c4 w1 w2 hr hm h1 h2 hf1 hf2 hcut hs4 hA4 => by
        have hle := hf.size
        have hle1 := hf1.size
        have hin : ∀ k, Own A2 k → NewB w k := fun k hk => hsl.inF hk
        refine ⟨A3, n1 - m, c1 - m, A4, n2 + 1, c4, rest.drop m, done ++ [r], rfl, rfl, ?_, by omega, ?_, ?_, hb.drop m, ?_, by omega⟩
        · have h1 := hcut _ _ _ ((hrd.fr hf1 fun _ _ => noB_no).fr hf2 (fun k hk ho => by have := hin k ho; unfold NewB at this; omega))
          simpa [byts] using h1
        · rw [runes_append]
          exact hs4.mono (own_after hin hA4 fun k hk => by unfold NewB; omega)
        · rw [← he, hcons, List.append_assoc, hr, hm]; rfl
        · exact (hf.trans hf1 fun _ _ hk => hk).trans hf2 fun k hk ho => by have := hin k ho; unfold NewB at this; omega
      have NX := Lib.hid next
      have hsays := head_says rest hne hb
      clear hrd hsl he hb hf hcons hne next hlen hdl
      rcases hsays with ⟨m, e1, h1, h2, h3, _, h4, h5⟩ | ⟨N, e1, h1, _, h4, h5⟩ | ⟨N, e1, h1, _, h4, h5⟩
      · rw [e1] at CH
        have h2' : m ≤ n1 := by rw [← HLN.out]; exact h2
        obtain ⟨A3, hcut, hrd3, _⟩ := cut_lo (P := Tryd.prog) 22 5 Tryd.underlying22 HI5.out 1 HZ5.out.2.1 A1 n1 c1 m h2' hnc
        have hhi := cut_hi (P := Tryd.prog) 22 5 Tryd.underlying22 HI5.out A1 n1 c1 m (by omega)
        have H3 := Lib.hid hrd3
        have H4 := Lib.hid h4
        have H5 := Lib.hid h5
        have HM := Lib.hid h1
        have CV := Lib.hid (fun (W : World) (hf : Fr NoB wr W) => value_any A1 m c1 (rest.take m) _ W ((by simpa [byts] using (HRD.out.take (k := m) (by omega)) : Rd wr _ 1 A1 m (byts (rest.take m))).fr hf fun _ _ => noB_no) ⟨h1, h3⟩ (fun j => by
          have := HBB.out j
          simp only [List.getD_eq_getElem?_getD, List.getElem?_take] at this ⊢
          split
          · exact this
          · simp))
        have hm0 : (0 : Int) < (m : Int) := by omega
        generalize valB (rest.take m) = r at *
        clear e1 hrd3 h4 h5 h2 h3 h1
        go_wp2_with (first
          | (go_at_call 64
             refine CH.out.mono ?_
             rintro e w1 ⟨rfl, hf1⟩
             have HF1 := Lib.hid hf1
             clear hf1)
          | (go_at_call 65
             refine (CV.out w1 HF1.out).mono ?_
             rintro e w2 ⟨rfl, hf2⟩
             have HF2 := Lib.hid (HF1.out.trans hf2 fun _ _ h => h)
             have HS2 := Lib.hid (HS.out.fr HF2.out fun _ _ => noB_no)
             clear hf2)
          | (at_builtin
             refine wpList_append_box w2 rfl (.tmp 21) (.tmp 26) _ rfl 21 _ 1 4 Tryd.underlying37 rune_info rfl (by omega) rfl rfl HS2.out rfl ?c1 (by omega) (by omega) ?_
             case c1 => simp [Value.oneCell']
             intro A4 c4 w3 hf3 hs3 hA4
             have HN := Lib.hid (NX.out r m A3 A4 c4 w2 w3 H4.out H5.out HM.out h2' HF2.out hf3 H3.out hs3 hA4)
             clear hf3 hs3 hA4))
        exact ⟨HN.out, by simp only [lenV]; have := HM.out; omega⟩
      all_goals
        rw [e1] at CH
        obtain ⟨A3, hcut, hrd3, _⟩ := cut_lo (P := Tryd.prog) 22 5 Tryd.underlying22 HI5.out 1 HZ5.out.2.1 A1 n1 c1 1 h0 hnc
        have hcut1 : ∀ W : World, (Instr.slice 22 (.slice A1 n1 c1) (some (.int .i64 1)) none none).run Tryd.prog W = .ok (.slice A3 (n1 - 1) (c1 - 1)) W := hcut
        have H3 := Lib.hid hrd3
        have H4 := Lib.hid h4
        have H5 := Lib.hid h5
        clear hrd3 h4 h5 hcut
      · have hlN : (rest.length : Int) ≠ N := by omega
        have t1 := bne_f hlN
        clear e1 hlN
        go_wp2_with (first
          | (go_at_call 64
             refine CH.out.mono ?_
             rintro e w1 ⟨rfl, hf1⟩
             have HF1 := Lib.hid hf1
             have HS2 := Lib.hid (HS.out.fr hf1 fun _ _ => noB_no)
             clear hf1)
          | (at_builtin
             refine wpList_append_box w1 rfl (.tmp 31) (.tmp 32) _ rfl 21 _ 1 4 Tryd.underlying37 rune_info rfl (by omega) rfl rfl HS2.out rfl ?c1 (by omega) (by omega) ?_
             case c1 => simp [Value.oneCell']
             intro A4 c4 w3 hf3 hs3 hA4
             have HN := Lib.hid (NX.out 65533 1 A3 A4 c4 w1 w3 H4.out H5.out (Nat.le_refl _) h0 HF1.out hf3 H3.out hs3 hA4)
             clear hf3 hs3 hA4))
        exact ⟨HN.out, by simp only [lenV]; omega⟩
      · by_cases hN0 : N = 0
        · subst hN0
          clear e1
          go_wp2_with (first
            | (go_at_call 64
               refine CH.out.mono ?_
               rintro e w1 ⟨rfl, hf1⟩
               have HF1 := Lib.hid hf1
               have HS2 := Lib.hid (HS.out.fr hf1 fun _ _ => noB_no)
               clear hf1)
            | (at_builtin
               refine wpList_append_box w1 rfl (.tmp 31) (.tmp 32) _ rfl 21 _ 1 4 Tryd.underlying37 rune_info rfl (by omega) rfl rfl HS2.out rfl ?c1 (by omega) (by omega) ?_
               case c1 => simp [Value.oneCell']
               intro A4 c4 w3 hf3 hs3 hA4
               have HN := Lib.hid (NX.out 65533 1 A3 A4 c4 w1 w3 H4.out H5.out (Nat.le_refl _) h0 HF1.out hf3 H3.out hs3 hA4)
               clear hf3 hs3 hA4))
          exact ⟨HN.out, by simp only [lenV]; omega⟩
        · have t1 : ((0 : Int) == N) = false := bne_f (by omega)
          clear e1 hN0
          go_wp2_with (first
            | (go_at_call 64
               refine CH.out.mono ?_
               rintro e w1 ⟨rfl, hf1⟩
               have HF1 := Lib.hid hf1
               have HS2 := Lib.hid (HS.out.fr hf1 fun _ _ => noB_no)
               clear hf1)
            | (at_builtin
               refine wpList_append_box w1 rfl (.tmp 31) (.tmp 32) _ rfl 21 _ 1 4 Tryd.underlying37 rune_info rfl (by omega) rfl rfl HS2.out rfl ?c1 (by omega) (by omega) ?_
               case c1 => simp [Value.oneCell']
               intro A4 c4 w3 hf3 hs3 hA4
               have HN := Lib.hid (NX.out 65533 1 A3 A4 c4 w1 w3 H4.out H5.out (Nat.le_refl _) h0 HF1.out hf3 H3.out hs3 hA4)
               clear hf3 hs3 hA4))
          exact ⟨HN.out, by simp only [lenV]; omega⟩
end Go.Proofs.YtopaeikddlpecaaDoor
