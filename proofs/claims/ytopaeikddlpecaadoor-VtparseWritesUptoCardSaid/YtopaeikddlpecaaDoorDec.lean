/-
  package ucell: Runes and the Decoder (none, New, Flush, Put, Pending), walked. Conditions: the tables; fewer than 67108864 bytes.
-/
import Derived.Test.YtopaeikddlpecaaDoorFull
import Derived.Test.YtopaeikddlpecaaDoorCut
namespace Go.Proofs.YtopaeikddlpecaaDoor
open Go.RowKit

/-! ### plain -/
theorem dec_size (l : List Int) (h : l ≠ []) : ∃ r : Int, ∃ m : Nat, dec l = (r, (m : Int)) ∧ 1 ≤ m ∧ m ≤ l.length := by
  have hl : 1 ≤ l.length := by cases l <;> simp_all
  unfold dec
  rw [if_neg (by omega)]
  by_cases c1 : l.getD 0 0 < 128
  · rw [if_pos c1]; exact ⟨_, 1, rfl, by omega, by omega⟩
  rw [if_neg c1]
  by_cases c2 : l.getD 0 0 < 194
  · rw [if_pos c2]; exact ⟨_, 1, rfl, by omega, by omega⟩
  rw [if_neg c2]
  by_cases c3 : 244 < l.getD 0 0
  · rw [if_pos c3]; exact ⟨_, 1, rfl, by omega, by omega⟩
  rw [if_neg c3]
  by_cases c4 : l.length < 2
  · rw [if_pos c4]; exact ⟨_, 1, rfl, by omega, by omega⟩
  rw [if_neg c4]
  by_cases c5 : l.getD 1 0 < loB (l.getD 0 0)
  · rw [if_pos c5]; exact ⟨_, 1, rfl, by omega, by omega⟩
  rw [if_neg c5]
  by_cases c6 : hiB (l.getD 0 0) < l.getD 1 0
  · rw [if_pos c6]; exact ⟨_, 1, rfl, by omega, by omega⟩
  rw [if_neg c6]
  by_cases c7 : l.getD 0 0 < 224
  · rw [if_pos c7]; exact ⟨_, 2, rfl, by omega, by omega⟩
  rw [if_neg c7]
  by_cases c8 : l.length < 3
  · rw [if_pos c8]; exact ⟨_, 1, rfl, by omega, by omega⟩
  rw [if_neg c8]
  by_cases c9 : l.getD 2 0 < 128
  · rw [if_pos c9]; exact ⟨_, 1, rfl, by omega, by omega⟩
  rw [if_neg c9]
  by_cases d1 : 191 < l.getD 2 0
  · rw [if_pos d1]; exact ⟨_, 1, rfl, by omega, by omega⟩
  rw [if_neg d1]
  by_cases d2 : l.getD 0 0 < 240
  · rw [if_pos d2]; exact ⟨_, 3, rfl, by omega, by omega⟩
  rw [if_neg d2]
  by_cases d3 : l.length < 4
  · rw [if_pos d3]; exact ⟨_, 1, rfl, by omega, by omega⟩
  rw [if_neg d3]
  by_cases d4 : l.getD 3 0 < 128
  · rw [if_pos d4]; exact ⟨_, 1, rfl, by omega, by omega⟩
  rw [if_neg d4]
  by_cases d5 : 191 < l.getD 3 0
  · rw [if_pos d5]; exact ⟨_, 1, rfl, by omega, by omega⟩
  rw [if_neg d5]
  exact ⟨_, 4, rfl, by omega, by omega⟩

def decR (l : List Int) : Int := (dec l).1
def decN (l : List Int) : Nat := (dec l).2.toNat
theorem dec_eq (l : List Int) (h : l ≠ []) : dec l = (decR l, (decN l : Int)) ∧ 1 ≤ decN l ∧ decN l ≤ l.length := by
  obtain ⟨r, m, e, h1, h2⟩ := dec_size l h
  simp only [decR, decN, e, Int.toNat_natCast]
  exact ⟨trivial, h1, h2⟩

def runesOf (l : List Int) : List Int :=
  if _h : l = [] then [] else decR l :: runesOf (l.drop (decN l))
termination_by l.length
decreasing_by
  have := (dec_eq l _h).2
  rw [List.length_drop]
  omega
theorem runesOf_nil : runesOf [] = [] := by rw [runesOf]; simp
theorem runesOf_cons (l : List Int) (h : l ≠ []) : runesOf l = decR l :: runesOf (l.drop (decN l)) := by
  conv => lhs; rw [runesOf]
  rw [dif_neg h]
theorem runesOf_len (l : List Int) : (runesOf l).length ≤ l.length := by
  induction h : l.length using Nat.strongRecOn generalizing l with
  | ind n ih =>
    by_cases hl : l = []
    · subst hl; rw [runesOf_nil]; simp
    · rw [runesOf_cons l hl, List.length_cons]
      have h2 := (dec_eq l hl).2
      have := ih (l.drop (decN l)).length (by rw [List.length_drop]; omega) _ rfl
      rw [List.length_drop] at this
      omega
theorem Byts.drop {l : List Int} (h : Byts l) (k : Nat) : Byts (l.drop k) := fun j => by
  have := h (k + j)
  simpa [List.getD_eq_getElem?_getD, List.getElem?_drop] using this
theorem Byts.append {l r : List Int} (h : Byts l) (k : Byts r) : Byts (l ++ r) := fun j => by
  rcases Nat.lt_or_ge j l.length with hj | hj
  · have := h j
    simpa [List.getD_eq_getElem?_getD, List.getElem?_append_left hj] using this
  · have := k (j - l.length)
    simpa [List.getD_eq_getElem?_getD, List.getElem?_append_right hj] using this
theorem Byts.nil : Byts [] := fun j => by simp

/-- how many elements a slice value has -/
def lenV : Value → Nat | .slice _ n _ => n | _ => 0

def NewB (w : World) : Nat → Prop := fun k => w.heap.size ≤ k
/-- a new slice of runes -/
def NewRunes (w : World) (l : List Int) (e : Ending) (w' : World) : Prop := ∃ A n c, e = .returned (.slice A n c) ∧ Sl w' (NewB w) 21 1 A n c (runes l) ∧ Fr NoB w w'

theorem rune_info : (Tryd.prog.info? 21).map (fun i => (i.zero, i.size, i.bytes)) = some (some (.int .i32 0), 1, 4) := by kernel_rfl
theorem byte_info : (Tryd.prog.info? 5).map (fun i => (i.zero, i.size, i.bytes)) = some (some (.int .u8 0), 1, 1) := by kernel_rfl
theorem noB_no {i : Nat} : ¬ NoB i := id

/-- the relation of Runes' loop -/
def RunesRel (w : World) (l : List Int) (v3 v0 : Value) (wr : World) : Prop :=
  ∃ A n c A' n' c' rest done, v0 = .slice A n c ∧ v3 = .slice A' n' c' ∧ Rd wr (fun k => k < w.heap.size) 1 A n (byts rest) ∧ n ≤ c ∧ Sl wr (NewB w) 21 1 A' n' c' (runes done) ∧ done ++ runesOf rest = runesOf l ∧ Byts rest ∧ Fr NoB w wr ∧ n' + n ≤ 67108864

set_option maxHeartbeats 1000000 in
theorem runes_any (A : Option Addr) (n c : Nat) (l : List Int) (R : Nat → Prop) (w : World) (hT : Tabs w) (hl : Rd w R 1 A n (byts l)) (hc : n ≤ c) (hn : n ≤ 67108864) (hB : Byts l) :
    Calls Tryd.prog 45 #[.slice A n c] w (NewRunes w (runesOf l)) := by
  have HL := Lib.hid (hl.mono (G := fun k => k < w.heap.size) fun k hk _ => hk)
  have HT := Lib.hid hT
  have HB := Lib.hid hB
  have HC := Lib.hid hc
  clear hl hT hB hc
  obtain ⟨i5, hi5, hz5⟩ := Option.map_eq_some_iff.1 byte_info
  simp only [Prod.mk.injEq] at hz5
  have HI5 := Lib.hid hi5
  have HZ5 := Lib.hid hz5
  clear hi5 hz5
  go_enter Tryd.func45, Tryd.ntmps45
  go_wp2
  go_loopw [3, 0] (fun v3 v0 wr => RunesRel w l v3 v0 wr) (fun _ v0 _ => lenV v0)
  case atStart => exact ⟨A, n, c, none, 0, 0, l, [], rfl, rfl, HL.out, HC.out, Sl.nil _ _ _ _, rfl, HB.out, Fr.refl _ _, by omega⟩
  case round =>
    obtain ⟨A1, n1, c1, A2, n2, c2, rest, done, rfl, rfl, hrd, hnc, hsl, he, hb, hf, hsz⟩ := hrel
    have hlen : rest.length = n1 := by have := hrd.1; rw [byts_length] at this; omega
    have hdl : done.length = n2 := by have := hsl.1; rw [runes_length] at this; omega
    rcases Nat.eq_zero_or_pos n1 with h0 | h0
    · obtain rfl : rest = [] := List.eq_nil_of_length_eq_zero (by omega)
      subst h0
      rw [runesOf_nil, List.append_nil] at he
      have HS := Lib.hid hsl
      have HE := Lib.hid he
      have HF := Lib.hid hf
      clear hrd hsl he hb hf hlen hdl
      go_wp2
      go_ret
      exact ⟨_, _, _, rfl, by rw [← HE.out]; exact HS.out, HF.out⟩
    · have hne : rest ≠ [] := by intro h; subst h; simp at hlen; omega
      obtain ⟨hd, hm1, hm2⟩ := dec_eq rest hne
      have hcons := runesOf_cons rest hne
      have CT := Lib.hid (decode_any A1 n1 c1 rest _ wr (HT.out.fr hf fun _ _ => noB_no) hrd (by omega) hb)
      rw [hd] at CT
      obtain ⟨A3, hcut, hrd3, _⟩ := cut_lo (P := Tryd.prog) 22 5 Tryd.underlying22 HI5.out 1 HZ5.out.2.1 A1 n1 c1 (decN rest) (by omega) hnc
      have HRD := Lib.hid (hrd3 wr _ _ hrd)
      have HS := Lib.hid hsl
      have HE := Lib.hid he
      have HF := Lib.hid hf
      have HBB := Lib.hid hb
      have HCS := Lib.hid hcons
      have HD3 := Lib.hid hrd3
      have HLN := Lib.hid hlen
      have HDL := Lib.hid hdl
      clear hrd hsl he hb hf hcons hd hne hrd3 hlen hdl
      generalize decR rest = r at *
      generalize hm : decN rest = m at *
      have HM := Lib.hid hm
      clear hm
      go_wp2_with (first
        | (go_at_call 63
           refine CT.out.mono ?_
           rintro e w1 ⟨rfl, hf1⟩
           have HS1 := Lib.hid (HS.out.fr hf1 fun _ _ => noB_no)
           have HF1 := Lib.hid hf1
           clear hf1)
        | (at_builtin
           refine wpList_append_box w1 rfl (.tmp 14) (.tmp 16) _ rfl 21 _ 1 4 Tryd.underlying37 rune_info rfl (by omega) rfl rfl HS1.out rfl ?c1 (by omega) (by omega) ?_
           case c1 => simp [Value.oneCell']
           intro A4 c4 w2 hf2 hs2 hA4
           have HF2 := Lib.hid hf2
           have HS2 := Lib.hid hs2
           have HA4 := Lib.hid hA4
           clear hf2 hs2 hA4))
      have hle := HF.out.size
      have hle1 := HF1.out.size
      have hin : ∀ k, Own A2 k → NewB w k := fun k hk => HS.out.inF hk
      refine ⟨⟨A3, n1 - m, c1 - m, A4, n2 + 1, c4, rest.drop m, done ++ [r], rfl, rfl, ?_, by omega, ?_, ?_, HBB.out.drop m, ?_, by omega⟩, by simp only [lenV]; omega⟩
      · have h1 := (HRD.out.fr HF1.out fun _ _ => noB_no).fr HF2.out (fun k hk ho => by have := hin k ho; unfold NewB at this; omega)
        simpa [byts] using h1
      · rw [runes_append]
        exact HS2.out.mono (own_after hin HA4.out fun k hk => by unfold NewB; omega)
      · rw [← HE.out, HCS.out, List.append_assoc, ← HM.out]; rfl
      · exact (HF.out.trans HF1.out fun _ _ hk => hk).trans HF2.out fun k hk ho => by have := hin k ho; unfold NewB at this; omega

/-! ### the decoder's methods -/
theorem dnone_any (g : Nat) (w : World) (h : w.cell? ⟨g, 0, none⟩ = some (.bool true)) :
    Calls Tryd.prog 44 #[.pointer (some ⟨g, 0, none⟩)] w fun e w' => e = .returned (.bool false) ∧ w = w' := by
  go_enter Tryd.func44, Tryd.ntmps44
  go_wp2
  go_ret
  exact ⟨rfl, rfl⟩

theorem dnew_any (w : World) : Calls Tryd.prog 33 #[] w fun e w' => e = .returned (.pointer (some ⟨w.heap.size, 0, none⟩)) ∧ w.alloc (.cells #[.bool true, .slice none 0 0] 71) = w' := by
  go_enter Tryd.func33, Tryd.ntmps33
  go_wp2
  go_ret
  exact ⟨rfl, rfl⟩

theorem pending_any (g : Nat) (l : List Int) (F : Nat → Prop) (w : World) (h : RepD w F g l) :
    Calls Tryd.prog 36 #[.pointer (some ⟨g, 0, none⟩)] w fun e w' => e = .returned (.int .i64 (l.length : Int)) ∧ w = w' := by
  obtain ⟨A, n, c, hb, _, hs⟩ := h
  have c0 : w.cell? ⟨g, 0, none⟩ = some (.bool true) := hb.cell 0
  have c1 : w.cell? ⟨g, 1, none⟩ = some (.slice A n c) := hb.cell 1
  have hn : l.length = n := by have := hs.1; rw [byts_length] at this; omega
  have HN := Lib.hid hn
  clear hb hs hn
  go_enter Tryd.func36, Tryd.ntmps36
  go_wp2_with (go_at_call 44; refine (dnone_any g w c0).mono ?_; rintro e w' ⟨rfl, rfl⟩)
  go_ret
  exact ⟨by rw [HN.out]; rfl, rfl⟩

/-- Flush leaves the decoder empty; its runes lie in new memory -/
def FlushP (w : World) (F : Nat → Prop) (g : Nat) (l : List Int) (e : Ending) (w' : World) : Prop :=
  ∃ A n c, e = .returned (.slice A n c) ∧ Sl w' (NewB w) 21 1 A n c (runes (runesOf l)) ∧ RepD w' F g [] ∧ Fr (· = g) w w'

set_option maxHeartbeats 400000 in
theorem flush_any (g : Nat) (l : List Int) (F : Nat → Prop) (w : World) (h : RepD w F g l) (hT : Tabs w) (hn : l.length ≤ 67108864) (hB : Byts l) :
    Calls Tryd.prog 30 #[.pointer (some ⟨g, 0, none⟩)] w (FlushP w F g l) := by
  obtain ⟨A, n, c, hb, hF, hs⟩ := h
  have c0 : w.cell? ⟨g, 0, none⟩ = some (.bool true) := hb.cell 0
  have c1 : w.cell? ⟨g, 1, none⟩ = some (.slice A n c) := hb.cell 1
  have hln : l.length = n := by have := hs.1; rw [byts_length] at this; omega
  have CT := Lib.hid (runes_any A n c l _ w hT hs.rd hs.le.1 (by omega) hB)
  have HBK := Lib.hid hb
  have HF := Lib.hid hF
  clear hb hs hln hT hB hF
  go_enter Tryd.func30, Tryd.ntmps30
  go_wp2_with (first
    | (go_at_call 44; refine (dnone_any g w c0).mono ?_; rintro e w' ⟨rfl, rfl⟩)
    | (go_at_call 45
       refine CT.out.mono ?_
       rintro e w1 ⟨A1, n1, c2, rfl, hs1, hf1⟩
       have HB1 := Lib.hid (HBK.out.fr hf1 noB_no)
       have d1 : w1.cell? ⟨g, 1, none⟩ = some (.slice A n c) := HB1.out.cell 1
       have e1 : w1.frozen? ⟨g, 1, none⟩ = false := HB1.out.frozen 1
       have HS1 := Lib.hid hs1
       have HF1 := Lib.hid hf1
       clear hs1 hf1))
  go_ret
  have hfar : ¬ NewB w g := fun h => Nat.lt_irrefl _ (Nat.lt_of_lt_of_le HBK.out.lt h)
  exact ⟨_, _, _, rfl, HS1.out.far (p := ⟨g, 1, none⟩) hfar _, ⟨none, 0, 0, HB1.out.put 1 _, HF.out, Sl.nil _ _ _ _⟩, (HF1.out.mono fun _ _ h => h.elim).trans ((Fr.refl (· = g) w1).setCell (p := ⟨g, 1, none⟩) (fun _ => rfl) _) fun _ _ h => h⟩
end Go.Proofs.YtopaeikddlpecaaDoor
