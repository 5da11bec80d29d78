/-
  Walk: vtparse.Parser.param. Conditions: the parameters are as many as 'many' says, up to 16; numbers in their bounds.
-/
import Derived.Test.YtopaeikddlpecaaDoorPb
import Derived.Deep.DeepCutAuto
namespace Go.Proofs.YtopaeikddlpecaaDoor
open Go.RowKit

section
variable {w W : World} {F : Nat → Prop} {g : Nat} {s : PS} {m : PM}
/-- the parameters have turned: nothing but the parser's block and theirs -/
theorem RepPM.parTurned [Inhabited AvoidSet] (h : RepPM w F g s m) (s' : PS) {A' : Option Addr} {n' c' : Nat} (hf : Fr (fun k => k = g ∨ Own m.pA k) w W) (hb : Blk W g 53 (s'.blk { m with pA := A', pn := n', pc := c' }))
    (hs : Sl W (Own A') 3 1 A' n' c' (ints s'.a.params)) (hA : ∀ k, Own A' k → k < w.heap.size → F k) (hd : s'.dec = s.dec) (ho : s'.out = s.out) : LeftP w F g s' W := by
  have fr : ∀ e, 53 ≠ e → 3 ≠ e → Free w (fun k => k = g ∨ Own m.pA k) e := by
    intro e h1 h2 k hk
    rcases hk with hk | hk
    · exact Free.blk h.blk h1 k hk
    · exact Free.own h.par h2 k hk
  have hXF : ∀ k, (k = g ∨ Own m.pA k) → F k := by
    rintro k (rfl | hk)
    · exact h.own
    · exact h.par.inF hk
  obtain ⟨hn, cs, hos, hoa⟩ := h.out
  refine ⟨Plus F A', ⟨_, hb, .inl h.own, ?_, fun k hk => Nat.lt_of_lt_of_le (h.avd k hk) hf.size, ?_, ?_, ?_⟩, hf.mono fun k _ hk => hXF k hk, ?_⟩
  · intro k hk
    rcases hk with hk | hk
    · exact Nat.lt_of_lt_of_le (h.dom k hk) hf.size
    · exact hs.inB hk
  · rw [hd]
    exact (h.dec.carry hf (fr _ (by decide) (by decide)) (fr _ (by decide) (by decide))).mono fun k hk => .inl hk
  · exact hs.mono fun k hk => .inr hk
  · rw [ho]
    refine ⟨hn, cs, (hos.carry hf (fr _ (by decide) (by decide))).mono fun k hk => .inl hk, ?_⟩
    have h2 := (hoa.mono (G := fun k => k < w.heap.size ∧ OffS F k) fun k hk ho => ⟨hk, ho⟩).fr hf fun i hi hx => hi.2.1 (hXF i hx)
    refine h2.mono fun k _ hk => ⟨fun hn => ?_, hk.2.2⟩
    rcases hn with hn | hn
    · exact hk.2.1 hn
    · exact hk.2.1 (hA k hn hk.1)
  · intro k hk hlt
    rcases hk with hk | hk
    · exact hk
    · exact hA k hk hlt
end

/-- 'wpList_append_box', the new block's number being spelt otherwise -/
theorem wpList_append_box' {P : Program} (W : World) (N : Nat) (hN : W.heap.size = N) {ops : Array Oper} {rest : List Oper} {o : Oper} {a : Act} {Q : Exit → Act → World → Prop} (hgd : o.guard = none) (s x : Operand) (t : TypeId)
    (ho : o.op = .call { callee := .builtin .append, args := #[s, x], argTypes := #[t, t] })
    (e : TypeId) (z : Value) (size bytes : Nat) (ht : P.underlying t = some (.slice e)) (hinfo : (P.info? e).map (fun i => (i.zero, i.size, i.bytes)) = some (some z, size, bytes))
    (hzs : z.cells.size = size) (hsz : 0 < size)
    {F : Nat → Prop} {A : Option Addr} {n c : Nat} {xs : List Value} {cs : Array Value} (hs : a.eval s = .slice A n c) (hx : a.eval x = .slice (some ⟨N, 0, none⟩) 1 1)
    (h : Sl W F e size A n c xs) (hcs : cs.size = size) (h1 : ∀ u ∈ cs.toList, u.oneCell' = true)
    (hbytes : (n + 1) * bytes ≤ 140737488355328) (hb0 : 0 < bytes)
    (hk : ∀ A' c' w', Fr (Own A) W w' → Sl w' (Own A') e size A' (n + 1) c' (xs ++ cs.toList) → (A' = A ∨ ∃ g, A' = some ⟨g, 0, none⟩ ∧ W.heap.size ≤ g) → wpList P ops Q rest (a.put o.dst (.slice A' (n + 1) c')) w') :
    wpList P ops Q (o :: rest) a (W.alloc (.cells cs e)) := by
  subst hN
  exact wpList_append_box W hgd s x t ho e z size bytes ht hinfo hzs hsz hs hx h hcs h1 hbytes hb0 hk

def PS.par0 (s : PS) : PS := if s.many = 0 then { s with a := { s.a with params := [-1] }, many := 1 } else s
def digit (n b : Int) : Int := min (max n 0 * 10 + (b - 48)) 65535
def PS.parSemi (s : PS) : PS := if s.many + 1 ≤ 16 then { s with a := { s.a with params := s.a.params ++ [-1] }, many := s.many + 1 } else { s with many := s.many + 1 }
def PS.parDigit (s : PS) (b : Int) : PS := if s.many ≤ 16 then { s with a := { s.a with params := s.a.params.set (s.many - 1).toNat (digit (s.a.params.getD (s.many - 1).toNat 0) b) } } else s
def PS.param (s : PS) (b : Int) : PS := if b = 59 then s.par0.parSemi else s.par0.parDigit b

theorem par0_many (s : PS) (h : 0 ≤ s.many) (hm : s.many ≤ 67108864) : 1 ≤ s.par0.many ∧ s.par0.many ≤ 67108864 := by
  unfold PS.par0
  split
  · exact ⟨by simp, by simp⟩
  · exact ⟨by omega, by omega⟩

set_option maxHeartbeats 1600000 in
set_option maxRecDepth 100000 in
theorem param_any [Inhabited AvoidSet] (g : Nat) (b : Int) (s0 : PS) (F0 : Nat → Prop) (w0 : World) (h0 : RepP w0 F0 g s0) (hm0 : 0 ≤ s0.many) (hm1 : s0.many ≤ 67108864) (hp : s0.par0.a.params.length ≤ 64) (hp2 : s0.par0.many ≤ 16 → (s0.par0.a.params.length : Int) = s0.par0.many)
    (hb : b = 59 ∨ 48 ≤ b ∧ b ≤ 57) (hr : ∀ k, -1 ≤ s0.par0.a.params.getD k 0 ∧ s0.par0.a.params.getD k 0 ≤ 65535) :
    Calls Tryd.prog 84 #[.pointer (some ⟨g, 0, none⟩), .int .u8 b] w0 (PostP w0 F0 g (s0.param b)) := by
  have HH := Lib.hid h0
  have HP := Lib.hid hp2
  have HRG := Lib.hid hr
  obtain ⟨m, h⟩ := h0
  have c7 : w0.cell? ⟨g, 7, none⟩ = some (.slice m.pA m.pn m.pc) := h.blk.cell 7
  have f7 : w0.frozen? ⟨g, 7, none⟩ = false := h.blk.frozen 7
  have c10 : w0.cell? ⟨g, 10, none⟩ = some (.int .i64 s0.many) := h.blk.cell 10
  have f10 : w0.frozen? ⟨g, 10, none⟩ = false := h.blk.frozen 10
  have lt0 := h.blk.lt
  have hpm := par0_many s0 hm0 hm1
  have HR := Lib.hid h
  clear h hp2 hr
  have hpar : s0.param b = if b = 59 then s0.par0.parSemi else s0.par0.parDigit b := rfl
  generalize s0.param b = r at *
  have HPAR := Lib.hid hpar
  clear hpar
  go_enter Tryd.func84, Tryd.ntmps84
  go_upto_if 9 with (fail)
  go_cut [] (fun wx => LeftP w0 F0 g s0.par0 wx)
  case first =>
    by_cases hz : s0.many = 0
    · have HZ := Lib.hid hz
      rw [hz] at c10
      have b1 : (s0.many == 0) = true := by rw [hz]; rfl
      clear hz
      go_wp2
      all_goals go_meet
      case rel =>
        have e : s0.par0 = { s0 with a := { s0.a with params := [-1] }, many := 1 } := by unfold PS.par0; rw [if_pos HZ.out]
        rw [e]
        refine HR.out.parTurned _ (A' := some ⟨w0.heap.size, 0, none⟩) (n' := 1) (c' := 1) ?_ ?_ ?_ ?_ rfl rfl
        · exact (((Fr.refl _ w0).setCell (p := ⟨g, 7, none⟩) (fun _ => .inl rfl) _).setCell (p := ⟨g, 10, none⟩) (fun _ => .inl rfl) _).alloc _
        · exact ((HR.out.blk.put 7 _).put 10 _).alloc _
        · have h1 := Sl.new ((w0.setCell ⟨g, 7, none⟩ (.slice (some ⟨w0.heap.size, 0, none⟩) 1 1)).setCell ⟨g, 10, none⟩ (.int .i64 1)) (F := Own (some ⟨w0.heap.size, 0, none⟩)) (by simp [Own]) 3 1 #[.int .i64 (-1)] 1 1 (Nat.le_refl _) (by simp [maxLen]) rfl
          simpa [ints] using h1
        · intro k hk hlt
          have : w0.heap.size = k := by injection hk
          omega
    · have b1 : (s0.many == 0) = false := by rw [beq_eq_false_iff_ne]; exact hz
      have HZ := Lib.hid hz
      clear hz
      go_wp2
      all_goals go_meet
      case rel =>
        have e : s0.par0 = s0 := by unfold PS.par0; rw [if_neg HZ.out]
        rw [e]
        exact LeftP.refl ⟨m, HR.out⟩
  case rest =>
    obtain ⟨F, ⟨m1, h⟩, hf1, hF1⟩ := hcut
    obtain ⟨w, rfl⟩ : ∃ w, w = wc := ⟨_, rfl⟩
    clear c7 f7 c10 f10 lt0 HR HH
    have fin : ∀ w' : World, LeftP w F g (if b = 59 then s0.par0.parSemi else s0.par0.parDigit b) w' → LeftP w0 F0 g r w' := fun w' hw' => by
      rw [HPAR.out]
      exact LeftP.trans hf1 hF1 hw'
    clear hf1 hF1 HPAR
    generalize s0.par0 = s at *
    obtain ⟨m, rfl⟩ : ∃ m, m = m1 := ⟨_, rfl⟩
    have hm := hpm.1
    have hm2 := hpm.2
    have c7 : w.cell? ⟨g, 7, none⟩ = some (.slice m.pA m.pn m.pc) := h.blk.cell 7
    have f7 : w.frozen? ⟨g, 7, none⟩ = false := h.blk.frozen 7
    have c10 : w.cell? ⟨g, 10, none⟩ = some (.int .i64 s.many) := h.blk.cell 10
    have f10 : w.frozen? ⟨g, 10, none⟩ = false := h.blk.frozen 10
    have lt := h.blk.lt
    have hpn : s.a.params.length = m.pn := by have := h.par.1; rw [ints_length] at this; omega
    have hpn' : m.pn ≤ 64 := by omega
    have HPN := Lib.hid hpn
    have HR := Lib.hid h
    clear h hpn hpm hm0 hm1
    by_cases hb59 : b = 59
    · subst hb59
      rw [if_pos rfl] at fin
      have FIN := Lib.hid fin
      clear fin hb HP HRG
      have HS := Lib.hid ((HR.out.par.carry (X := (· = g)) ((Fr.refl (· = g) w).setCell (p := ⟨g, 10, none⟩) (fun _ => rfl) (.int .i64 (s.many + 1))) (Free.blk HR.out.blk (by decide))))
      have HB := Lib.hid (HR.out.blk.put 10 (.int .i64 (s.many + 1)))
      go_wp2_with
        (at_builtin
         refine wpList_append_box' (w.setCell ⟨g, 10, none⟩ (.int .i64 (s.many + 1))) w.heap.size (World.size_setCell _ _ _) rfl (.tmp 37) (.tmp 38) _ rfl 3 _ 1 8 Tryd.underlying33 int_info rfl (by omega) rfl rfl HS.out rfl ?c1 (by omega) (by omega) ?_
         case c1 => simp [Value.oneCell']
         intro A' c' w1 hf1 hs1 hA1
         have hb3 := HB.out.carry hf1 (Free.own HS.out (by decide))
         have d7 : w1.cell? ⟨g, 7, none⟩ = some (.slice m.pA m.pn m.pc) := hb3.cell 7
         have e7 : w1.frozen? ⟨g, 7, none⟩ = false := hb3.frozen 7
         have HB3 := Lib.hid hb3
         have HF1 := Lib.hid hf1
         have HS1 := Lib.hid hs1
         have HA1 := Lib.hid hA1
         clear hf1 hs1 hA1 hb3)
      · refine bodyPost_ret (results_none rfl _ _ _) rfl ⟨rfl, FIN.out _ ?_⟩
        have hle : s.many + 1 ≤ 16 := by assumption
        have e1 : s.parSemi = { s with a := { s.a with params := s.a.params ++ [-1] }, many := s.many + 1 } := by simp [PS.parSemi, hle]
        rw [e1]
        refine HR.out.parTurned _ (A' := A') (n' := m.pn + 1) (c' := c') ?_ ?_ ?_ ?_ rfl rfl
        · exact (((Fr.refl _ w).setCell (p := ⟨g, 10, none⟩) (fun _ => .inl rfl) _).trans HF1.out fun k _ hk => .inr hk).setCell (p := ⟨g, 7, none⟩) (fun _ => .inl rfl) _
        · exact HB3.out.put 7 _
        · rw [ints_append]
          exact (HS1.out.far (p := ⟨g, 7, none⟩) (fun hk => Free.own HS1.out (e := 53) (by decide) _ hk _ _ HB3.out) _)
        · intro k hk hlt
          rcases HA1.out with h | ⟨g', h, hg'⟩
          · subst h; exact HR.out.par.inF hk
          · subst h
            have : g' = k := by injection hk
            rw [World.size_setCell] at hg'
            omega
      · refine bodyPost_ret (results_none rfl _ _ _) rfl ⟨rfl, FIN.out _ ?_⟩
        have hle : 16 < s.many + 1 := by assumption
        have e1 : s.parSemi = { s with many := s.many + 1 } := by unfold PS.parSemi; rw [if_neg (by omega)]
        rw [e1]
        exact LeftP.put1 HR.out _ 10 _ rfl rfl rfl rfl

    · rw [if_neg hb59] at fin
      have hb1 : 48 ≤ b := by omega
      have hb2 : b ≤ 57 := by omega
      have b2 : (b == 59) = false := by rw [beq_eq_false_iff_ne]; omega
      have FIN := Lib.hid fin
      clear fin hb hb59
      by_cases hle : s.many ≤ 16
      · obtain ⟨j, hj⟩ : ∃ j : Nat, s.many - 1 = (j : Int) := ⟨(s.many - 1).toNat, by omega⟩
        have hjn : j < m.pn := by have h1 := HP.out hle; have h2 := HPN.out; omega
        obtain ⟨gp, o, hA, hF, hat⟩ : ∃ gp o, m.pA = some ⟨gp, o, none⟩ ∧ F gp ∧ SlAt w 3 1 gp o m.pn m.pc (ints s.a.params) := by
          rcases HR.out.par.2 with ⟨_, h0, _⟩ | h
          · omega
          · exact h
        have hcell : w.cell? ⟨gp, o + j, none⟩ = some (.int .i64 (s.a.params.getD j 0)) := hat.cell j _ (ints_at (by rw [HPN.out]; exact hjn))
        have hfree : w.frozen? ⟨gp, o + j, none⟩ = false := hat.free j
        have hrg := HRG.out j
        have hmj : s.many = (j : Int) + 1 := by omega
        have e1 : s.parDigit b = { s with a := { s.a with params := s.a.params.set j (digit (s.a.params.getD j 0) b) } } := by
          have : (s.many - 1).toNat = j := by omega
          simp only [PS.parDigit, this]
          rw [if_pos hle]
        have HE1 := Lib.hid e1
        have HA := Lib.hid hA
        have HMJ := Lib.hid hmj
        have HSL := Lib.hid (HR.out.par.put hA j (.int .i64 (digit (s.a.params.getD j 0) b)))
        generalize hd : s.a.params.getD j 0 = d at *
        rw [hA] at c7
        have HD := Lib.hid hd
        clear hA hat e1 hmj hd hF
        go_wp2
        go_quiet (fail)
        go_wp2
        all_goals
          go_end0
          refine ⟨rfl, FIN.out _ ?_⟩
          rw [HE1.out]
          have key : ∀ x, x = digit d b → LeftP w F g { s with a := { s.a with params := s.a.params.set j (digit d b) } } ((w.drewN nq).setCell ⟨gp, o + j, none⟩ (.int .i64 x)) := by
            rintro x rfl
            have hne : g ≠ gp := fun e => Free.own HR.out.par (e := 53) (by decide) gp (by rw [HA.out]; rfl) _ _ (by subst e; exact HR.out.blk)
            refine HR.out.parTurned _ (A' := m.pA) (n' := m.pn) (c' := m.pc) (((Fr.refl _ w).drewN nq).setCell (p := ⟨gp, o + j, none⟩) (fun _ => .inr (by rw [HA.out]; rfl)) _) ?_ ?_ (fun k hk _ => HR.out.par.inF hk) rfl rfl
            · exact (HR.out.blk.drewN nq).far (p := ⟨gp, o + j, none⟩) hne _
            · have h1 := HSL.out.only
              have h2 : (ints s.a.params).set j (.int .i64 (digit d b)) = ints (s.a.params.set j (digit d b)) := by simp [ints, List.map_set]
              rw [h2] at h1
              exact h1.same fun _ _ _ => rfl
          exact key _ (by unfold digit; omega)
      · have e1 : s.parDigit b = s := by unfold PS.parDigit; rw [if_neg hle]
        rw [e1] at FIN
        clear e1
        go_wp2
        go_end0
        exact ⟨rfl, FIN.out _ (LeftP.refl ⟨m, HR.out⟩)⟩
end Go.Proofs.YtopaeikddlpecaaDoor
