/-
  Walks: slices.Clone of a slice of ints; vtparse.Parser's inter, text, tell. Conditions: bounds on lengths.
-/
import Derived.Test.YtopaeikddlpecaaDoorPa
import Derived.Test.YtopaeikddlpecaaDoorPut
import Derived.Lib.SliceRun
import Derived.Laws.Cover4
import Derived.Deep.RegionLaw
namespace Go.Proofs.YtopaeikddlpecaaDoor
open Go.RowKit

theorem int_info : (Tryd.prog.info? 3).map (fun i => (i.zero, i.size, i.bytes)) = some (some (.int .i64 0), 1, 8) := by kernel_rfl

/-- a new slice of ints -/
def NewInts (w : World) (n : Nat) (l : List Int) (e : Ending) (w' : World) : Prop := ∃ A c, e = .returned (.slice A n c) ∧ Sl w' (NewB w) 3 1 A n c (ints l) ∧ Fr NoB w w'

set_option maxHeartbeats 400000 in
theorem clone_any (A : Option Addr) (n c : Nat) (l : List Int) (F : Nat → Prop) (w : World) (hl : Sl w F 3 1 A n c (ints l)) (hn : n ≤ 67108864) :
    Calls Tryd.prog 66 #[.slice A n c] w (NewInts w n l) := by
  have HL := Lib.hid hl
  clear hl
  cases A with
  | none =>
    obtain ⟨rfl, rfl⟩ : n = 0 ∧ c = 0 := by
      rcases HL.out.2 with ⟨_, h1, h2⟩ | ⟨_, _, h, _⟩
      · exact ⟨h1, h2⟩
      · cases h
    have hE := fun W : World => Lib.run_eql_slice_nil (P := Tryd.prog) W 33 3 none 0 0 0 0 Tryd.underlying33
    go_enter Tryd.func66, Tryd.ntmps66
    go_wp2
    go_ret
    have h0 : l = [] := by
      have := HL.out.1
      rw [ints_length] at this
      exact List.eq_nil_of_length_eq_zero (by omega)
    exact ⟨none, 0, rfl, by rw [h0]; exact Sl.nil _ _ _ _, Fr.refl _ _⟩
  | some a =>
    have hE := fun W : World => Lib.run_eql_slice_nil (P := Tryd.prog) W 33 3 (some a) n c 0 0 Tryd.underlying33
    have HB := Lib.hid (Sl.new w (F := NewB w) (Nat.le_refl _) 3 1 #[] 0 0 (Nat.le_refl _) (by simp [maxLen]) (by simp))
    have HR := Lib.hid (HL.out.rd.alloc (.cells #[] 3))
    go_enter Tryd.func66, Tryd.ntmps66
    go_wp2_with
      (at_builtin
       refine wpList_append_sl _ rfl (.tmp 5) (.tmp 6) _ rfl 3 _ 1 8 Tryd.underlying33 int_info rfl (by omega) rfl rfl HB.out HR.out ints_one (by simp only [maxLen]; omega) (by omega) ?_
       intro A' c' w1 hf1 hs1 hA1
       have HF1 := Lib.hid hf1
       have HS1 := Lib.hid hs1
       have HA1 := Lib.hid hA1
       clear hf1 hs1 hA1)
    go_ret
    refine ⟨A', c', by simp, ?_, ?_⟩
    · have h1 := HS1.out
      simp only [Nat.zero_add, Nat.zero_mul, List.take_zero, List.nil_append] at h1
      refine h1.mono fun k hk => ?_
      rcases HA1.out with h | h
      · subst h; have : w.heap.size = k := by injection hk
        unfold NewB; omega
      · subst h; have : (w.alloc (Obj.cells #[] 3)).heap.size = k := by injection hk
        simp at this
        unfold NewB; omega
    · refine ((Fr.refl NoB w).alloc _).trans HF1.out fun k hk ho => ?_
      have : w.heap.size = k := by injection ho
      omega

/-! ### inter, text -/
def PS.inter (s : PS) (b : Int) : PS := if s.a.inter.size < 2 then { s with a := { s.a with inter := s.a.inter ++ Utf8.encode b } } else s
def PS.text (s : PS) (b : Int) : PS := if s.a.text.size < 1024 then { s with a := { s.a with text := s.a.text ++ strOfNums [b] } } else s

set_option maxHeartbeats 400000 in
theorem inter_any [Inhabited AvoidSet] (g : Nat) (b : Int) (s : PS) (F : Nat → Prop) (w : World) (h : RepP w F g s) (hb : 0 ≤ b ∧ b ≤ 255) :
    Calls Tryd.prog 69 #[.pointer (some ⟨g, 0, none⟩), .int .u8 b] w (PostP w F g (s.inter b)) := by
  obtain ⟨m, h⟩ := h
  have c8 : w.cell? ⟨g, 8, none⟩ = some (.string s.a.inter) := h.blk.cell 8
  have f8 : w.frozen? ⟨g, 8, none⟩ = false := h.blk.frozen 8
  have hs := encode_size_le b
  have HR := Lib.hid h
  clear h
  by_cases hlt : s.a.inter.size < 2
  · have e1 : s.inter b = { s with a := { s.a with inter := s.a.inter ++ Utf8.encode b } } := by simp [PS.inter, hlt]
    rw [e1]
    have HN : ¬ 9223372036854775807 < s.a.inter.size + (Utf8.encode b).size := by omega
    clear e1
    go_enter Tryd.func69, Tryd.ntmps69
    go_wp2
    go_end0
    exact ⟨rfl, LeftP.put1 HR.out _ 8 _ rfl rfl rfl rfl⟩
  · have e1 : s.inter b = s := by simp [PS.inter, hlt]
    rw [e1]
    clear e1
    go_enter Tryd.func69, Tryd.ntmps69
    go_wp2
    go_end0
    exact ⟨rfl, LeftP.refl ⟨m, HR.out⟩⟩

set_option maxHeartbeats 400000 in
set_option maxRecDepth 100000 in
theorem text_any [Inhabited AvoidSet] (g : Nat) (b : Int) (s : PS) (F : Nat → Prop) (w : World) (h : RepP w F g s) (_hb : 0 ≤ b ∧ b ≤ 255) :
    Calls Tryd.prog 68 #[.pointer (some ⟨g, 0, none⟩), .int .u8 b] w (PostP w F g (s.text b)) := by
  obtain ⟨m, h⟩ := h
  have c9 : w.cell? ⟨g, 9, none⟩ = some (.string s.a.text) := h.blk.cell 9
  have f9 : w.frozen? ⟨g, 9, none⟩ = false := h.blk.frozen 9
  have lt := h.blk.lt
  have HR := Lib.hid h
  clear h
  by_cases hlt : s.a.text.size < 1024
  · have e1 : s.text b = { s with a := { s.a with text := s.a.text ++ strOfNums [b] } } := by simp [PS.text, hlt]
    rw [e1]
    clear e1
    have hcv : (convert 22 9 (.slice (some ⟨w.heap.size, 0, none⟩) 1 1)).run Tryd.prog ((w.alloc (.cells #[.int .u8 b] 5)).drew) = .ok (.string (strOfNums [b])) ((w.alloc (.cells #[.int .u8 b] 5)).drew) :=
      run_convert_bytes_arg _ 22 5 Tryd.underlying22 Tryd.underlying5 w.heap.size 0 1 1 [b] rfl (fun i hi => by
        obtain rfl : i = 0 := by omega
        rw [World.cell?_drew, World.cell?_alloc_new]; rfl) _ Tryd.underlying9
    have hz : (strOfNums [b]).size = 1 := strOfNums_size [b]
    have HN : ¬ 9223372036854775807 < s.a.text.size + (strOfNums [b]).size := by omega
    clear hz
    go_enter Tryd.func68, Tryd.ntmps68
    go_wp2
    go_region
    all_goals
      go_end0
      exact ⟨rfl, (LeftP.put1 HR.out { s with a := { s.a with text := s.a.text ++ strOfNums [b] } } 9 _ rfl rfl rfl rfl).new ((Fr.refl NoB _).alloc _).drew⟩
  · have e1 : s.text b = s := by simp [PS.text, hlt]
    rw [e1]
    clear e1
    go_enter Tryd.func68, Tryd.ntmps68
    go_wp2
    go_end0
    exact ⟨rfl, LeftP.refl ⟨m, HR.out⟩⟩

/-! ### tell -/
/-- 'step_append_box', the new block's number being spelt otherwise -/
theorem step_append_box' {P : Program} (W : World) (N : Nat) (hN : W.heap.size = N) {ops : Array Oper} {o : Oper} {a : Act} {K : Act → World → Prop} {Q : Exit → Act → World → Prop} {E : Prop} (hgd : o.guard = none) (s x : Operand) (t : TypeId)
    (ho : o.op = .call { callee := .builtin .append, args := #[s, x], argTypes := #[t, t] })
    (e : TypeId) (z : Value) (size bytes : Nat) (ht : P.underlying t = some (.slice e)) (hinfo : (P.info? e).map (fun i => (i.zero, i.size, i.bytes)) = some (some z, size, bytes))
    (hzs : z.cells.size = size) (hsz : 0 < size)
    {F : Nat → Prop} {A : Option Addr} {n c : Nat} {xs : List Value} {cs : Array Value} (hs : a.eval s = .slice A n c) (hx : a.eval x = .slice (some ⟨N, 0, none⟩) 1 1)
    (h : Sl W F e size A n c xs) (hcs : cs.size = size) (h1 : ∀ u ∈ cs.toList, u.oneCell' = true)
    (hbytes : (n + 1) * bytes ≤ 140737488355328) (hb0 : 0 < bytes)
    (hk : ∀ A' c' w', Fr (Own A) W w' → Sl w' (Own A') e size A' (n + 1) c' (xs ++ cs.toList) → (A' = A ∨ ∃ g, A' = some ⟨g, 0, none⟩ ∧ W.heap.size ≤ g) → K (a.put o.dst (.slice A' (n + 1) c')) w') :
    if Region.wanted o (yielded ops a.tmps) = true then Oper.wp P o a ((W.alloc (.cells cs e)).drew) K Q else E := by
  subst hN
  exact step_append_box W hgd s x t ho e z size bytes ht hinfo hzs hsz hs hx h hcs h1 hbytes hb0 hk

def PS.tellK (s : PS) (k : Int) : PS := s.tells { s.a with kind := k }

set_option maxHeartbeats 800000 in
set_option maxRecDepth 100000 in
theorem tell_any [Inhabited AvoidSet] (g : Nat) (k : Int) (s : PS) (F : Nat → Prop) (w : World) (h : RepP w F g s) (hn : s.out.length ≤ 67108864) (hp : s.a.params.length ≤ 64) :
    Calls Tryd.prog 49 #[.pointer (some ⟨g, 0, none⟩), .int .i64 k] w (PostP w F g (s.tellK k)) := by
  obtain ⟨m, h⟩ := h
  have c3 : w.cell? ⟨g, 3, none⟩ = some (.int .i64 s.a.kind) := h.blk.cell 3
  have c4 : w.cell? ⟨g, 4, none⟩ = some (.int .i32 s.a.rune) := h.blk.cell 4
  have c5 : w.cell? ⟨g, 5, none⟩ = some (.int .u8 s.a.fin) := h.blk.cell 5
  have c6 : w.cell? ⟨g, 6, none⟩ = some (.int .u8 s.a.priv) := h.blk.cell 6
  have c7 : w.cell? ⟨g, 7, none⟩ = some (.slice m.pA m.pn m.pc) := h.blk.cell 7
  have c8 : w.cell? ⟨g, 8, none⟩ = some (.string s.a.inter) := h.blk.cell 8
  have c9 : w.cell? ⟨g, 9, none⟩ = some (.string s.a.text) := h.blk.cell 9
  have lt := h.blk.lt
  have hpn : s.a.params.length = m.pn := by have := h.par.1; rw [ints_length] at this; omega
  have HPN := Lib.hid hpn
  have hpn' : m.pn ≤ 64 := by omega
  have HR := Lib.hid h
  clear h hpn
  go_enter Tryd.func49, Tryd.ntmps49
  have hf0 := (Fr.refl NoB w).alloc (.cells #[.int .i64 k, .int .i32 s.a.rune, .int .u8 s.a.fin, .int .u8 s.a.priv, .slice m.pA m.pn m.pc, .string s.a.inter, .string s.a.text] 35)
  have HF0 := Lib.hid hf0
  clear hf0
  have HB0 := Lib.hid (Blk.new w 35 #[.int .i64 k, .int .i32 s.a.rune, .int .u8 s.a.fin, .int .u8 s.a.priv, .slice m.pA m.pn m.pc, .string s.a.inter, .string s.a.text])
  have CT := Lib.hid (clone_any m.pA m.pn m.pc s.a.params F _ (HR.out.fr HF0.out fun _ _ => noB_no).par (by omega))
  go_wp2_with
    (go_at_call 66
     refine CT.out.mono ?_
     rintro e w1 ⟨A1, c1, rfl, hs1, hf1⟩
     have hb := HB0.out.fr hf1 noB_no
     have b0 : w1.cell? ⟨w.heap.size, 0, none⟩ = some (.int .i64 k) := hb.cell 0
     have b1 : w1.cell? ⟨w.heap.size, 1, none⟩ = some (.int .i32 s.a.rune) := hb.cell 1
     have b2 : w1.cell? ⟨w.heap.size, 2, none⟩ = some (.int .u8 s.a.fin) := hb.cell 2
     have b3 : w1.cell? ⟨w.heap.size, 3, none⟩ = some (.int .u8 s.a.priv) := hb.cell 3
     have b4 : w1.cell? ⟨w.heap.size, 4, none⟩ = some (.slice m.pA m.pn m.pc) := hb.cell 4
     have b5 : w1.cell? ⟨w.heap.size, 5, none⟩ = some (.string s.a.inter) := hb.cell 5
     have b6 : w1.cell? ⟨w.heap.size, 6, none⟩ = some (.string s.a.text) := hb.cell 6
     have bf : w1.frozen? ⟨w.heap.size, 4, none⟩ = false := hb.frozen 4
     have hr1 := (HR.out.fr HF0.out fun _ _ => noB_no).fr hf1 fun _ _ => noB_no
     have d11 : w1.cell? ⟨g, 11, none⟩ = some (.slice m.oA s.out.length m.oc) := hr1.blk.cell 11
     have e11 : w1.frozen? ⟨g, 11, none⟩ = false := hr1.blk.frozen 11
     have hgw : g ≠ w.heap.size := by omega
     have HR1 := Lib.hid hr1
     have HS1 := Lib.hid hs1
     have HF1 := Lib.hid hf1
     clear hb hr1 hs1 hf1)
  have lt1 : w.heap.size < w1.heap.size := by have := HF1.out.size; simp at this; omega
  have lt2 : g < w1.heap.size := by omega
  have hf2 : Fr NoB w (w1.setCell ⟨w.heap.size, 4, none⟩ (.slice A1 m.pn c1)) := (HF0.out.trans HF1.out fun _ _ h => h).setCell (p := ⟨w.heap.size, 4, none⟩) (fun h => absurd h (Nat.lt_irrefl _)) _
  have HF2 := Lib.hid hf2
  have HR2 := Lib.hid (HR.out.fr hf2 fun _ _ => noB_no)
  obtain ⟨_, cs, hos, hoa⟩ := HR2.out.out
  have HOS2 := Lib.hid hos
  have HOA2 := Lib.hid hoa
  have HP := Lib.hid (show ActC (w1.setCell ⟨w.heap.size, 4, none⟩ (.slice A1 m.pn c1)) (fun k => w.heap.size < k) { s.a with kind := k } [.int .i64 k, .int .i32 s.a.rune, .int .u8 s.a.fin, .int .u8 s.a.priv, .slice A1 m.pn c1, .string s.a.inter, .string s.a.text] from by
    have h1 : Sl w1 (fun k => w.heap.size < k) 3 1 A1 m.pn c1 (ints s.a.params) := HS1.out.mono fun k hk => by
      unfold NewB at hk
      simp at hk
      omega
    exact ⟨A1, m.pn, c1, rfl, (h1.far (p := ⟨w.heap.size, 4, none⟩) (Nat.lt_irrefl _) _).rd, h1.le.1⟩)
  clear hf2 hos hoa
  go_region_law
    (refine step_append_box' (w1.setCell ⟨w.heap.size, 4, none⟩ (.slice A1 m.pn c1)) w1.heap.size (World.size_setCell _ _ _) rfl (.tmp 19) (.tmp 21) _ rfl 35 _ 7 72 Tryd.underlying25 act_info rfl (by omega) rfl rfl HOS2.out rfl ?c1 (by omega) (by omega) ?_
     case c1 => simp [Value.oneCell']
     intro A' c' w3 hf3 hs3 hA3
     have hb3 := HR2.out.blk.carry hf3 (Free.own HOS2.out (by decide))
     have d12 : w3.cell? ⟨g, 11, none⟩ = some (.slice m.oA s.out.length m.oc) := hb3.cell 11
     have e12 : w3.frozen? ⟨g, 11, none⟩ = false := hb3.frozen 11
     have HF3 := Lib.hid hf3
     have HS3 := Lib.hid hs3
     have HA3 := Lib.hid hA3
     clear hf3 hs3 hA3 hb3)
  all_goals
    go_end0
    refine ⟨rfl, LeftP.trans (F1 := F) (HF2.out.mono fun _ _ h => h.elim) (fun _ h _ => h) ?_⟩
    exact HR2.out.told HOS2.out HOA2.out HF3.out HS3.out HA3.out { s.a with kind := k } HP.out fun j _ hj => ⟨fun hF => by have := HR.out.dom j hF; omega, fun hF => by have := HR.out.avd j hF; omega⟩
end Go.Proofs.YtopaeikddlpecaaDoor
