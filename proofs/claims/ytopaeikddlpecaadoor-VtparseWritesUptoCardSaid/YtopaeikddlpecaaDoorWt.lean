/-
  Walk: lanyardref05.Write gives an action's bytes, or says that it has none. Conditions: the table of powers; texts of at most 1048576 bytes, at most 1048576 parameters.
  Walk: lanyardref05.Write gives an action's bytes, or says that it has none. Conditions: the table of powers; texts of at most 1048576 bytes, at most 1048576 parameters.
-/
import Derived.Test.YtopaeikddlpecaaDoorWg
import Derived.Test.YtopaeikddlpecaaDoorRl
import Derived.Test.YtopaeikddlpecaaDoorRow4
import Derived.Test.YtopaeikddlpecaaDoorActs
import Derived.Test.YtopaeikddlpecaaDoorEqr
import Derived.Deep.RegionHeld3
import Derived.Deep.DeepCutAuto
import Derived.Deep.CutBlock
namespace Go.Proofs.YtopaeikddlpecaaDoor
open Go.RowKit

/-- the bytes that are laid so far -/
def BytsAt (w : World) (l : List Int) (v : Value) (wx : World) : Prop := ∃ A n c, v = .slice A n c ∧ By wx 5 A n c (byts l) ∧ Fr NoB w wx ∧ ∀ k, Own A k → w.heap.size ≤ k
/-- what a Write answers -/
def Wrote (w : World) (l : List Int) (ok : Bool) (e : Ending) (w' : World) : Prop :=
  Fr NoB w w' ∧ ((ok = true ∧ ∃ A n c, e = .returned (.tuple #[.slice A n c, .int .i64 0]) ∧ By w' 5 A n c (byts l)) ∨ (ok = false ∧ e = .returned (.tuple #[.slice none 0 0, .int .i64 1])))

theorem nums8_byts (l : List UInt8) : ∀ x ∈ nums8 l, 0 ≤ x ∧ x ≤ 255 := by
  intro x hx
  simp only [nums8, List.mem_map] at hx
  obtain ⟨b, _, rfl⟩ := hx
  have := b.toNat_lt
  omega
theorem byts_of_mem {l : List Int} (h : ∀ x ∈ l, 0 ≤ x ∧ x ≤ 255) : Byts l := by
  intro k
  rw [List.getD_eq_getElem?_getD]
  by_cases hk : k < l.length
  · rw [List.getElem?_eq_getElem hk]
    exact h _ (List.getElem_mem hk)
  · rw [List.getElem?_eq_none (by omega)]
    simp
theorem u8_wf {x : Int} (h : (Lit.int .u8 x).wf = true) : 0 ≤ x ∧ x ≤ 255 := by
  have h1 := bounds_u8 h
  omega
theorem writeL_byts (p : PAct) (h : ActWF p) : Byts (writeL p) := by
  refine byts_of_mem fun x hx => ?_
  have hf := u8_wf h.fin
  have hp := u8_wf h.priv
  unfold writeL at hx
  split at hx
  · exact nums8_byts _ x hx
  · split at hx
    · simp at hx; omega
    · split at hx
      · simp only [List.cons_append, List.mem_cons, List.mem_append, List.not_mem_nil, or_false] at hx
        rcases hx with hx | hx | hx
        · omega
        · exact nums8_byts _ x hx
        · omega
      · split at hx
        · simp only [List.cons_append, List.nil_append, List.append_assoc, List.mem_cons, List.mem_append, List.not_mem_nil, or_false] at hx
          rcases hx with hx | hx | hx | hx | hx | hx
          · omega
          · omega
          · split at hx
            · simp at hx
            · simp at hx; omega
          · exact nums8_byts _ x hx
          · exact nums8_byts _ x hx
          · omega
        · split at hx
          · simp only [List.cons_append, List.mem_cons, List.mem_append, List.not_mem_nil, or_false] at hx
            rcases hx with hx | hx | hx | hx
            · omega
            · omega
            · exact nums8_byts _ x hx
            · omega
          · simp at hx
theorem writeL_len (p : PAct) (hs : p.inter.size + p.text.size ≤ 1048576) (hn : p.params.length ≤ 1048576) (hz : ∀ z ∈ p.params, -9223372036854775808 ≤ z ∧ z ≤ 9223372036854775807) : (writeL p).length ≤ 33554432 := by
  have hj := joinP_length p.params hz
  have he : (encL p.rune).length ≤ 4 := by
    have := encode_size p.rune
    simpa [encL] using this
  unfold writeL
  split
  · omega
  · split
    · simp
    · split
      · simp only [List.length_cons, List.length_append, List.length_nil, bnum_length]; omega
      · split
        · simp only [List.length_cons, List.length_append, List.length_nil, bnum_length, nums8_length]
          split
          · simp; omega
          · simp; omega
        · split
          · simp only [List.length_cons, List.length_append, List.length_nil, bnum_length]; omega
          · simp
end Go.Proofs.YtopaeikddlpecaaDoor

namespace Go.Proofs.YtopaeikddlpecaaDoor
open Go.RowKit

theorem step_append_by_box {P : Program} (W : World) {ops : Array Oper} {o : Oper} {a : Act} {K : Act → World → Prop} {Q : Exit → Act → World → Prop} {E : Prop} (hgd : o.guard = none) (s x : Operand) (t : TypeId)
    (ho : o.op = .call { callee := .builtin .append, args := #[s, x], argTypes := #[t, t] })
    (e : TypeId) (ht : P.underlying t = some (.slice e)) (hinfo : (P.info? e).map (fun i => (i.zero, i.size, i.bytes)) = some (some (.int .u8 0), 1, 1))
    {A : Option Addr} {n c : Nat} {xs : List Value} {b : Int} (hs : a.eval s = .slice A n c) (hx : a.eval x = .slice (some ⟨W.heap.size, 0, none⟩) 1 1)
    (h : By W e A n c xs) (hb : n + 1 ≤ 140737488355328)
    (hk : ∀ A' c' w', Fr (Own A) W w' → By w' e A' (n + 1) c' (xs ++ byts [b]) → (A' = A ∨ ∃ g, A' = some ⟨g, 0, none⟩ ∧ W.heap.size ≤ g) → K (a.put o.dst (.slice A' (n + 1) c')) w') :
    if Region.wanted o (yielded ops a.tmps) = true then Oper.wp P o a (W.alloc (.cells #[.int .u8 b] e)) K Q else E := by
  obtain ⟨i0, hi, hzz⟩ := Option.map_eq_some_iff.1 hinfo
  simp only [Prod.mk.injEq] at hzz
  obtain ⟨hz0, hz1, hz2⟩ := hzz
  obtain ⟨A', c', w', hrun, h2, h3, h4⟩ := run_append_by (P := P) (W.alloc (.cells #[.int .u8 b] e)) t o.type e i0 ht hi hz0 hz1 hz2 (h.fr ((Fr.refl NoB W).alloc (.cells #[.int .u8 b] e)) fun _ _ => noB_no) (Rd.box W e 1 #[.int .u8 b] rfl) (by simp [Value.oneCell']) hb (c2 := 1)
  have hw : Region.wanted o (yielded ops a.tmps) = true := by simp [Region.wanted, hgd]
  rw [if_pos hw]
  unfold Oper.wp execOp
  simp only [ho, resolve, invoke, builtin, Sem.run_bind, Sem.run_pure, Result.andThen_ok, List.map_toArray, List.map_cons, List.map_nil, hs, hx, hrun]
  refine hk A' c' w' (((Fr.refl (Own A) W).alloc _).trans h2 fun _ _ hg => hg) h3 ?_
  rcases h4 with h4 | h4
  · exact .inl h4
  · exact .inr ⟨_, h4, by simp⟩

theorem step_append_by {P : Program} (w : World) {ops : Array Oper} {o : Oper} {a : Act} {K : Act → World → Prop} {Q : Exit → Act → World → Prop} {E : Prop} (hgd : o.guard = none) (s x : Operand) (t : TypeId)
    (ho : o.op = .call { callee := .builtin .append, args := #[s, x], argTypes := #[t, t] })
    (e : TypeId) (ht : P.underlying t = some (.slice e)) (hinfo : (P.info? e).map (fun i => (i.zero, i.size, i.bytes)) = some (some (.int .u8 0), 1, 1))
    {R : Nat → Prop} {A : Option Addr} {n c : Nat} {xs : List Value} (hs : a.eval s = .slice A n c) {B : Option Addr} {m c2 : Nat} {news : List Value} (hx : a.eval x = .slice B m c2)
    (h : By w e A n c xs) (hr : Rd w R 1 B m news) (h1 : ∀ u ∈ news, u.oneCell' = true) (hb : n + m ≤ 140737488355328)
    (hk : ∀ A' c' w', Fr (Own A) w w' → By w' e A' (n + m) c' (xs ++ news) → (A' = A ∨ A' = some ⟨w.heap.size, 0, none⟩) → K (a.put o.dst (.slice A' (n + m) c')) w') :
    if Region.wanted o (yielded ops a.tmps) = true then Oper.wp P o a w K Q else E := by
  obtain ⟨i0, hi, hzz⟩ := Option.map_eq_some_iff.1 hinfo
  simp only [Prod.mk.injEq] at hzz
  obtain ⟨hz0, hz1, hz2⟩ := hzz
  obtain ⟨A', c', w', hrun, h2, h3, h4⟩ := run_append_by (P := P) w t o.type e i0 ht hi hz0 hz1 hz2 h hr (c2 := c2) h1 hb
  have hw : Region.wanted o (yielded ops a.tmps) = true := by simp [Region.wanted, hgd]
  rw [if_pos hw]
  unfold Oper.wp execOp
  simp only [ho, resolve, invoke, builtin, Sem.run_bind, Sem.run_pure, Result.andThen_ok, List.map_toArray, List.map_cons, List.map_nil, hs, hx, hrun]
  exact hk A' c' w' h2 h3 h4
theorem keep7 {W W' : World} (hf : Fr NoB W W') {a0 a1 a2 a3 a4 a5 a6 : Addr} {v0 v1 v2 v3 v4 v5 v6 : Value}
    (h : W.cell? a0 = some v0 ∧ W.cell? a1 = some v1 ∧ W.cell? a2 = some v2 ∧ W.cell? a3 = some v3 ∧ W.cell? a4 = some v4 ∧ W.cell? a5 = some v5 ∧ W.cell? a6 = some v6) :
    W'.cell? a0 = some v0 ∧ W'.cell? a1 = some v1 ∧ W'.cell? a2 = some v2 ∧ W'.cell? a3 = some v3 ∧ W'.cell? a4 = some v4 ∧ W'.cell? a5 = some v5 ∧ W'.cell? a6 = some v6 :=
  ⟨hf.cell_some h.1 noB_no, hf.cell_some h.2.1 noB_no, hf.cell_some h.2.2.1 noB_no, hf.cell_some h.2.2.2.1 noB_no, hf.cell_some h.2.2.2.2.1 noB_no, hf.cell_some h.2.2.2.2.2.1 noB_no, hf.cell_some h.2.2.2.2.2.2 noB_no⟩
/-- a list of one action, just built -/
theorem acts_one (w1 : World) (p : PAct) (A : Option Addr) (n c : Nat) {R : Nat → Prop} (hr : Rd (w1.alloc (.cells #[.int .i64 p.kind, .int .i32 p.rune, .int .u8 p.fin, .int .u8 p.priv, .slice A n c, .string p.inter, .string p.text] 35)) R 1 A n (ints p.params)) (hnc : n ≤ c) :
    ActsIn (w1.alloc (.cells #[.int .i64 p.kind, .int .i32 p.rune, .int .u8 p.fin, .int .u8 p.priv, .slice A n c, .string p.inter, .string p.text] 35)) (fun k => R k ∨ k = w1.heap.size) (some ⟨w1.heap.size, 0, none⟩) 1 [p] := by
  refine ⟨rfl, _, (Rd.box w1 35 7 #[.int .i64 p.kind, .int .i32 p.rune, .int .u8 p.fin, .int .u8 p.priv, .slice A n c, .string p.inter, .string p.text] rfl).mono fun k _ hk => .inr hk, RepActs.one ⟨A, n, c, rfl, hr.mono fun k _ hk => .inl hk, hnc⟩⟩

def joinK (l : List Int) (k : Nat) : List UInt8 := joinP (l.take k)
theorem joinK_zero (l : List Int) : joinK l 0 = [] := by simp [joinK, joinP_nil]
theorem joinK_one (l : List Int) {k : Nat} (h : k < l.length) (h0 : k = 0) : joinK l (k + 1) = joinK l k ++ parD (l.getD k 0) := by
  subst h0
  unfold joinK
  rw [take_succ' h]
  simp [joinP_one, joinP_nil]
theorem joinK_succ (l : List Int) {k : Nat} (h : k < l.length) (h0 : k ≠ 0) : joinK l (k + 1) = joinK l k ++ 59 :: parD (l.getD k 0) := by
  unfold joinK
  rw [take_succ' h, joinP_snoc]
  intro e
  have := congrArg List.length e
  rw [List.length_take, List.length_nil] at this
  omega
def preW (p : PAct) : List Int := [27, 91] ++ (if p.priv = 0 then [] else [p.priv])
theorem nums8_cons (b : UInt8) (l : List UInt8) : nums8 (b :: l) = (b.toNat : Int) :: nums8 l := rfl
theorem nums8_nil : nums8 [] = [] := rfl
theorem strCells_mk (l : List UInt8) : Lib.strCells ⟨l.toArray⟩ = byts (nums8 l) := by rw [strCells_byts]; rfl

set_option maxHeartbeats 6400000 in
set_option maxRecDepth 100000 in
theorem rwrite_any (p : PAct) (A : Option Addr) (n c : Nat) (w : World) (hs : p.inter.size + p.text.size ≤ 1048576) (hP : Pow w) (hr : Rd w (fun k => k < w.heap.size) 1 A n (ints p.params)) (hn : n ≤ 1048576) (hnc : n ≤ c)
    (hwf : ActWF p) (hz : ∀ z ∈ p.params, -9223372036854775808 ≤ z ∧ z ≤ 9223372036854775807) :
    Calls Tryd.prog 27 #[.agg #[.int .i64 p.kind, .int .i32 p.rune, .int .u8 p.fin, .int .u8 p.priv, .slice A n c, .string p.inter, .string p.text]] w (Wrote w (writeL p) (sameL (allR (writeL p)) [p])) := by
  have hln : p.params.length = n := by have := hr.1; rw [ints_length] at this; omega
  have HLEN := Lib.hid (writeL_len p hs (by omega) hz)
  have HBY := Lib.hid (writeL_byts p hwf)
  have HS := Lib.hid hs
  have HP := Lib.hid hP
  have HR := Lib.hid hr
  have HLN := Lib.hid hln
  have HJ := Lib.hid (joinP_length p.params hz)
  have HZ := Lib.hid hz
  clear hs hP hr hln hz hwf
  have HWL := Lib.hid (show writeL p = writeL p from rfl)
  obtain ⟨L, hL⟩ : ∃ L, L = writeL p := ⟨_, rfl⟩
  rw [← hL] at HLEN HBY ⊢
  have HL := Lib.hid hL
  clear hL HWL
  go_enter Tryd.func27, Tryd.ntmps27
  go_upto_region 2 with (fail)
  have hb0 := ActB.new w p (.slice A n c)
  have hf0 := (Fr.refl NoB w).alloc (.cells #[.int .i64 p.kind, .int .i32 p.rune, .int .u8 p.fin, .int .u8 p.priv, .slice A n c, .string p.inter, .string p.text] 35)
  have hz0 : (w.alloc (.cells #[.int .i64 p.kind, .int .i32 p.rune, .int .u8 p.fin, .int .u8 p.priv, .slice A n c, .string p.inter, .string p.text] 35)).heap.size = w.heap.size + 1 := by simp
  generalize w.alloc (.cells #[.int .i64 p.kind, .int .i32 p.rune, .int .u8 p.fin, .int .u8 p.priv, .slice A n c, .string p.inter, .string p.text] 35) = W0 at *
  have HB0 := Lib.hid hb0
  obtain ⟨c0, c1, c2, c3, c4, c5, c6⟩ := hb0
  have HF0 := Lib.hid hf0
  have HZ0 := Lib.hid hz0
  clear hf0 hz0
  go_upto_block 0 with (fail)
  clear c0 c1 c2 c3 c4 c5 c6
  go_cut [4] (fun v wx => BytsAt W0 L v wx)
  case first =>
    rcases (by omega : p.kind = 1 ∨ p.kind = 2 ∨ p.kind = 3 ∨ p.kind = 4 ∨ p.kind = 5 ∨ (p.kind < 1 ∨ 5 < p.kind)) with h | h | h | h | h | h
    · have hwl : writeL p = encL p.rune := by simp [writeL, h]
      have HWL := Lib.hid (HL.out.trans hwl)
      have k1 : (p.kind == 1) = true := by rw [h]; rfl
      have k2 : (p.kind == 2) = false := bne_f (by omega)
      have k3 : (p.kind == 3) = false := bne_f (by omega)
      have k4 : (p.kind == 4) = false := bne_f (by omega)
      have k5 : (p.kind == 5) = false := bne_f (by omega)
      obtain ⟨c0, c1, c2, c3, c4, c5, c6⟩ := HB0.out
      have CF := Lib.hid (form_any p.rune W0)
      have HK := Lib.hid h
      clear h hwl
      go_wp2_with
        (go_at_call 42
         refine CF.out.mono ?_
         rintro e w1 ⟨A1, n1, c1', rfl, hby1, hf1, hown1⟩
         have HBY1 := Lib.hid hby1
         have HF1 := Lib.hid hf1
         have HO1 := Lib.hid hown1
         clear hby1 hf1 hown1)
      go_meet
      exact ⟨_, _, _, rfl, by rw [HWL.out]; exact HBY1.out, HF1.out, HO1.out⟩
    · have hwl : writeL p = [p.fin] := by simp [writeL, h]
      have HWL := Lib.hid (HL.out.trans hwl)
      have k1 : (p.kind == 1) = false := bne_f (by omega)
      have k2 : (p.kind == 2) = true := by rw [h]; rfl
      have k3 : (p.kind == 3) = false := bne_f (by omega)
      have k4 : (p.kind == 4) = false := bne_f (by omega)
      have k5 : (p.kind == 5) = false := bne_f (by omega)
      obtain ⟨c0, c1, c2, c3, c4, c5, c6⟩ := HB0.out
      have HK := Lib.hid h
      clear h hwl
      go_wp2
      go_meet
      refine ⟨_, _, _, rfl, by rw [HWL.out]; exact By.new W0 5 #[.int .u8 p.fin] 1 1 (by omega) (by simp [maxLen]) rfl, (Fr.refl NoB W0).alloc _, fun k hk => ?_⟩
      have hk2 : W0.heap.size = k := by injection hk
      omega
    · have hwl : writeL p = 27 :: bnum p.inter ++ [p.fin] := by simp [writeL, h]
      have HWL := Lib.hid (HL.out.trans hwl)
      have k1 : (p.kind == 1) = false := bne_f (by omega)
      have k2 : (p.kind == 2) = false := bne_f (by omega)
      have k3 : (p.kind == 3) = true := by rw [h]; rfl
      have k4 : (p.kind == 4) = false := bne_f (by omega)
      have k5 : (p.kind == 5) = false := bne_f (by omega)
      obtain ⟨c0, c1, c2, c3, c4, c5, c6⟩ := HB0.out
      have HK := Lib.hid h
      clear h hwl
      have hsm := HS.out
      have l1 : ¬ 9223372036854775807 < 1 + p.inter.size := by omega
      clear hsm
      have hcv := conv_bytes W0 ((⟨#[27]⟩ : ByteArray) ++ p.inter)
      have hsz : (((⟨#[27]⟩ : ByteArray) ++ p.inter)).size ≤ 1048600 := (by
        have := HS.out
        have e1 : (⟨#[27]⟩ : ByteArray).size = 1 := rfl
        simp only [ByteArray.size_append]
        omega)
      have hby := by_bytesWorld W0 5 ((⟨#[27]⟩ : ByteArray) ++ p.inter) (by omega)
      have HF1 := Lib.hid (fr_bytesWorld W0 5 ((⟨#[27]⟩ : ByteArray) ++ p.inter))
      have hsn : (((⟨#[27]⟩ : ByteArray) ++ p.inter)).size = 1 + p.inter.size := by
        simp only [ByteArray.size_append]
        rfl
      have hsn2 := hsn
      have d2 := (fr_bytesWorld W0 5 ((⟨#[27]⟩ : ByteArray) ++ p.inter)).cell_some c2 noB_no
      generalize Lib.bytesWorld W0 5 ((⟨#[27]⟩ : ByteArray) ++ p.inter) = W5 at *
      generalize grownCap W0 (((⟨#[27]⟩ : ByteArray) ++ p.inter)).size 0 5 = cap5 at *
      rw [hsn2] at hby hcv
      have HBY := Lib.hid hby
      clear hsz hsn hsn2 hby
      go_wp2_with
        (at_builtin
         refine wpList_append_by_box W5 rfl (.tmp 23) (.tmp 26) _ rfl 5 Tryd.underlying22 byte_info rfl rfl HBY.out (by have := HS.out; omega) ?_
         intro A4 c4 w1 hf1 hs1 hA1
         have HF2 := Lib.hid hf1
         have HS1 := Lib.hid hs1
         have HA1 := Lib.hid hA1
         clear hf1 hs1 hA1)
      go_meet
      refine ⟨_, _, _, rfl, ?_, HF1.out.trans HF2.out fun k hk ho => ?_, fun k hk => ?_⟩
      · rw [HWL.out]
        have := HS1.out
        rw [← byts_append] at this
        have e : ((⟨#[27]⟩ : ByteArray) ++ p.inter).data.toList.map (fun b => (b.toNat : Int)) = 27 :: bnum p.inter := by simp [bnum, nums8]
        rw [e] at this
        exact this
      · have hk2 : W0.heap.size = k := by injection ho
        omega
      · have := HF1.out.size
        rcases HA1.out with h | ⟨g, h, hg⟩
        · rw [h] at hk
          have hk2 : W0.heap.size = k := by injection hk
          omega
        · rw [h] at hk
          have hk2 : g = k := by injection hk
          omega
    · have hwl : writeL p = [27, 91] ++ (if p.priv = 0 then [] else [p.priv]) ++ nums8 (joinP p.params) ++ bnum p.inter ++ [p.fin] := by simp [writeL, h]
      have HWL := Lib.hid (HL.out.trans hwl)
      have k1 : (p.kind == 1) = false := bne_f (by omega)
      have k2 : (p.kind == 2) = false := bne_f (by omega)
      have k3 : (p.kind == 3) = false := bne_f (by omega)
      have k4 : (p.kind == 4) = true := by rw [h]; rfl
      have k5 : (p.kind == 5) = false := bne_f (by omega)
      obtain ⟨c0, c1, c2, c3, c4, c5, c6⟩ := HB0.out
      have HK := Lib.hid h
      clear h hwl
      have hcs := Lib.run_convert_bytes_const (P := Tryd.prog) W0 22 5 #[.int .u8 27, .int .u8 91] 2 2 Tryd.underlying22 Tryd.underlying5
      simp only [List.size_toArray, List.length_cons, List.length_nil] at hcs
      go_upto_region 11 with (fail)
      clear hcs
      have hb1 := HB0.out.fr ((Fr.refl NoB W0).alloc (.cells #[.int .u8 27, .int .u8 91] 5 (2, 3)))
      have hf1 := (Fr.refl NoB W0).alloc (.cells #[.int .u8 27, .int .u8 91] 5 (2, 3))
      have hby1 : By (W0.alloc (.cells #[.int .u8 27, .int .u8 91] 5 (2, 3))) 5 (some ⟨W0.heap.size, 0, none⟩) 2 2 (byts [27, 91]) := by_mark W0 5 #[.int .u8 27, .int .u8 91] (by simp [maxLen])
      generalize W0.alloc (.cells #[.int .u8 27, .int .u8 91] 5 (2, 3)) = W1 at *
      clear c0 c1 c2 c3 c4 c5 c6
      have HB1 := Lib.hid hb1
      obtain ⟨c0, c1, c2, c3, c4, c5, c6⟩ := hb1
      have HF1 := Lib.hid hf1
      have HY1 := Lib.hid hby1
      clear hf1 hby1
      go_upto_if 34 with (fail)
      go_cut [4] (fun v4 wx => ∃ B m d, v4 = .slice B m d ∧ By wx 5 B m d (byts (preW p)) ∧ Fr NoB W0 wx ∧ m ≤ 3 ∧ ∀ k, Own B k → W0.heap.size ≤ k)
      case first =>
        by_cases hp : p.priv = 0
        · have t1 : (p.priv != 0) = false := by simp [hp]
          have HPV := Lib.hid hp
          clear hp
          go_wp2
          go_meet
          refine ⟨_, _, _, rfl, by unfold preW; rw [if_pos HPV.out]; exact HY1.out, HF1.out, by omega, fun k hk => ?_⟩
          have hk2 : W0.heap.size = k := by injection hk
          omega
        · have t1 : (p.priv != 0) = true := by rw [bne_iff_ne]; exact hp
          have HPV := Lib.hid hp
          clear hp
          go_wp2_with
            (at_builtin
             refine wpList_append_by_box W1 rfl (.tmp 35) (.tmp 38) _ rfl 5 Tryd.underlying22 byte_info rfl rfl HY1.out (by omega) ?_
             intro A4 c4 w1 hf2 hs1 hA1
             have HF2 := Lib.hid hf2
             have HS1 := Lib.hid hs1
             have HA1 := Lib.hid hA1
             clear hf2 hs1 hA1)
          go_meet
          refine ⟨_, _, _, rfl, by unfold preW; rw [if_neg HPV.out, byts_append]; exact HS1.out, HF1.out.trans HF2.out fun k hk ho => ?_, by omega, fun k hk => ?_⟩
          · have hk2 : W0.heap.size = k := by injection ho
            omega
          · have := HF1.out.size
            rcases HA1.out with h | ⟨g, h, hg⟩
            · rw [h] at hk
              have hk2 : W0.heap.size = k := by injection hk
              omega
            · rw [h] at hk
              have hk2 : g = k := by injection hk
              omega
      case rest =>
        obtain ⟨B, m, d, rfl, hby, hfx, hm3, hown⟩ := hcut
        clear c0 c1 c2 c3 c4 c5 c6
        have HFX := Lib.hid hfx
        have HBY0 := Lib.hid hby
        have HOWN := Lib.hid hown
        clear hfx hby hown
        go_wp2
        go_loopw [4, 5] (fun v4 i wr => ∃ k A4 m4 d4, k ≤ n ∧ i = .int .i64 ((k : Nat) : Int) ∧ v4 = .slice A4 m4 d4 ∧ By wr 5 A4 m4 d4 (byts (preW p ++ nums8 (joinK p.params k))) ∧ m4 ≤ 3 + 22 * k ∧ Fr NoB W0 wr ∧ ∀ j, Own A4 j → W0.heap.size ≤ j) (fun _ i _ => n - (intOf i).toNat)
        case atStart => exact ⟨0, B, m, d, by omega, rfl, rfl, by rw [joinK_zero, nums8_nil, List.append_nil]; exact HBY0.out, by omega, HFX.out, HOWN.out⟩
        case round =>
          obtain ⟨k, A4, m4, d4, hk, rfl, rfl, hs4, hm4, hf4, ho4⟩ := hrel
          have HS4 := Lib.hid hs4
          have HF4 := Lib.hid hf4
          have HO4 := Lib.hid ho4
          obtain ⟨c0, c1, c2, c3, c4, c5, c6⟩ := HB0.out.fr hf4
          clear c0 c1 c3 c6
          by_cases hlt : k < n
          · have hlt' : (k : Int) < (n : Int) := by omega
            obtain ⟨ga, oa, u, hA, lta, hu, hcz⟩ := HR.out.at_ hlt
            rw [ints_at (by rw [HLN.out]; exact hlt)] at hu
            injection hu with hu
            subst hu
            subst hA
            have hc0 : W0.cell? ⟨ga, oa + k, none⟩ = _ := HF0.out.cell_some hcz noB_no
            have hc := hf4.cell_some hc0 noB_no
            have hga : ga < W0.heap.size := by have := HZ0.out; omega
            have HGA := Lib.hid hga
            clear hcz hc0 hga
            have HJ1 := Lib.hid fun (h0 : k = 0) => joinK_one p.params (k := k) (by rw [HLN.out]; exact hlt) h0
            have HJS := Lib.hid fun (h0 : k ≠ 0) => joinK_succ p.params (k := k) (by rw [HLN.out]; exact hlt) h0
            have hzm : p.params.getD k 0 ∈ p.params := by
              have hl : k < p.params.length := by rw [HLN.out]; exact hlt
              rw [List.getD_eq_getElem?_getD, List.getElem?_eq_getElem hl]
              exact List.getElem_mem hl
            have hzb := HZ.out _ hzm
            have HPL := Lib.hid (parD_length hzb.1 hzb.2)
            generalize p.params.getD k 0 = z at *
            have HZB := Lib.hid hzb
            clear hs4 hf4 ho4 hzm hzb
            have CI := Lib.hid fun (W : World) (hf : Fr NoB W0 W) => itoa_any z W HZB.out.1 HZB.out.2 ((HP.out.fr HF0.out).fr hf)
            have HWZ := Lib.hid (show w.heap.size < W0.heap.size by have := HZ0.out; omega)
            by_cases hk0 : k = 0
            · have hk0' : (k : Int) ≤ 0 := by omega
              have HK0 := Lib.hid hk0
              clear hk0
              by_cases hz1 : z = -1
              · have t1 : (z != -1) = false := by simp [hz1]
                have HZ1 := Lib.hid hz1
                clear hz1
                go_wp2
                refine ⟨⟨k + 1, A4, m4, d4, by omega, by go_num, rfl, ?_, by omega, HF4.out, HO4.out⟩, by simp [intOf]; omega⟩
                rw [HJ1.out HK0.out, show parD z = [] by rw [parD, if_pos HZ1.out], List.append_nil]
                exact HS4.out
              · have t1 : (z != -1) = true := by rw [bne_iff_ne]; exact hz1
                have HZ1 := Lib.hid (show parD z = Lib.itoa z by rw [parD, if_neg hz1])
                clear hz1
                go_wp2_with (first
                  | (go_at_call 43
                     refine (CI.out wr HF4.out).mono ?_
                     rintro e w1 ⟨rfl, hfi⟩
                     have HSI := Lib.hid (HS4.out.fr hfi fun _ _ => noB_no)
                     have HFI := Lib.hid (HF4.out.trans hfi fun _ _ h => h)
                     clear hfi CI)
                  | (at_builtin
                     refine wpList_append_by_str w1 rfl (.tmp 58) (.tmp 64) _ _ rfl 5 Tryd.underlying22 Tryd.underlying9 byte_info rfl rfl HSI.out ?c1 ?_
                     case c1 => have := HPL.out; rw [HZ1.out] at this; show m4 + (Lib.itoa z).length ≤ _; omega
                     intro A5 d5 w2 hf5 hs5 hA5
                     have HF5 := Lib.hid hf5
                     have HS5 := Lib.hid hs5
                     have HA5 := Lib.hid hA5
                     clear hf5 hs5 hA5))
                have hpl := HPL.out
                rw [HZ1.out] at hpl
                refine ⟨⟨k + 1, A5, m4 + (Lib.itoa z).length, d5, by omega, by go_num, rfl, ?_, by omega, HFI.out.trans HF5.out fun k hk ho => by have := HO4.out k ho; omega, fun j hj => ?_⟩, by simp [intOf]; omega⟩
                · rw [HJ1.out HK0.out, nums8_append, ← List.append_assoc, byts_append, HZ1.out, ← strCells_mk (Lib.itoa z)]
                  exact HS5.out
                · rcases HA5.out with h | h
                  · rw [h] at hj
                    exact HO4.out j hj
                  · rw [h] at hj
                    have hk2 : w1.heap.size = j := by injection hj
                    have := HFI.out.size
                    omega
            · have hk0' : 0 < (k : Int) := by omega
              have HK0 := Lib.hid hk0
              clear hk0
              have HN4 := Lib.hid fun (ho : Own A4 w.heap.size) => show False by have h1 := HO4.out _ ho; have h2 := HWZ.out; omega
              have HNC := Lib.hid fun (ho : Own A4 ga) => show False by have h1 := HO4.out _ ho; have h2 := HGA.out; omega
              by_cases hz1 : z = -1
              · have t1 : (z != -1) = false := by simp [hz1]
                have HZ1 := Lib.hid hz1
                clear hz1
                go_wp2_with
                  (at_builtin
                   refine wpList_append_by_box wr rfl (.tmp 49) (.tmp 50) _ rfl 5 Tryd.underlying22 byte_info rfl rfl HS4.out (by omega) ?_
                   intro A5 d5 w1 hf5 hs5 hA5
                   have r4 := hf5.cell_some c4 HN4.out
                   have rc := hf5.cell_some hc HNC.out
                   have HF5 := Lib.hid hf5
                   have HS5 := Lib.hid hs5
                   have HA5 := Lib.hid hA5
                   clear hf5 hs5 hA5)
                have hsz := HF4.out.size
                refine ⟨⟨k + 1, A5, m4 + 1, d5, by omega, by go_num, rfl, ?_, by omega, HF4.out.trans HF5.out fun k hk ho => by have := HO4.out k ho; omega, fun j hj => ?_⟩, by simp [intOf]; omega⟩
                · rw [HJS.out HK0.out, show parD z = [] by rw [parD, if_pos HZ1.out], nums8_append, ← List.append_assoc, byts_append]
                  exact HS5.out
                · rcases HA5.out with h | ⟨g, h, hg⟩
                  · rw [h] at hj
                    exact HO4.out j hj
                  · rw [h] at hj
                    have hk2 : g = j := by injection hj
                    omega
              · have t1 : (z != -1) = true := by rw [bne_iff_ne]; exact hz1
                have HZ1 := Lib.hid (show parD z = Lib.itoa z by rw [parD, if_neg hz1])
                clear hz1
                go_wp2_with (first
                  | (at_builtin
                     refine wpList_append_by_box wr rfl (.tmp 49) (.tmp 50) _ rfl 5 Tryd.underlying22 byte_info rfl rfl HS4.out (by omega) ?_
                     intro A5 d5 w1 hf5 hs5 hA5
                     have r4 := hf5.cell_some c4 HN4.out
                     have rc := hf5.cell_some hc HNC.out
                     have HF5 := Lib.hid (HF4.out.trans hf5 fun k hk ho => by have := HO4.out k ho; omega)
                     have HS5 := Lib.hid hs5
                     have HO5 := Lib.hid (show ∀ j, Own A5 j → W0.heap.size ≤ j from fun j hj => by
                       have := HF4.out.size
                       rcases hA5 with h | ⟨g, h, hg⟩
                       · rw [h] at hj
                         exact HO4.out j hj
                       · rw [h] at hj
                         have hk2 : g = j := by injection hj
                         omega)
                     clear hf5 hs5 hA5)
                  | (go_at_call 43
                     refine (CI.out w1 HF5.out).mono ?_
                     rintro e w2 ⟨rfl, hfi⟩
                     have HSI := Lib.hid (HS5.out.fr hfi fun _ _ => noB_no)
                     have HFI := Lib.hid (HF5.out.trans hfi fun _ _ h => h)
                     clear hfi CI)
                  | (at_builtin
                     refine wpList_append_by_str w2 rfl (.tmp 58) (.tmp 64) _ _ rfl 5 Tryd.underlying22 Tryd.underlying9 byte_info rfl rfl HSI.out ?c2 ?_
                     case c2 => have := HPL.out; rw [HZ1.out] at this; show m4 + 1 + (Lib.itoa z).length ≤ _; omega
                     intro A6 d6 w3 hf6 hs6 hA6
                     have HF6 := Lib.hid hf6
                     have HS6 := Lib.hid hs6
                     have HA6 := Lib.hid hA6
                     clear hf6 hs6 hA6))
                have hpl := HPL.out
                rw [HZ1.out] at hpl
                refine ⟨⟨k + 1, A6, m4 + 1 + (Lib.itoa z).length, d6, by omega, by go_num, rfl, ?_, by omega, HFI.out.trans HF6.out fun k hk ho => by have := HO5.out k ho; omega, fun j hj => ?_⟩, by simp [intOf]; omega⟩
                · rw [HJS.out HK0.out, nums8_append, nums8_cons, show (((59 : UInt8)).toNat : Int) = 59 from rfl, ← List.append_assoc, ← List.singleton_append, ← List.append_assoc, byts_append, byts_append, HZ1.out, ← strCells_mk (Lib.itoa z)]
                  exact HS6.out
                · rcases HA6.out with h | h
                  · rw [h] at hj
                    exact HO5.out j hj
                  · rw [h] at hj
                    have hk2 : w2.heap.size = j := by injection hj
                    have := HFI.out.size
                    omega
          · have hlt' : (n : Int) ≤ (k : Int) := by omega
            have e : joinK p.params k = joinP p.params := by unfold joinK; rw [List.take_of_length_le (by rw [HLN.out]; omega)]
            rw [e] at hs4
            clear HS4
            have HS4 := Lib.hid hs4
            have HBD := Lib.hid (show m4 + p.inter.size + 1 ≤ 140737488355328 by have := HS.out; omega)
            have q5 := c5
            have q2 := c2
            have HN4 := Lib.hid fun (ho : Own A4 w.heap.size) => show False by have h1 := HO4.out _ ho; have := HZ0.out; omega
            clear hs4 hf4 ho4 e
            have hfb := (((Fr.refl NoB wr).alloc (.cells #[.int .u8 p.fin] 5)).drew)
            have HQB := Lib.hid (show (wr.alloc (.cells #[.int .u8 p.fin] 5)).drew.cell? ⟨w.heap.size, 5, none⟩ = some (.string p.inter) ∧ (wr.alloc (.cells #[.int .u8 p.fin] 5)).drew.cell? ⟨w.heap.size, 2, none⟩ = some (.int .u8 p.fin) from ⟨hfb.cell_some q5 noB_no, hfb.cell_some q2 noB_no⟩)
            have HRB := Lib.hid ((Rd.box wr 5 1 #[.int .u8 p.fin] rfl).drew)
            have HNR := Lib.hid (show ¬ Own A4 wr.heap.size from fun ho => by have := HS4.out.inB ho; omega)
            have HFB := Lib.hid hfb
            clear hfb
            go_upto_region 20 with (fail)
            go_region_held3 (fun W => W.cell? ⟨w.heap.size, 5, none⟩ = some (.string p.inter) ∧ W.cell? ⟨w.heap.size, 2, none⟩ = some (.int .u8 p.fin))
              (first | exact ⟨q5, q2⟩ | exact HQ2.out | exact HQ3.out | exact HQ4.out | exact HQB.out | fail)
              (first
                | (refine step_append_by_str _ rfl (.tmp 66) (.tmp 68) _ _ rfl 5 Tryd.underlying22 Tryd.underlying9 byte_info rfl rfl (HS4.out.fr (G := NoB) ?fj fun _ _ => noB_no) ?hb ?_
                   case fj => exact (Fr.refl NoB wr).drew
                   case hb => have := HBD.out; omega
                   intro A6 d6 w2 hf6 hs6 hA6
                   have HQ2 := Lib.hid (show w2.cell? ⟨w.heap.size, 5, none⟩ = some (.string p.inter) ∧ w2.cell? ⟨w.heap.size, 2, none⟩ = some (.int .u8 p.fin) from ⟨hf6.cell_some q5 HN4.out, hf6.cell_some q2 HN4.out⟩)
                   have hf7 := (Fr.refl NoB w2).alloc (.cells #[.int .u8 p.fin] 5)
                   have HQ3 := Lib.hid (show (w2.alloc (.cells #[.int .u8 p.fin] 5)).cell? ⟨w.heap.size, 5, none⟩ = some (.string p.inter) ∧ (w2.alloc (.cells #[.int .u8 p.fin] 5)).cell? ⟨w.heap.size, 2, none⟩ = some (.int .u8 p.fin) from ⟨hf7.cell_some HQ2.out.1 noB_no, hf7.cell_some HQ2.out.2 noB_no⟩)
                   have HF6 := Lib.hid hf6
                   have HS6 := Lib.hid hs6
                   have HA6 := Lib.hid (show A6 = A4 ∨ ∃ g, A6 = some ⟨g, 0, none⟩ ∧ wr.heap.size ≤ g from by
                     rcases hA6 with h | h
                     · exact .inl h
                     · exact .inr ⟨_, h, Nat.le_refl _⟩)
                   have HN6 := Lib.hid (show ¬ Own A6 w.heap.size from fun ho => by
                     rcases HA6.out with h | ⟨g, h, hg⟩
                     · rw [h] at ho
                       exact HN4.out ho
                     · rw [h] at ho
                       have hk2 : g = w.heap.size := by injection ho
                       have := HF4.out.size
                       have := HZ0.out
                       omega)
                   clear hf6 hs6 hA6 hf7)
                | (refine step_append_by_box w2 rfl (.tmp 69) (.tmp 72) _ rfl 5 Tryd.underlying22 byte_info rfl rfl HS6.out HBD.out ?_
                   intro A7 d7 w3 hf7 hs7 hA7
                   have HQ4 := Lib.hid (show w3.cell? ⟨w.heap.size, 5, none⟩ = some (.string p.inter) ∧ w3.cell? ⟨w.heap.size, 2, none⟩ = some (.int .u8 p.fin) from ⟨hf7.cell_some HQ2.out.1 HN6.out, hf7.cell_some HQ2.out.2 HN6.out⟩)
                   have HF7 := Lib.hid hf7
                   have HS7 := Lib.hid hs7
                   have HA7 := Lib.hid hA7
                   have HFW := Lib.hid (show Fr (Own A4) wr w2 from (Fr.refl (Own A4) wr).drew.trans HF6.out fun _ _ h => h)
                   clear hf7 hs7 hA7)
                | (refine step_append_by_str _ rfl (.tmp 66) (.tmp 68) _ _ rfl 5 Tryd.underlying22 Tryd.underlying9 byte_info rfl rfl (HS4.out.fr (G := NoB) HFB.out fun _ _ => noB_no) ?hb2 ?_
                   case hb2 => have := HBD.out; omega
                   intro A6 d6 w2 hf6 hs6 hA6
                   have HQ2 := Lib.hid (show w2.cell? ⟨w.heap.size, 5, none⟩ = some (.string p.inter) ∧ w2.cell? ⟨w.heap.size, 2, none⟩ = some (.int .u8 p.fin) from ⟨hf6.cell_some HQB.out.1 HN4.out, hf6.cell_some HQB.out.2 HN4.out⟩)
                   have HRW := Lib.hid (HRB.out.fr hf6 fun i hi ho => by subst hi; exact HNR.out ho)
                   have HF6 := Lib.hid hf6
                   have HS6 := Lib.hid hs6
                   have HA6 := Lib.hid (show A6 = A4 ∨ ∃ g, A6 = some ⟨g, 0, none⟩ ∧ wr.heap.size ≤ g from by
                     rcases hA6 with h | h
                     · exact .inl h
                     · exact .inr ⟨_, h, HFB.out.size⟩)
                   have HN6 := Lib.hid (show ¬ Own A6 w.heap.size from fun ho => by
                     rcases HA6.out with h | ⟨g, h, hg⟩
                     · rw [h] at ho
                       exact HN4.out ho
                     · rw [h] at ho
                       have hk2 : g = w.heap.size := by injection ho
                       have := HF4.out.size
                       have := HZ0.out
                       omega)
                   clear hf6 hs6 hA6)
                | (refine step_append_by w2 rfl (.tmp 69) (.tmp 72) _ rfl 5 Tryd.underlying22 byte_info rfl rfl HS6.out HRW.out (by simp [Value.oneCell']) HBD.out ?_
                   intro A7 d7 w3 hf7 hs7 hA7
                   have HQ4 := Lib.hid (show w3.cell? ⟨w.heap.size, 5, none⟩ = some (.string p.inter) ∧ w3.cell? ⟨w.heap.size, 2, none⟩ = some (.int .u8 p.fin) from ⟨hf7.cell_some HQ2.out.1 HN6.out, hf7.cell_some HQ2.out.2 HN6.out⟩)
                   have HF7 := Lib.hid hf7
                   have HS7 := Lib.hid hs7
                   have HA7 := Lib.hid (show A7 = A6 ∨ ∃ g, A7 = some ⟨g, 0, none⟩ ∧ w2.heap.size ≤ g from by
                     rcases hA7 with h | h
                     · exact .inl h
                     · exact .inr ⟨_, h, Nat.le_refl _⟩)
                   have HFW := Lib.hid (show Fr (Own A4) wr w2 from (HFB.out.mono fun _ _ h => (noB_no h).elim).trans HF6.out fun _ _ h => h)
                   clear hf7 hs7 hA7))
            all_goals
              go_wp2
              go_meet
              have f6 : Fr NoB W0 w2 := HF4.out.trans HFW.out fun k hk ho => by
                have := HO4.out k ho
                omega
              have own6 : ∀ k, Own A6 k → W0.heap.size ≤ k := fun k hk => by
                rcases HA6.out with h | ⟨g, h, hg⟩
                · rw [h] at hk
                  exact HO4.out k hk
                · rw [h] at hk
                  have hk2 : g = k := by injection hk
                  have := HF4.out.size
                  omega
              refine ⟨_, _, _, rfl, ?_, f6.trans HF7.out fun k hk ho => by have := own6 k ho; omega, fun k hk => ?_⟩
              · have h7 : By w3 5 A7 (m4 + p.inter.size + 1) d7 (byts (preW p ++ nums8 (joinP p.params)) ++ Lib.strCells p.inter ++ byts [p.fin]) := HS7.out
                rw [strCells_byts] at h7
                have e1 : byts (preW p ++ nums8 (joinP p.params)) ++ byts (p.inter.data.toList.map fun b => (b.toNat : Int)) ++ byts [p.fin] = byts L := by
                  rw [← byts_append, ← byts_append, HWL.out]
                  rfl
                rw [e1] at h7
                exact h7
              · rcases HA7.out with h | ⟨g, h, hg⟩
                · rw [h] at hk
                  exact own6 k hk
                · rw [h] at hk
                  have hk2 : g = k := by injection hk
                  have := f6.size
                  omega
    · have hwl : writeL p = 27 :: 93 :: bnum p.text ++ [7] := by simp [writeL, h]
      have HWL := Lib.hid (HL.out.trans hwl)
      have k1 : (p.kind == 1) = false := bne_f (by omega)
      have k2 : (p.kind == 2) = false := bne_f (by omega)
      have k3 : (p.kind == 3) = false := bne_f (by omega)
      have k4 : (p.kind == 4) = false := bne_f (by omega)
      have k5 : (p.kind == 5) = true := by rw [h]; rfl
      obtain ⟨c0, c1, c2, c3, c4, c5, c6⟩ := HB0.out
      have HK := Lib.hid h
      clear h hwl
      have hsm := HS.out
      have l1 : ¬ 9223372036854775807 < 2 + p.text.size := by omega
      clear hsm
      have hcv := conv_bytes W0 ((⟨#[27, 93]⟩ : ByteArray) ++ p.text)
      have hsz : (((⟨#[27, 93]⟩ : ByteArray) ++ p.text)).size ≤ 1048600 := (by
        have := HS.out
        have e1 : (⟨#[27, 93]⟩ : ByteArray).size = 2 := rfl
        simp only [ByteArray.size_append]
        omega)
      have hby := by_bytesWorld W0 5 ((⟨#[27, 93]⟩ : ByteArray) ++ p.text) (by omega)
      have HF1 := Lib.hid (fr_bytesWorld W0 5 ((⟨#[27, 93]⟩ : ByteArray) ++ p.text))
      have hsn : (((⟨#[27, 93]⟩ : ByteArray) ++ p.text)).size = 2 + p.text.size := by
        simp only [ByteArray.size_append]
        rfl
      have hsn2 := hsn
      generalize Lib.bytesWorld W0 5 ((⟨#[27, 93]⟩ : ByteArray) ++ p.text) = W5 at *
      generalize grownCap W0 (((⟨#[27, 93]⟩ : ByteArray) ++ p.text)).size 0 5 = cap5 at *
      rw [hsn2] at hby hcv
      have HBY := Lib.hid hby
      clear hsz hsn hsn2 hby
      go_wp2_with
        (at_builtin
         refine wpList_append_by_box W5 rfl (.tmp 79) (.tmp 80) _ rfl 5 Tryd.underlying22 byte_info rfl rfl HBY.out (by have := HS.out; omega) ?_
         intro A4 c4 w1 hf1 hs1 hA1
         have HF2 := Lib.hid hf1
         have HS1 := Lib.hid hs1
         have HA1 := Lib.hid hA1
         clear hf1 hs1 hA1)
      go_meet
      refine ⟨_, _, _, rfl, ?_, HF1.out.trans HF2.out fun k hk ho => ?_, fun k hk => ?_⟩
      · rw [HWL.out]
        have := HS1.out
        rw [← byts_append] at this
        have e : ((⟨#[27, 93]⟩ : ByteArray) ++ p.text).data.toList.map (fun b => (b.toNat : Int)) = 27 :: 93 :: bnum p.text := by simp [bnum, nums8]
        rw [e] at this
        exact this
      · have hk2 : W0.heap.size = k := by injection ho
        omega
      · have := HF1.out.size
        rcases HA1.out with h | ⟨g, h, hg⟩
        · rw [h] at hk
          have hk2 : W0.heap.size = k := by injection hk
          omega
        · rw [h] at hk
          have hk2 : g = k := by injection hk
          omega
    · have hwl : writeL p = ([] : List Int) := by simp [writeL, show p.kind ≠ 1 by omega, show p.kind ≠ 2 by omega, show p.kind ≠ 3 by omega, show p.kind ≠ 4 by omega, show p.kind ≠ 5 by omega]
      have HWL := Lib.hid (HL.out.trans hwl)
      have k1 : (p.kind == 1) = false := bne_f (by omega)
      have k2 : (p.kind == 2) = false := bne_f (by omega)
      have k3 : (p.kind == 3) = false := bne_f (by omega)
      have k4 : (p.kind == 4) = false := bne_f (by omega)
      have k5 : (p.kind == 5) = false := bne_f (by omega)
      have HK := Lib.hid h
      clear h hwl
      go_wp2
      go_meet
      exact ⟨_, _, _, rfl, by rw [HWL.out]; exact By.nil _ _, Fr.refl _ _, fun k hk => by cases hk⟩
  case rest =>
    obtain ⟨A4, n4, d4, rfl, hby4, hf4, ho4⟩ := hcut
    have hL4 : L.length = n4 := by have := hby4.1; rw [byts_length] at this; omega
    have hrd := hby4.rd
    have hap := all_same L HBY.out
    have hapl := allP_len L HBY.out
    have HAL := Lib.hid (show (allR L).length ≤ 67108864 by rw [← hap]; have := HLEN.out; omega)
    have HSH := Lib.hid (show Short (allR L) from fun q hq => by rw [← hap] at hq; have := (allP_ok L HBY.out q hq).parL; omega)
    have HSP := Lib.hid (show Short [p] from fun q hq => by simp at hq; subst hq; have := HLN.out; omega)
    have HONE := Lib.hid (show 1 ≤ 67108864 by omega)
    clear hap hapl
    have CA := Lib.hid fun (W : World) (hf : Fr NoB wc W) => rall_any L A4 n4 d4 W ((hrd.fr hf fun _ _ => noB_no).mono fun k hk _ => hk) (by have := HLEN.out; omega) HBY.out
    have HF4 := Lib.hid hf4
    have HC0 := Lib.hid hby4
    obtain ⟨c0, c1, c2, c3, c4, c5, c6⟩ := HB0.out.fr hf4
    have HS0 := Lib.hid (show wc.cell? ⟨w.heap.size, 0, none⟩ = some (.int .i64 p.kind) ∧ _ ∧ _ ∧ _ ∧ _ ∧ _ ∧ _ from ⟨c0, c1, c2, c3, c4, c5, c6⟩)
    have hfb := ((Fr.refl NoB wc).alloc (.cells #[.int .i64 p.kind, .int .i32 p.rune, .int .u8 p.fin, .int .u8 p.priv, .slice A n c, .string p.inter, .string p.text] 35)).drew
    have HSB := Lib.hid (keep7 hfb HS0.out)
    have HRPB := Lib.hid (((HR.out.fr HF0.out fun _ _ => noB_no).fr HF4.out fun _ _ => noB_no).fr ((Fr.refl NoB wc).alloc (.cells #[.int .i64 p.kind, .int .i32 p.rune, .int .u8 p.fin, .int .u8 p.priv, .slice A n c, .string p.inter, .string p.text] 35)) fun _ _ => noB_no)
    have HA2B := Lib.hid ((acts_one wc p A n c HRPB.out hnc).fr (Fr.refl NoB _).drew fun _ _ => noB_no)
    have HFB := Lib.hid hfb
    clear c0 c1 c2 c3 c4 c5 c6 hby4 hf4 hL4 hrd ho4 hfb
    go_upto_region 23 with (fail)
    go_region_held3 (fun W => W.cell? ⟨w.heap.size, 0, none⟩ = some (.int .i64 p.kind) ∧ W.cell? ⟨w.heap.size, 1, none⟩ = some (.int .i32 p.rune) ∧ W.cell? ⟨w.heap.size, 2, none⟩ = some (.int .u8 p.fin) ∧ W.cell? ⟨w.heap.size, 3, none⟩ = some (.int .u8 p.priv) ∧ W.cell? ⟨w.heap.size, 4, none⟩ = some (.slice A n c) ∧ W.cell? ⟨w.heap.size, 5, none⟩ = some (.string p.inter) ∧ W.cell? ⟨w.heap.size, 6, none⟩ = some (.string p.text))
      (first | exact HS0.out | exact HS1.out | exact HS2.out | exact HS3.out | exact HSB.out | fail)
      (first
        | (go_at_call 15
           refine (CA.out _ ?hf).mono ?_
           case hf => exact (Fr.refl NoB wc).drew
           rintro e w1 ⟨A1, d1, rfl, hin1, hf1, hd1⟩
           have hfw := ((Fr.refl NoB wc).drew).trans hf1 fun _ _ h => h
           have HS1 := Lib.hid (keep7 hfw HS0.out)
           have hfa := (Fr.refl NoB w1).alloc (.cells #[.int .i64 p.kind, .int .i32 p.rune, .int .u8 p.fin, .int .u8 p.priv, .slice A n c, .string p.inter, .string p.text] 35)
           have HS2 := Lib.hid (keep7 hfa HS1.out)
           have HW1 := Lib.hid (hfw.trans hfa fun _ _ h => h)
           have HIN := Lib.hid (hin1.fr hfa fun _ _ => noB_no)
           have HD1 := Lib.hid hd1
           have HRP := Lib.hid ((((HR.out.fr HF0.out fun _ _ => noB_no).fr HF4.out fun _ _ => noB_no).fr hfw fun _ _ => noB_no).fr hfa fun _ _ => noB_no)
           have HA2 := Lib.hid (acts_one w1 p A n c HRP.out hnc)
           clear hin1 hf1 hd1 hfw hfa)
        | (go_at_call 13
           refine (rsame_any (allR L) [p] _ _ A1 _ _ 1 d1 1 (w1.alloc (.cells #[.int .i64 p.kind, .int .i32 p.rune, .int .u8 p.fin, .int .u8 p.priv, .slice A n c, .string p.inter, .string p.text] 35)) HIN.out HA2.out HAL.out HONE.out HSH.out HSP.out).mono ?_
           rintro e w2 ⟨rfl, hf2⟩
           have HS3 := Lib.hid (keep7 hf2 HS2.out)
           have HF2 := Lib.hid ((HF4.out.trans HW1.out fun _ _ h => h).trans hf2 fun _ _ h => h)
           have HC2 := Lib.hid ((HC0.out.fr HW1.out fun _ _ => noB_no).fr hf2 fun _ _ => noB_no)
           clear hf2)
        | (go_at_call 15
           refine (CA.out _ HFB.out).mono ?_
           rintro e w1 ⟨A1, d1, rfl, hin1, hf1, hd1⟩
           have HW1 := Lib.hid (HFB.out.trans hf1 fun _ _ h => h)
           have HS2 := Lib.hid (keep7 hf1 HSB.out)
           have HIN := Lib.hid hin1
           have HA2 := Lib.hid (HA2B.out.fr hf1 fun _ _ => noB_no)
           clear hin1 hf1 hd1)
        | (go_at_call 13
           refine (rsame_any (allR L) [p] _ _ A1 _ _ 1 d1 1 w1 HIN.out HA2.out HAL.out HONE.out HSH.out HSP.out).mono ?_
           rintro e w2 ⟨rfl, hf2⟩
           have HS3 := Lib.hid (keep7 hf2 HS2.out)
           have HF2 := Lib.hid ((HF4.out.trans HW1.out fun _ _ h => h).trans hf2 fun _ _ h => h)
           have HC2 := Lib.hid ((HC0.out.fr HW1.out fun _ _ => noB_no).fr hf2 fun _ _ => noB_no)
           clear hf2))
    all_goals
      cases hv : sameL (allR L) [p] with
      | true =>
        go_wp2
        go_ret2
        exact ⟨HF0.out.trans HF2.out fun _ _ h => h, .inl ⟨hv, _, _, _, rfl, HC2.out⟩⟩
      | false =>
        go_wp2
        go_ret2
        exact ⟨HF0.out.trans HF2.out fun _ _ h => h, .inr ⟨hv, rfl⟩⟩
end Go.Proofs.YtopaeikddlpecaaDoor
