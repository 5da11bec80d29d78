/-
  Walk: vtparse.write gives an action's bytes, all kinds but the fourth. Conditions: texts of at most 1048576 bytes.
-/
import Derived.Test.YtopaeikddlpecaaDoorWs
import Derived.Test.YtopaeikddlpecaaDoorApf
import Derived.Test.YtopaeikddlpecaaDoorSh
import Derived.Test.YtopaeikddlpecaaDoorLive
import Derived.BigQuiet
namespace Go.Proofs.YtopaeikddlpecaaDoor
open Go.RowKit

/-- new bytes are handed back -/
def NewBy (w : World) (l : List Int) (e : Ending) (w' : World) : Prop := ∃ A n c, e = .returned (.slice A n c) ∧ By w' 5 A n c (byts l) ∧ Fr NoB w w' ∧ ∀ k, Own A k → w.heap.size ≤ k

theorem conv_bytes (W : World) (s : ByteArray) : (convert 9 22 (.string s)).run Tryd.prog W = .ok (.slice (some ⟨W.heap.size, 0, none⟩) s.size (grownCap W s.size 0 5)) (Lib.bytesWorld W 5 s) :=
  Lib.run_convert_string_bytes W _ _ _ s Tryd.underlying9 Tryd.underlying22 Tryd.underlying5

theorem encode_size (r : Int) : (Utf8.encode r).size ≤ 4 := by
  unfold Utf8.encode
  simp only
  repeat' split
  all_goals simp [ByteArray.size]

/-- an action's cells in its own block -/
def ActB (W : World) (g : Nat) (p : PAct) (v : Value) : Prop :=
  W.cell? ⟨g, 0, none⟩ = some (.int .i64 p.kind) ∧ W.cell? ⟨g, 1, none⟩ = some (.int .i32 p.rune) ∧ W.cell? ⟨g, 2, none⟩ = some (.int .u8 p.fin) ∧ W.cell? ⟨g, 3, none⟩ = some (.int .u8 p.priv) ∧ W.cell? ⟨g, 4, none⟩ = some v ∧ W.cell? ⟨g, 5, none⟩ = some (.string p.inter) ∧ W.cell? ⟨g, 6, none⟩ = some (.string p.text)
theorem ActB.new (w : World) (p : PAct) (v : Value) : ActB (w.alloc (.cells #[.int .i64 p.kind, .int .i32 p.rune, .int .u8 p.fin, .int .u8 p.priv, v, .string p.inter, .string p.text] 35)) w.heap.size p v := by
  have b := Blk.new w 35 #[.int .i64 p.kind, .int .i32 p.rune, .int .u8 p.fin, .int .u8 p.priv, v, .string p.inter, .string p.text]
  exact ⟨b.cell 0, b.cell 1, b.cell 2, b.cell 3, b.cell 4, b.cell 5, b.cell 6⟩
theorem ActB.fr {W W' : World} {g : Nat} {p : PAct} {v : Value} (h : ActB W g p v) (hf : Fr NoB W W') : ActB W' g p v :=
  ⟨hf.cell_some h.1 noB_no, hf.cell_some h.2.1 noB_no, hf.cell_some h.2.2.1 noB_no, hf.cell_some h.2.2.2.1 noB_no, hf.cell_some h.2.2.2.2.1 noB_no, hf.cell_some h.2.2.2.2.2.1 noB_no, hf.cell_some h.2.2.2.2.2.2 noB_no⟩

set_option maxHeartbeats 1600000 in
set_option maxRecDepth 100000 in
theorem write_1 (p : PAct) (v : Value) (w : World) (hk : p.kind = 1) (hs : p.inter.size + p.text.size ≤ 1048576) :
    Calls Tryd.prog 41 #[.agg #[.int .i64 p.kind, .int .i32 p.rune, .int .u8 p.fin, .int .u8 p.priv, v, .string p.inter, .string p.text]] w (NewBy w (writeL p)) := by
  have hwl : writeL p = encL p.rune := by simp [writeL, hk]
  rw [hwl]
  have HS := Lib.hid hs
  have HK := Lib.hid hk
  clear hwl hs hk
  obtain ⟨L, hL⟩ : ∃ L, L = encL p.rune := ⟨_, rfl⟩
  rw [← hL]
  have HL := Lib.hid hL
  clear hL
  go_enter Tryd.func41, Tryd.ntmps41
  go_upto_region 1 with (fail)
  have hb0 := ActB.new w p v
  have hf0 := (Fr.refl NoB w).alloc (.cells #[.int .i64 p.kind, .int .i32 p.rune, .int .u8 p.fin, .int .u8 p.priv, v, .string p.inter, .string p.text] 35)
  have hz0 : (w.alloc (.cells #[.int .i64 p.kind, .int .i32 p.rune, .int .u8 p.fin, .int .u8 p.priv, v, .string p.inter, .string p.text] 35)).heap.size = w.heap.size + 1 := by simp
  generalize w.alloc (.cells #[.int .i64 p.kind, .int .i32 p.rune, .int .u8 p.fin, .int .u8 p.priv, v, .string p.inter, .string p.text] 35) = W0 at *
  obtain ⟨c0, c1, c2, c3, c4, c5, c6⟩ := hb0
  have HF0 := Lib.hid hf0
  have HZ0 := Lib.hid hz0
  clear hf0 hz0
  rw [HK.out] at c0
  have hcv := conv_bytes W0 (Utf8.encode p.rune)
  have hsz : ((Utf8.encode p.rune)).size ≤ 1048600 := (by have := encode_size p.rune; omega)
  have HSZ := Lib.hid hsz
  have HBY := Lib.hid (by_bytesWorld W0 5 (Utf8.encode p.rune) (by omega))
  have HF1 := Lib.hid (fr_bytesWorld W0 5 (Utf8.encode p.rune))
  clear hsz
  generalize Lib.bytesWorld W0 5 (Utf8.encode p.rune) = W5 at *
  generalize grownCap W0 ((Utf8.encode p.rune)).size 0 5 = cap5 at *
  go_wp2
  go_ret
  rw [HL.out]
  exact ⟨_, _, _, rfl, HBY.out, HF0.out.trans HF1.out fun _ _ h => h, fun k hk => by
    have hk2 : W0.heap.size = k := by injection hk
    have := HZ0.out
    omega⟩
set_option maxHeartbeats 1600000 in
set_option maxRecDepth 100000 in
theorem write_2 (p : PAct) (v : Value) (w : World) (hk : p.kind = 2) (hs : p.inter.size + p.text.size ≤ 1048576) :
    Calls Tryd.prog 41 #[.agg #[.int .i64 p.kind, .int .i32 p.rune, .int .u8 p.fin, .int .u8 p.priv, v, .string p.inter, .string p.text]] w (NewBy w (writeL p)) := by
  have hwl : writeL p = [p.fin] := by simp [writeL, hk]
  rw [hwl]
  have HS := Lib.hid hs
  have HK := Lib.hid hk
  clear hwl hs hk
  obtain ⟨L, hL⟩ : ∃ L, L = [p.fin] := ⟨_, rfl⟩
  rw [← hL]
  have HL := Lib.hid hL
  clear hL
  go_enter Tryd.func41, Tryd.ntmps41
  go_upto_region 1 with (fail)
  have hb0 := ActB.new w p v
  have hf0 := (Fr.refl NoB w).alloc (.cells #[.int .i64 p.kind, .int .i32 p.rune, .int .u8 p.fin, .int .u8 p.priv, v, .string p.inter, .string p.text] 35)
  have hz0 : (w.alloc (.cells #[.int .i64 p.kind, .int .i32 p.rune, .int .u8 p.fin, .int .u8 p.priv, v, .string p.inter, .string p.text] 35)).heap.size = w.heap.size + 1 := by simp
  generalize w.alloc (.cells #[.int .i64 p.kind, .int .i32 p.rune, .int .u8 p.fin, .int .u8 p.priv, v, .string p.inter, .string p.text] 35) = W0 at *
  obtain ⟨c0, c1, c2, c3, c4, c5, c6⟩ := hb0
  have HF0 := Lib.hid hf0
  have HZ0 := Lib.hid hz0
  clear hf0 hz0
  rw [HK.out] at c0
  go_wp2
  go_ret
  rw [HL.out]
  exact ⟨_, _, _, rfl, By.new W0 5 #[.int .u8 p.fin] 1 1 (by omega) (by simp [maxLen]) rfl, HF0.out.alloc _, fun k hk => by
    have hk2 : W0.heap.size = k := by injection hk
    have := HZ0.out
    omega⟩
set_option maxHeartbeats 1600000 in
set_option maxRecDepth 100000 in
theorem write_3 (p : PAct) (v : Value) (w : World) (hk : p.kind = 3) (hs : p.inter.size + p.text.size ≤ 1048576) :
    Calls Tryd.prog 41 #[.agg #[.int .i64 p.kind, .int .i32 p.rune, .int .u8 p.fin, .int .u8 p.priv, v, .string p.inter, .string p.text]] w (NewBy w (writeL p)) := by
  have hwl : writeL p = 27 :: bnum p.inter ++ [p.fin] := by simp [writeL, hk]
  rw [hwl]
  have HS := Lib.hid hs
  have HK := Lib.hid hk
  clear hwl hs hk
  obtain ⟨L, hL⟩ : ∃ L, L = 27 :: bnum p.inter ++ [p.fin] := ⟨_, rfl⟩
  rw [← hL]
  have HL := Lib.hid hL
  clear hL
  go_enter Tryd.func41, Tryd.ntmps41
  go_upto_region 1 with (fail)
  have hb0 := ActB.new w p v
  have hf0 := (Fr.refl NoB w).alloc (.cells #[.int .i64 p.kind, .int .i32 p.rune, .int .u8 p.fin, .int .u8 p.priv, v, .string p.inter, .string p.text] 35)
  have hz0 : (w.alloc (.cells #[.int .i64 p.kind, .int .i32 p.rune, .int .u8 p.fin, .int .u8 p.priv, v, .string p.inter, .string p.text] 35)).heap.size = w.heap.size + 1 := by simp
  generalize w.alloc (.cells #[.int .i64 p.kind, .int .i32 p.rune, .int .u8 p.fin, .int .u8 p.priv, v, .string p.inter, .string p.text] 35) = W0 at *
  obtain ⟨c0, c1, c2, c3, c4, c5, c6⟩ := hb0
  have HF0 := Lib.hid hf0
  have HZ0 := Lib.hid hz0
  clear hf0 hz0
  rw [HK.out] at c0
  have hsm := HS.out
  have l1 : ¬ 9223372036854775807 < 1 + p.inter.size := by omega
  clear hsm
  have hcv := conv_bytes W0 ((⟨#[27]⟩ : ByteArray) ++ p.inter)
  have hsz : (((⟨#[27]⟩ : ByteArray) ++ p.inter)).size ≤ 1048600 := (by
    have := HS.out
    have e1 : (⟨#[27]⟩ : ByteArray).size = 1 := rfl
    have e2 : (⟨#[27, 93]⟩ : ByteArray).size = 2 := rfl
    have e3 : (⟨#[7]⟩ : ByteArray).size = 1 := rfl
    simp only [ByteArray.size_append]
    omega)
  have HSZ := Lib.hid hsz
  have hby := by_bytesWorld W0 5 ((⟨#[27]⟩ : ByteArray) ++ p.inter) (by omega)
  have HF1 := Lib.hid (fr_bytesWorld W0 5 ((⟨#[27]⟩ : ByteArray) ++ p.inter))
  have hsn : (((⟨#[27]⟩ : ByteArray) ++ p.inter)).size = 1 + p.inter.size := by
    simp only [ByteArray.size_append]
    rfl
  have hsn2 := hsn
  have d2 := (fr_bytesWorld W0 5 ((⟨#[27]⟩ : ByteArray) ++ p.inter)).cell_some c2 noB_no
  generalize Lib.bytesWorld W0 5 ((⟨#[27]⟩ : ByteArray) ++ p.inter) = W5 at *
  generalize grownCap W0 (((⟨#[27]⟩ : ByteArray) ++ p.inter)).size 0 5 = cap5 at *
  rw [hsn2] at hby hcv
  have HBY := Lib.hid hby
  clear hsz hsn hsn2 hby
  go_wp2_with
    (at_builtin
     refine wpList_append_by_box W5 rfl (.tmp 26) (.tmp 29) _ rfl 5 Tryd.underlying22 byte_info rfl rfl HBY.out (by have := HS.out; omega) ?_
     intro A4 c4 w1 hf1 hs1 hA1
     have HF2 := Lib.hid hf1
     have HS1 := Lib.hid hs1
     have HA1 := Lib.hid hA1
     clear hf1 hs1 hA1)
  go_ret
  rw [HL.out]
  refine ⟨_, _, _, rfl, ?_, (HF0.out.trans HF1.out fun _ _ h => h).trans HF2.out fun k hk ho => ?_, fun k hk => ?_⟩
  · have := HS1.out
    rw [← byts_append] at this
    have e : ((⟨#[27]⟩ : ByteArray) ++ p.inter).data.toList.map (fun b => (b.toNat : Int)) = 27 :: bnum p.inter := by simp [bnum, nums8]
    rw [e] at this
    exact this
  · have hk2 : W0.heap.size = k := by injection ho
    have := HZ0.out
    omega
  · have := HZ0.out
    have := HF1.out.size
    rcases HA1.out with h | ⟨g, h, hg⟩
    · rw [h] at hk
      have hk2 : W0.heap.size = k := by injection hk
      omega
    · rw [h] at hk
      have hk2 : g = k := by injection hk
      omega
set_option maxHeartbeats 1600000 in
set_option maxRecDepth 100000 in
theorem write_5 (p : PAct) (v : Value) (w : World) (hk : p.kind = 5) (hs : p.inter.size + p.text.size ≤ 1048576) :
    Calls Tryd.prog 41 #[.agg #[.int .i64 p.kind, .int .i32 p.rune, .int .u8 p.fin, .int .u8 p.priv, v, .string p.inter, .string p.text]] w (NewBy w (writeL p)) := by
  have hwl : writeL p = 27 :: 93 :: bnum p.text ++ [7] := by simp [writeL, hk]
  rw [hwl]
  have HS := Lib.hid hs
  have HK := Lib.hid hk
  clear hwl hs hk
  obtain ⟨L, hL⟩ : ∃ L, L = 27 :: 93 :: bnum p.text ++ [7] := ⟨_, rfl⟩
  rw [← hL]
  have HL := Lib.hid hL
  clear hL
  go_enter Tryd.func41, Tryd.ntmps41
  go_upto_region 1 with (fail)
  have hb0 := ActB.new w p v
  have hf0 := (Fr.refl NoB w).alloc (.cells #[.int .i64 p.kind, .int .i32 p.rune, .int .u8 p.fin, .int .u8 p.priv, v, .string p.inter, .string p.text] 35)
  have hz0 : (w.alloc (.cells #[.int .i64 p.kind, .int .i32 p.rune, .int .u8 p.fin, .int .u8 p.priv, v, .string p.inter, .string p.text] 35)).heap.size = w.heap.size + 1 := by simp
  generalize w.alloc (.cells #[.int .i64 p.kind, .int .i32 p.rune, .int .u8 p.fin, .int .u8 p.priv, v, .string p.inter, .string p.text] 35) = W0 at *
  obtain ⟨c0, c1, c2, c3, c4, c5, c6⟩ := hb0
  have HF0 := Lib.hid hf0
  have HZ0 := Lib.hid hz0
  clear hf0 hz0
  rw [HK.out] at c0
  have hsm := HS.out
  have l1 : ¬ 9223372036854775807 < 2 + p.text.size := by omega
  have l2 : ¬ 9223372036854775807 < 2 + p.text.size + 1 := by omega
  clear hsm
  have hcv := conv_bytes W0 ((⟨#[27, 93]⟩ : ByteArray) ++ p.text ++ (⟨#[7]⟩ : ByteArray))
  have hsz : (((⟨#[27, 93]⟩ : ByteArray) ++ p.text ++ (⟨#[7]⟩ : ByteArray))).size ≤ 1048600 := (by
    have := HS.out
    have e1 : (⟨#[27]⟩ : ByteArray).size = 1 := rfl
    have e2 : (⟨#[27, 93]⟩ : ByteArray).size = 2 := rfl
    have e3 : (⟨#[7]⟩ : ByteArray).size = 1 := rfl
    simp only [ByteArray.size_append]
    omega)
  have HSZ := Lib.hid hsz
  have hby := by_bytesWorld W0 5 ((⟨#[27, 93]⟩ : ByteArray) ++ p.text ++ (⟨#[7]⟩ : ByteArray)) (by omega)
  have HF1 := Lib.hid (fr_bytesWorld W0 5 ((⟨#[27, 93]⟩ : ByteArray) ++ p.text ++ (⟨#[7]⟩ : ByteArray)))
  have hsn : (((⟨#[27, 93]⟩ : ByteArray) ++ p.text ++ (⟨#[7]⟩ : ByteArray))).size = 2 + p.text.size + 1 := by
    simp only [ByteArray.size_append]
    rfl
  have hsn2 := hsn
  generalize Lib.bytesWorld W0 5 ((⟨#[27, 93]⟩ : ByteArray) ++ p.text ++ (⟨#[7]⟩ : ByteArray)) = W5 at *
  generalize grownCap W0 (((⟨#[27, 93]⟩ : ByteArray) ++ p.text ++ (⟨#[7]⟩ : ByteArray))).size 0 5 = cap5 at *
  rw [hsn2] at hby hcv
  have HBY := Lib.hid hby
  clear hsz hsn hsn2 hby
  go_wp2
  go_ret
  rw [HL.out]
  have e : ((⟨#[27, 93]⟩ : ByteArray) ++ p.text ++ (⟨#[7]⟩ : ByteArray)).data.toList.map (fun b => (b.toNat : Int)) = 27 :: 93 :: bnum p.text ++ [7] := by simp [bnum, nums8]
  rw [← e]
  exact ⟨_, _, _, rfl, HBY.out, HF0.out.trans HF1.out fun _ _ h => h, fun k hk => by
    have hk2 : W0.heap.size = k := by injection hk
    have := HZ0.out
    omega⟩
set_option maxHeartbeats 1600000 in
set_option maxRecDepth 100000 in
theorem write_0 (p : PAct) (v : Value) (w : World) (hk : p.kind < 1 ∨ 5 < p.kind) (hs : p.inter.size + p.text.size ≤ 1048576) :
    Calls Tryd.prog 41 #[.agg #[.int .i64 p.kind, .int .i32 p.rune, .int .u8 p.fin, .int .u8 p.priv, v, .string p.inter, .string p.text]] w (NewBy w (writeL p)) := by
  have hwl : writeL p = ([] : List Int) := by simp [writeL, show p.kind ≠ 1 by omega, show p.kind ≠ 2 by omega, show p.kind ≠ 3 by omega, show p.kind ≠ 4 by omega, show p.kind ≠ 5 by omega]
  rw [hwl]
  have HS := Lib.hid hs
  have HK := Lib.hid hk
  clear hwl hs hk
  obtain ⟨L, hL⟩ : ∃ L, L = ([] : List Int) := ⟨_, rfl⟩
  rw [← hL]
  have HL := Lib.hid hL
  clear hL
  go_enter Tryd.func41, Tryd.ntmps41
  go_upto_region 1 with (fail)
  have hb0 := ActB.new w p v
  have hf0 := (Fr.refl NoB w).alloc (.cells #[.int .i64 p.kind, .int .i32 p.rune, .int .u8 p.fin, .int .u8 p.priv, v, .string p.inter, .string p.text] 35)
  have hz0 : (w.alloc (.cells #[.int .i64 p.kind, .int .i32 p.rune, .int .u8 p.fin, .int .u8 p.priv, v, .string p.inter, .string p.text] 35)).heap.size = w.heap.size + 1 := by simp
  generalize w.alloc (.cells #[.int .i64 p.kind, .int .i32 p.rune, .int .u8 p.fin, .int .u8 p.priv, v, .string p.inter, .string p.text] 35) = W0 at *
  obtain ⟨c0, c1, c2, c3, c4, c5, c6⟩ := hb0
  have HF0 := Lib.hid hf0
  have HZ0 := Lib.hid hz0
  clear hf0 hz0
  have hk := HK.out
  have k1 : (p.kind == 1) = false := bne_f (by omega)
  have k2 : (p.kind == 2) = false := bne_f (by omega)
  have k3 : (p.kind == 3) = false := bne_f (by omega)
  have k4 : (p.kind == 4) = false := bne_f (by omega)
  have k5 : (p.kind == 5) = false := bne_f (by omega)
  clear hk
  go_wp2
  go_ret
  rw [HL.out]
  exact ⟨none, 0, 0, rfl, By.nil _ _, HF0.out, fun k hk => by cases hk⟩
end Go.Proofs.YtopaeikddlpecaaDoor
