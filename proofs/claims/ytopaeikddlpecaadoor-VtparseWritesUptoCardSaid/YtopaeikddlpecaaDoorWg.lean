/-
  vtparse.write gives an action's bytes; walk: lanyardref01.Form gives a rune's bytes. Conditions: of the first: the table of powers, texts of at most 1048576 bytes, at most 1048576 parameters.
  Walk: lanyardref01.Form gives a rune's bytes.
-/
import Derived.Test.YtopaeikddlpecaaDoorWx
namespace Go.Proofs.YtopaeikddlpecaaDoor
open Go.RowKit

theorem write_any (p : PAct) (A : Option Addr) (n c : Nat) (w : World) (hs : p.inter.size + p.text.size ≤ 1048576) (hP : Pow w) (hr : Rd w (fun k => k < w.heap.size) 1 A n (ints p.params)) (hn : n ≤ 1048576)
    (hz : ∀ z ∈ p.params, -9223372036854775808 ≤ z ∧ z ≤ 9223372036854775807) :
    Calls Tryd.prog 41 #[.agg #[.int .i64 p.kind, .int .i32 p.rune, .int .u8 p.fin, .int .u8 p.priv, .slice A n c, .string p.inter, .string p.text]] w (NewBy w (writeL p)) := by
  rcases (by omega : p.kind = 1 ∨ p.kind = 2 ∨ p.kind = 3 ∨ p.kind = 4 ∨ p.kind = 5 ∨ (p.kind < 1 ∨ 5 < p.kind)) with h | h | h | h | h | h
  · exact write_1 p _ w h hs
  · exact write_2 p _ w h hs
  · exact write_3 p _ w h hs
  · exact write_4 p A n c w h hs hP hr hn hz
  · exact write_5 p _ w h hs
  · exact write_0 p _ w h hs

theorem encL_bad {r : Int} (h : Utf8.valid r = false) : encL r = [239, 191, 189] := by
  unfold encL Utf8.encode
  simp only [h, Bool.false_eq_true, if_false]
  rfl
theorem enc1 {r : Int} (hv : Utf8.valid r = true) (h0 : 0 ≤ r) (h1 : r < 128) : encL r = [r] := by
  obtain ⟨n, rfl⟩ := Int.eq_ofNat_of_zero_le h0
  unfold encL Utf8.encode
  simp only [hv, if_true, Int.toNat_natCast]
  rw [if_pos (by omega)]
  simp only [List.map_cons, List.map_nil, u8_nat n (by omega)]
theorem enc2 {r : Int} (hv : Utf8.valid r = true) (h1 : 128 ≤ r) (h2 : r < 2048) : encL r = [192 + r / 64, 128 + r % 64] := by
  obtain ⟨n, rfl⟩ := Int.eq_ofNat_of_zero_le (show 0 ≤ r by omega)
  unfold encL Utf8.encode
  simp only [hv, if_true, Int.toNat_natCast]
  rw [if_neg (by omega), if_pos (by omega)]
  simp only [List.map_cons, List.map_nil]
  rw [u8_nat _ (by omega), u8_nat _ (by omega)]
  simp only [Int.natCast_add, Int.natCast_ediv, Int.natCast_emod]
  rfl
theorem enc3 {r : Int} (hv : Utf8.valid r = true) (h1 : 2048 ≤ r) (h2 : r < 65536) : encL r = [224 + r / 4096, 128 + r / 64 % 64, 128 + r % 64] := by
  obtain ⟨n, rfl⟩ := Int.eq_ofNat_of_zero_le (show 0 ≤ r by omega)
  unfold encL Utf8.encode
  simp only [hv, if_true, Int.toNat_natCast]
  rw [if_neg (by omega), if_neg (by omega), if_pos (by omega)]
  simp only [List.map_cons, List.map_nil]
  rw [u8_nat _ (by omega), u8_nat _ (by omega), u8_nat _ (by omega)]
  simp only [Int.natCast_add, Int.natCast_ediv, Int.natCast_emod]
  rfl
theorem enc4 {r : Int} (hv : Utf8.valid r = true) (h1 : 65536 ≤ r) (h2 : r ≤ 1114111) : encL r = [240 + r / 262144, 128 + r / 4096 % 64, 128 + r / 64 % 64, 128 + r % 64] := by
  obtain ⟨n, rfl⟩ := Int.eq_ofNat_of_zero_le (show 0 ≤ r by omega)
  unfold encL Utf8.encode
  simp only [hv, if_true, Int.toNat_natCast]
  rw [if_neg (by omega), if_neg (by omega), if_neg (by omega)]
  simp only [List.map_cons, List.map_nil]
  rw [u8_nat _ (by omega), u8_nat _ (by omega), u8_nat _ (by omega), u8_nat _ (by omega)]
  simp only [Int.natCast_add, Int.natCast_ediv, Int.natCast_emod]
  rfl

set_option maxHeartbeats 1600000 in
set_option maxRecDepth 100000 in
theorem rune_any (r : Int) (w : World) : Calls Tryd.prog 61 #[.int .i32 r] w fun e w' => e = .returned (.bool (Utf8.valid r)) ∧ w' = w := by
  obtain ⟨v, hv⟩ : ∃ v, v = Utf8.valid r := ⟨_, rfl⟩
  rw [← hv]
  have HV := Lib.hid hv
  clear hv
  go_enter Tryd.func61, Tryd.ntmps61
  rcases (by omega : r < 0 ∨ (0 ≤ r ∧ r < 55296) ∨ (55296 ≤ r ∧ r ≤ 57343 ∧ 0 ≤ r) ∨ (57343 < r ∧ r ≤ 1114111 ∧ 0 ≤ r ∧ 55296 ≤ r) ∨ (1114111 < r ∧ 57343 < r ∧ 0 ≤ r ∧ 55296 ≤ r)) with q | ⟨q1, q2⟩ | ⟨q1, q2, q3⟩ | ⟨q1, q2, q3, q4⟩ | ⟨q1, q2, q3, q4⟩
  all_goals
    go_wp2
    go_ret
    rw [HV.out]
    refine ⟨?_, rfl⟩
    simp [Utf8.valid]
    try omega
    try
      rw [Bool.eq_iff_iff]
      simp
      omega
end Go.Proofs.YtopaeikddlpecaaDoor

namespace Go.Proofs.YtopaeikddlpecaaDoor
open Go.RowKit

theorem and63 (n : Nat) (h : n < 2147483648) : bits .and .i32 (n : Int) 63 = (n : Int) % 64 := by
  have h1 : (BitVec.ofInt 32 (n : Int)).toNat = n := by
    rw [BitVec.ofInt_natCast, BitVec.toNat_ofNat]; exact Nat.mod_eq_of_lt (by omega)
  have h2 : (BitVec.ofInt 32 63).toNat = 63 := by decide
  show IntKind.i32.wrap ((BitVec.ofInt 32 (n : Int) &&& BitVec.ofInt 32 63).toNat : Int) = _
  rw [BitVec.toNat_and, h1, h2, show (63 : Nat) = 2 ^ 6 - 1 from rfl, Nat.and_two_pow_sub_one_eq_mod]
  have h3 : n % 2 ^ 6 < 64 := Nat.mod_lt _ (by decide)
  have : ∀ m : Fin 64, IntKind.i32.wrap ((m.val : Nat) : Int) = m.val := by decide +kernel
  rw [this ⟨n % 2 ^ 6, h3⟩]
  simp
theorem and63' (r : Int) (h0 : 0 ≤ r) (h1 : r < 2147483648) : bits .and .i32 r 63 = r % 64 := by
  obtain ⟨n, rfl⟩ := Int.eq_ofNat_of_zero_le h0
  exact and63 n (by omega)
theorem or128f : ∀ m : Fin 64, bits .or .u8 128 ((m.val : Nat) : Int) = 128 + m.val := by decide +kernel
theorem or128 (x : Int) : bits .or .u8 128 (x % 64) = 128 + x % 64 := by
  have h0 : 0 ≤ x % 64 := Int.emod_nonneg _ (by decide)
  have h1 : x % 64 < 64 := Int.emod_lt_of_pos _ (by decide)
  obtain ⟨n, hn⟩ := Int.eq_ofNat_of_zero_le h0
  rw [hn]
  exact or128f ⟨n, by omega⟩

set_option maxHeartbeats 1600000 in
set_option maxRecDepth 100000 in
theorem form_2 (r : Int) (w : World) (h1 : 128 ≤ r) (h2 : r < 2048) (hv : Utf8.valid r = true) : Calls Tryd.prog 42 #[.int .i32 r] w (NewBy w (encL r)) := by
  rw [enc2 hv h1 h2]
  have CR := Lib.hid (rune_any r w)
  rw [hv] at CR
  clear hv
  go_enter Tryd.func42, Tryd.ntmps42
  go_wp2_with
    (go_at_call 61
     refine CR.out.mono ?_
     rintro e w1 ⟨rfl, rfl⟩)
  go_ret
  refine ⟨_, _, _, rfl, ?_, (Fr.refl NoB w1).alloc _, fun k hk => ?_⟩
  · have e : bits .or .u8 128 (bits .and .i32 r 63 % 256) = 128 + r % 64 := by
      rw [and63' r (by omega) (by omega), show r % 64 % 256 = r % 64 by omega, or128]
    rw [e]
    exact By.new w1 5 #[.int .u8 (192 + r / 64), .int .u8 (128 + r % 64)] 2 2 (by omega) (by simp [maxLen]) rfl
  · have hk2 : w1.heap.size = k := by injection hk
    omega

set_option maxHeartbeats 1600000 in
set_option maxRecDepth 100000 in
theorem form_1 (r : Int) (w : World) (h0 : 0 ≤ r) (h1 : r < 128) (hv : Utf8.valid r = true) : Calls Tryd.prog 42 #[.int .i32 r] w (NewBy w (encL r)) := by
  rw [enc1 hv h0 h1]
  have CR := Lib.hid (rune_any r w)
  rw [hv] at CR
  clear hv
  go_enter Tryd.func42, Tryd.ntmps42
  go_wp2_with
    (go_at_call 61
     refine CR.out.mono ?_
     rintro e w1 ⟨rfl, rfl⟩)
  go_ret
  refine ⟨_, _, _, rfl, ?_, (Fr.refl NoB w1).alloc _, fun k hk => ?_⟩
  · exact By.new w1 5 #[.int .u8 (r)] 1 1 (by omega) (by simp [maxLen]) rfl
  · have hk2 : w1.heap.size = k := by injection hk
    omega

set_option maxHeartbeats 1600000 in
set_option maxRecDepth 100000 in
theorem form_3 (r : Int) (w : World) (h1 : 2048 ≤ r) (h2 : r < 65536) (hv : Utf8.valid r = true) : Calls Tryd.prog 42 #[.int .i32 r] w (NewBy w (encL r)) := by
  rw [enc3 hv h1 h2]
  have CR := Lib.hid (rune_any r w)
  rw [hv] at CR
  clear hv
  go_enter Tryd.func42, Tryd.ntmps42
  go_wp2_with
    (go_at_call 61
     refine CR.out.mono ?_
     rintro e w1 ⟨rfl, rfl⟩)
  go_ret
  refine ⟨_, _, _, rfl, ?_, (Fr.refl NoB w1).alloc _, fun k hk => ?_⟩
  · have e0 : bits .or .u8 128 (bits .and .i32 (r / 64) 63 % 256) = 128 + r / 64 % 64 := by
      rw [and63' _ (by omega) (by omega), show r / 64 % 64 % 256 = r / 64 % 64 by omega, or128]
    have e1 : bits .or .u8 128 (bits .and .i32 (r) 63 % 256) = 128 + r % 64 := by
      rw [and63' _ (by omega) (by omega), show r % 64 % 256 = r % 64 by omega, or128]
    rw [e0, e1]
    exact By.new w1 5 #[.int .u8 (224 + r / 4096), .int .u8 (128 + r / 64 % 64), .int .u8 (128 + r % 64)] 3 3 (by omega) (by simp [maxLen]) rfl
  · have hk2 : w1.heap.size = k := by injection hk
    omega

set_option maxHeartbeats 1600000 in
set_option maxRecDepth 100000 in
theorem form_4 (r : Int) (w : World) (h1 : 65536 ≤ r) (h2 : r ≤ 1114111) (hv : Utf8.valid r = true) : Calls Tryd.prog 42 #[.int .i32 r] w (NewBy w (encL r)) := by
  rw [enc4 hv h1 h2]
  have CR := Lib.hid (rune_any r w)
  rw [hv] at CR
  clear hv
  go_enter Tryd.func42, Tryd.ntmps42
  go_wp2_with
    (go_at_call 61
     refine CR.out.mono ?_
     rintro e w1 ⟨rfl, rfl⟩)
  go_ret
  refine ⟨_, _, _, rfl, ?_, (Fr.refl NoB w1).alloc _, fun k hk => ?_⟩
  · have e0 : bits .or .u8 128 (bits .and .i32 (r / 4096) 63 % 256) = 128 + r / 4096 % 64 := by
      rw [and63' _ (by omega) (by omega), show r / 4096 % 64 % 256 = r / 4096 % 64 by omega, or128]
    have e1 : bits .or .u8 128 (bits .and .i32 (r / 64) 63 % 256) = 128 + r / 64 % 64 := by
      rw [and63' _ (by omega) (by omega), show r / 64 % 64 % 256 = r / 64 % 64 by omega, or128]
    have e2 : bits .or .u8 128 (bits .and .i32 (r) 63 % 256) = 128 + r % 64 := by
      rw [and63' _ (by omega) (by omega), show r % 64 % 256 = r % 64 by omega, or128]
    rw [e0, e1, e2]
    exact By.new w1 5 #[.int .u8 (240 + r / 262144), .int .u8 (128 + r / 4096 % 64), .int .u8 (128 + r / 64 % 64), .int .u8 (128 + r % 64)] 4 4 (by omega) (by simp [maxLen]) rfl
  · have hk2 : w1.heap.size = k := by injection hk
    omega

set_option maxHeartbeats 1600000 in
set_option maxRecDepth 100000 in
theorem form_bad (r : Int) (w : World) (hv : Utf8.valid r = false) : Calls Tryd.prog 42 #[.int .i32 r] w (NewBy w (encL r)) := by
  rw [encL_bad hv]
  have CR := Lib.hid (rune_any r w)
  rw [hv] at CR
  clear hv
  go_enter Tryd.func42, Tryd.ntmps42
  go_wp2_with
    (go_at_call 61
     refine CR.out.mono ?_
     rintro e w1 ⟨rfl, rfl⟩)
  go_ret
  refine ⟨_, _, _, rfl, ?_, (Fr.refl NoB w1).alloc _, fun k hk => ?_⟩
  · exact By.new w1 5 #[.int .u8 239, .int .u8 191, .int .u8 189] 3 3 (by omega) (by simp [maxLen]) rfl
  · have hk2 : w1.heap.size = k := by injection hk
    omega
theorem form_any (r : Int) (w : World) : Calls Tryd.prog 42 #[.int .i32 r] w (NewBy w (encL r)) := by
  cases hv : Utf8.valid r with
  | false => exact form_bad r w hv
  | true =>
    have h := hv
    simp [Utf8.valid] at h
    rcases (by omega : (0 ≤ r ∧ r < 128) ∨ (128 ≤ r ∧ r < 2048) ∨ (2048 ≤ r ∧ r < 65536) ∨ (65536 ≤ r ∧ r ≤ 1114111)) with ⟨a, b⟩ | ⟨a, b⟩ | ⟨a, b⟩ | ⟨a, b⟩
    · exact form_1 r w a b hv
    · exact form_2 r w a b hv
    · exact form_3 r w a b hv
    · exact form_4 r w a b hv
end Go.Proofs.YtopaeikddlpecaaDoor
