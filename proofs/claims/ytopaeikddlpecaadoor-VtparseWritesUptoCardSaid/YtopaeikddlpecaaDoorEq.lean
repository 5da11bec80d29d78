/-
  Walks: slices.Equal of ints, vtparse.Same, lanyardref05.Same and Param of whatever actions: both Sames answer 'sameL'. Conditions: bounds on lengths.
-/
import Derived.Test.YtopaeikddlpecaaDoorSame
import Derived.Test.YtopaeikddlpecaaDoorLive
namespace Go.Proofs.YtopaeikddlpecaaDoor
open Go.RowKit

def eqA (x y : PAct) : Bool := decide (x.kind = y.kind) && decide (x.rune = y.rune) && decide (x.fin = y.fin) && decide (x.priv = y.priv) && decide (x.inter = y.inter) && decide (x.text = y.text) && decide (x.params = y.params)
def sameL (ps qs : List PAct) : Bool := decide (ps.length = qs.length) && (List.range ps.length).all fun j => eqA (ps.getD j act0) (qs.getD j act0)
theorem sameL_len {ps qs : List PAct} (h : ps.length ≠ qs.length) : sameL ps qs = false := by simp [sameL, h]
theorem sameL_no {ps qs : List PAct} {j : Nat} (h : j < ps.length) (he : eqA (ps.getD j act0) (qs.getD j act0) = false) : sameL ps qs = false := by
  unfold sameL
  rw [Bool.and_eq_false_iff]
  right
  rw [List.all_eq_false]
  exact ⟨j, by simp [h], by rw [he]; simp⟩
theorem sameL_yes {ps qs : List PAct} (hl : ps.length = qs.length) (h : ∀ j, j < ps.length → eqA (ps.getD j act0) (qs.getD j act0) = true) : sameL ps qs = true := by
  unfold sameL
  rw [Bool.and_eq_true]
  exact ⟨by simp [hl], List.all_eq_true.2 fun j hj => h j (by simpa using hj)⟩
theorem eqA_self (x : PAct) : eqA x x = true := by simp [eqA]
theorem sameL_self (ps : List PAct) : sameL ps ps = true := sameL_yes rfl fun _ _ => eqA_self _
theorem str_ne {a b : ByteArray} (h : a ≠ b) : (a.toList == b.toList) = false := by
  rw [beq_eq_false_iff_ne]
  intro e
  apply h
  rw [ByteArray.toList_eq, ByteArray.toList_eq] at e
  obtain ⟨a⟩ := a
  obtain ⟨b⟩ := b
  congr 1
  exact Array.toList_inj.1 e
theorem neT {a b : Int} (h : a ≠ b) : (a != b) = true := by rw [bne_iff_ne]; exact h
theorem neF {a b : Int} (h : a = b) : (a != b) = false := by rw [h]; simp

set_option maxHeartbeats 1600000 in
theorem eqints_any (l r : List Int) (R1 R2 : Nat → Prop) (A B : Option Addr) (n m c d : Nat) (w : World) (h1 : Rd w R1 1 A n (ints l)) (h2 : Rd w R2 1 B m (ints r)) (hn : n ≤ 67108864) (hm : m ≤ 67108864) :
    Calls Tryd.prog 40 #[.slice A n c, .slice B m d] w fun e w' => e = .returned (.bool (decide (l = r))) ∧ Fr NoB w w' := by
  have hl : l.length = n := by have := h1.1; rw [ints_length] at this; omega
  have hr : r.length = m := by have := h2.1; rw [ints_length] at this; omega
  by_cases hnm : n = m
  · subst hnm
    have H1 := Lib.hid h1
    have H2 := Lib.hid h2
    have HL := Lib.hid hl
    have HR := Lib.hid hr
    clear h1 h2 hl hr hm
    go_enter Tryd.func40, Tryd.ntmps40
    go_wp2
    go_loopw [13] (fun i wr => ∃ k : Nat, k ≤ n ∧ i = .int .i64 k ∧ Fr NoB w wr ∧ ∀ j, j < k → l.getD j 0 = r.getD j 0) (fun i _ => n - (intOf i).toNat)
    case atStart => exact ⟨0, Nat.zero_le _, rfl, Fr.refl _ _, fun j hj => by omega⟩
    case round =>
      obtain ⟨k, hk, rfl, hf, he⟩ := hrel
      have HF := Lib.hid hf
      have HE := Lib.hid he
      clear hf he
      by_cases hlt : k < n
      · have hlt' : (k : Int) < (n : Int) := by omega
        obtain ⟨g1, o1, u, hA, _, hu, c1⟩ := (H1.out.fr HF.out fun _ _ => noB_no).at_ hlt
        rw [ints_at (by rw [HL.out]; exact hlt)] at hu
        injection hu with hu
        subst hu
        obtain ⟨g2, o2, u, hB, _, hu, c2⟩ := (H2.out.fr HF.out fun _ _ => noB_no).at_ hlt
        rw [ints_at (by rw [HR.out]; exact hlt)] at hu
        injection hu with hu
        subst hu
        subst hA hB
        generalize hx : l.getD k 0 = x at *
        generalize hy : r.getD k 0 = y at *
        have HX := Lib.hid hx
        have HY := Lib.hid hy
        clear hx hy
        by_cases hxy : x = y
        · subst hxy
          go_wp2
          go_quiet (fail)
          go_wp2
          refine ⟨⟨k + 1, by omega, by go_num, HF.out.drewN _, fun j hj => ?_⟩, by simp [intOf]; omega⟩
          rcases (by omega : j < k ∨ j = k) with h | rfl
          · exact HE.out j h
          · rw [HX.out, HY.out]
        · have t1 := neT hxy
          have t2 := bne_f hxy
          have HXY := Lib.hid hxy
          clear hxy
          go_wp2
          go_quiet (fail)
          go_wp2
          go_ret
          have hne : ¬ l = r := fun e => HXY.out (by rw [← HX.out, ← HY.out, e])
          exact ⟨by simp [hne], HF.out.drewN _⟩
      · have hlt' : (n : Int) ≤ (k : Int) := by omega
        go_wp2
        go_ret
        have heq : l = r := List.ext_getElem (by rw [HL.out, HR.out]) fun j h1 h2 => by
          have := HE.out j (by rw [HL.out] at h1; omega)
          simpa [List.getD_eq_getElem?_getD, h1, h2] using this
        exact ⟨by simp [heq], HF.out⟩
  · have hlr : ¬ l = r := fun e => hnm (by rw [← hl, ← hr, e])
    have t1 : ((n : Int) != (m : Int)) = true := neT (by omega)
    have t2 : ((n : Int) == (m : Int)) = false := bne_f (by omega)
    have HLR := Lib.hid hlr
    clear h1 h2 hl hr hlr hnm
    go_enter Tryd.func40, Tryd.ntmps40
    go_wp2
    go_ret
    exact ⟨by simp [HLR.out], Fr.refl _ _⟩

set_option maxHeartbeats 3200000 in
set_option maxRecDepth 100000 in
theorem sameq1_any (x y : PAct) (R1 R2 : Nat → Prop) (A B : Option Addr) (n m c d : Nat) (w : World) (h1 : Rd w R1 1 A n (ints x.params)) (h2 : Rd w R2 1 B m (ints y.params)) (hn : n ≤ 67108864) (hm : m ≤ 67108864) :
    Calls Tryd.prog 39 #[.agg #[.int .i64 x.kind, .int .i32 x.rune, .int .u8 x.fin, .int .u8 x.priv, .slice A n c, .string x.inter, .string x.text], .agg #[.int .i64 y.kind, .int .i32 y.rune, .int .u8 y.fin, .int .u8 y.priv, .slice B m d, .string y.inter, .string y.text]] w
      fun e w' => e = .returned (.bool (eqA x y)) ∧ Fr NoB w w' := by
  have hv : eqA x y = eqA x y := rfl
  conv at hv => rhs; unfold eqA
  generalize eqA x y = v at *
  have CE := Lib.hid (fun (W : World) (hf : Fr NoB w W) => eqints_any x.params y.params R1 R2 A B n m c d W (h1.fr hf fun _ _ => noB_no) (h2.fr hf fun _ _ => noB_no) hn hm)
  obtain ⟨x0, x1, x2, x3, xp, x5, x6⟩ := x
  obtain ⟨y0, y1, y2, y3, yp, y5, y6⟩ := y
  simp only at hv h1 h2 CE ⊢
  clear h1 h2
  have HV := Lib.hid hv
  clear hv
  have hfin : ∀ (X Y : World), Fr NoB X Y → True := fun _ _ _ => trivial
  clear hfin
  by_cases e0 : x0 = y0
  · subst e0
    by_cases e1 : x1 = y1
    · subst e1
      by_cases e2 : x2 = y2
      · subst e2
        by_cases e3 : x3 = y3
        · subst e3
          by_cases e5 : x5 = y5
          · subst e5
            by_cases e6 : x6 = y6
            · subst e6
              go_enter Tryd.func39, Tryd.ntmps39
              go_wp2_with
                (go_at_call 40
                 refine (CE.out _ ?hf).mono ?_
                 case hf => exact ((Fr.refl _ _).alloc _).alloc _
                 rintro e w1 ⟨rfl, hf1⟩)
              go_ret
              exact ⟨by rw [HV.out]; simp, (((Fr.refl _ _).alloc _).alloc _).trans hf1 fun _ _ h => h⟩
            · have t1 := str_ne e6
              have hvv : v = false := by rw [HV.out]; simp [e6]
              rw [hvv]
              clear HV hvv CE e6
              go_enter Tryd.func39, Tryd.ntmps39
              go_wp2
              go_ret
              exact ⟨rfl, ((Fr.refl _ _).alloc _).alloc _⟩
          · have t1 := str_ne e5
            have hvv : v = false := by rw [HV.out]; simp [e5]
            rw [hvv]
            clear HV hvv CE e5
            go_enter Tryd.func39, Tryd.ntmps39
            go_wp2
            go_ret
            exact ⟨rfl, ((Fr.refl _ _).alloc _).alloc _⟩
        · have t1 := bne_f e3
          have hvv : v = false := by rw [HV.out]; simp [e3]
          rw [hvv]
          clear HV hvv CE e3
          go_enter Tryd.func39, Tryd.ntmps39
          go_wp2
          go_ret
          exact ⟨rfl, ((Fr.refl _ _).alloc _).alloc _⟩
      · have t1 := bne_f e2
        have hvv : v = false := by rw [HV.out]; simp [e2]
        rw [hvv]
        clear HV hvv CE e2
        go_enter Tryd.func39, Tryd.ntmps39
        go_wp2
        go_ret
        exact ⟨rfl, ((Fr.refl _ _).alloc _).alloc _⟩
    · have t1 := bne_f e1
      have hvv : v = false := by rw [HV.out]; simp [e1]
      rw [hvv]
      clear HV hvv CE e1
      go_enter Tryd.func39, Tryd.ntmps39
      go_wp2
      go_ret
      exact ⟨rfl, ((Fr.refl _ _).alloc _).alloc _⟩
  · have t1 := bne_f e0
    have hvv : v = false := by rw [HV.out]; simp [e0]
    rw [hvv]
    clear HV hvv CE e0
    go_enter Tryd.func39, Tryd.ntmps39
    go_wp2
    go_ret
    exact ⟨rfl, ((Fr.refl _ _).alloc _).alloc _⟩
end Go.Proofs.YtopaeikddlpecaaDoor
