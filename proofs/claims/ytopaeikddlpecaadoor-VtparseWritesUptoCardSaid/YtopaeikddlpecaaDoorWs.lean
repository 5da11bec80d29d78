/-
  Plain: the bytes that an action is written as. Plain: no program in sight.
-/
import Derived.Test.YtopaeikddlpecaaDoorPr
import Derived.Lib.Join
import Derived.Lib.ItoaLen
namespace Go.Proofs.YtopaeikddlpecaaDoor
open Go.RowKit

/-- bytes as numbers -/
def nums8 (l : List UInt8) : List Int := l.map fun b => (b.toNat : Int)
def bnum (s : ByteArray) : List Int := nums8 s.data.toList
/-- a parameter's bytes: none where it is absent -/
def parD (z : Int) : List UInt8 := if z = -1 then [] else Lib.itoa z
def joinP (l : List Int) : List UInt8 := Lib.join (l.map parD) [59]
/-- the bytes of an action -/
def writeL (p : PAct) : List Int :=
  if p.kind = 1 then encL p.rune
  else if p.kind = 2 then [p.fin]
  else if p.kind = 3 then 27 :: bnum p.inter ++ [p.fin]
  else if p.kind = 4 then [27, 91] ++ (if p.priv = 0 then [] else [p.priv]) ++ nums8 (joinP p.params) ++ bnum p.inter ++ [p.fin]
  else if p.kind = 5 then 27 :: 93 :: bnum p.text ++ [7]
  else []

theorem nums8_append (a b : List UInt8) : nums8 (a ++ b) = nums8 a ++ nums8 b := List.map_append
theorem nums8_length (a : List UInt8) : (nums8 a).length = a.length := List.length_map ..
theorem bnum_length (s : ByteArray) : (bnum s).length = s.size := by simp [bnum, nums8]
theorem bnum_append (a b : ByteArray) : bnum (a ++ b) = bnum a ++ bnum b := by simp [bnum, nums8]
theorem bnum_mk (l : List UInt8) : bnum ⟨l.toArray⟩ = nums8 l := rfl
theorem size_mk (l : List UInt8) : (⟨l.toArray⟩ : ByteArray).size = l.length := rfl
theorem joinP_nil : joinP [] = [] := rfl
theorem joinP_one (x : Int) : joinP [x] = parD x := Lib.join_one _ _
theorem joinP_snoc (l : List Int) (x : Int) (h : l ≠ []) : joinP (l ++ [x]) = joinP l ++ 59 :: parD x := by
  cases l with
  | nil => exact absurd rfl h
  | cons y r =>
    simp only [joinP, List.map_cons, List.cons_append, List.map_append, Lib.join_cons, Lib.joinTail]
    simp [List.append_assoc]
theorem parD_length {z : Int} (h0 : -9223372036854775808 ≤ z) (h1 : z ≤ 9223372036854775807) : (parD z).length ≤ 21 := by
  unfold parD
  split
  · simp
  · exact Lib.itoa_length_le z h0 h1
@[elab_as_elim] theorem rev_ind {α : Type} {motive : List α → Prop} (l : List α) (nil : motive []) (append_singleton : ∀ l x, motive l → motive (l ++ [x])) : motive l := by
  have : ∀ r : List α, motive r.reverse := by
    intro r
    induction r with
    | nil => exact nil
    | cons a r ih => rw [List.reverse_cons]; exact append_singleton _ _ ih
  have h := this l.reverse
  rwa [List.reverse_reverse] at h
theorem joinP_length (l : List Int) (h : ∀ z ∈ l, -9223372036854775808 ≤ z ∧ z ≤ 9223372036854775807) : (joinP l).length ≤ 22 * l.length := by
  induction l using rev_ind with
  | nil => simp [joinP_nil]
  | append_singleton l x ih =>
    have hx := parD_length (h x (by simp)).1 (h x (by simp)).2
    have ih := ih fun z hz => h z (by simp [hz])
    by_cases hl : l = []
    · subst hl
      rw [List.nil_append, joinP_one]
      simp
      omega
    · rw [joinP_snoc l x hl]
      simp only [List.length_append, List.length_cons, List.length_nil]
      omega
end Go.Proofs.YtopaeikddlpecaaDoor
