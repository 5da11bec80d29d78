/-
  strconv.Itoa and strings.Join by the kit's contracts, in this proof's own memory words. Conditions: the table of powers is laid; lists of at most 1048576 strings, 33554432 bytes.
-/
import Derived.Test.YtopaeikddlpecaaDoorWs
import Derived.Test.YtopaeikddlpecaaDoorApf
import Derived.Test.YtopaeikddlpecaaDoorSh
import Derived.Lib.AppendIntMem
namespace Go.Proofs.YtopaeikddlpecaaDoor
open Go.RowKit

/-- strconv's table of powers of ten is as it was laid -/
def Pow (w : World) : Prop := Lib.TabIs Tryd.prog w "internal/strconv.uint64pow10" .u64 Lib.pow10Tab
theorem Pow.fr {w w' : World} (h : Pow w) (hf : Fr NoB w w') : Pow w' := by
  unfold Pow Lib.TabIs World.var? at *
  cases hg : (Tryd.prog).globalNamed "internal/strconv.uint64pow10" with
  | none => simp [hg] at h
  | some g =>
    simp only [hg, Option.bind_some] at h ⊢
    have hlt : g < w.heap.size := by
      rcases Nat.lt_or_ge g w.heap.size with h' | h'
      · exact h'
      · simp [Array.getElem?_eq_none h'] at h
    rw [hf.block g hlt noB_no]
    exact h

theorem itoa_any (z : Int) (w : World) (h0 : -9223372036854775808 ≤ z) (h1 : z ≤ 9223372036854775807) (hP : Pow w) :
    Calls Tryd.prog 43 #[.int .i64 z] w fun e w' => e = .returned (.string ⟨(Lib.itoa z).toArray⟩) ∧ Fr NoB w w' := by
  refine (Tryd.strconv_Itoa z h0 h1 w hP).mono ?_
  rintro e w' ⟨rfl, k, os, rfl⟩
  exact ⟨rfl, Fr.of_below (Lib.below_grow w.heap.size w (Nat.le_refl _) k os) _⟩

def strs (xs : List ByteArray) : List Value := xs.map (.string ·)
theorem strs_length (xs : List ByteArray) : (strs xs).length = xs.length := List.length_map ..
theorem strs_append (xs ys : List ByteArray) : strs (xs ++ ys) = strs xs ++ strs ys := List.map_append
theorem str_info : (Tryd.prog.info? 9).map (fun i => (i.zero, i.size, i.bytes)) = some (some (.string ⟨#[]⟩), 1, 16) := by kernel_rfl

theorem join_any (l : List Int) (A : Option Addr) (n c : Nat) (w : World) {F : Nat → Prop} (h : Sl w F 9 1 A n c (strs (l.map fun z => ⟨(parD z).toArray⟩))) (hn : n ≤ 1048576) (hl : (joinP l).length ≤ 33554432) :
    Calls Tryd.prog 60 #[.slice A n c, .string ⟨#[59]⟩] w fun e w' => e = .returned (.string ⟨(joinP l).toArray⟩) ∧ Fr NoB w w' := by
  have hln : l.length = n := by have := h.1; rw [strs_length, List.length_map] at this; omega
  rcases h.2 with ⟨rfl, rfl, rfl⟩ | ⟨g, o, rfl, _, hs⟩
  · have hl0 : l = [] := List.eq_nil_of_length_eq_zero hln
    subst hl0
    refine (Tryd.strings_Join_none none 0 ⟨#[59]⟩ w).mono ?_
    rintro e w' ⟨rfl, rfl⟩
    exact ⟨rfl, Fr.refl _ _⟩
  · have hm : ((l.map fun z => (⟨(parD z).toArray⟩ : ByteArray)).map (·.data.toList)) = l.map parD := by simp
    have hx : (l.map fun z => (⟨(parD z).toArray⟩ : ByteArray)).length = n := by rw [List.length_map]; exact hln
    have hj : Lib.join ((l.map fun z => (⟨(parD z).toArray⟩ : ByteArray)).map (·.data.toList)) (⟨#[59]⟩ : ByteArray).data.toList = joinP l := by rw [hm]; rfl
    have hc := Tryd.strings_Join g o c (l.map fun z => ⟨(parD z).toArray⟩) ⟨#[59]⟩ w (fun j x hx => hs.cell j (.string x) (by simp only [strs, List.getElem?_map]; simp only [List.getElem?_map] at hx; rw [hx]; rfl)) hs.lt (by omega) (by rw [hx]; exact hs.le) (by rw [hj]; omega)
    rw [hx, hj] at hc
    refine hc.mono ?_
    rintro e w' ⟨rfl, hb⟩
    exact ⟨rfl, Fr.of_below hb _⟩
end Go.Proofs.YtopaeikddlpecaaDoor
