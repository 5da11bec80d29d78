/-
  Own words: lists of numbers in memory, the decoder ('RepD'), blocks that bear no element of a type ('Free'). Conditions: none; plain lemmas.
-/
import Derived.Test.YtopaeikddlpecaaDoorApp
import Derived.Test.YtopaeikddlpecaaDoorProg
import Derived.WalkKit
import Derived.KernelRfl
namespace Go.Proofs.YtopaeikddlpecaaDoor
open Go.RowKit

def ints (l : List Int) : List Value := l.map (.int .i64 ·)
def runes (l : List Int) : List Value := l.map (.int .i32 ·)
def byts (l : List Int) : List Value := l.map (.int .u8 ·)
theorem ints_length (l : List Int) : (ints l).length = l.length := by simp [ints]
theorem runes_length (l : List Int) : (runes l).length = l.length := by simp [runes]
theorem byts_length (l : List Int) : (byts l).length = l.length := by simp [byts]
theorem ints_append (l r : List Int) : ints (l ++ r) = ints l ++ ints r := by simp [ints]
theorem runes_append (l r : List Int) : runes (l ++ r) = runes l ++ runes r := by simp [runes]
theorem byts_append (l r : List Int) : byts (l ++ r) = byts l ++ byts r := by simp [byts]
theorem ints_one {l : List Int} : ∀ u ∈ ints l, u.oneCell' = true := by intro u h; simp only [ints, List.mem_map] at h; obtain ⟨_, _, rfl⟩ := h; rfl
theorem runes_one {l : List Int} : ∀ u ∈ runes l, u.oneCell' = true := by intro u h; simp only [runes, List.mem_map] at h; obtain ⟨_, _, rfl⟩ := h; rfl
theorem byts_one {l : List Int} : ∀ u ∈ byts l, u.oneCell' = true := by intro u h; simp only [byts, List.mem_map] at h; obtain ⟨_, _, rfl⟩ := h; rfl
theorem ints_at {l : List Int} {k : Nat} (h : k < l.length) : (ints l)[k]? = some (.int .i64 (l.getD k 0)) := by simp [ints, h, List.getD_eq_getElem?_getD]
theorem runes_at {l : List Int} {k : Nat} (h : k < l.length) : (runes l)[k]? = some (.int .i32 (l.getD k 0)) := by simp [runes, h, List.getD_eq_getElem?_getD]
theorem byts_at {l : List Int} {k : Nat} (h : k < l.length) : (byts l)[k]? = some (.int .u8 (l.getD k 0)) := by simp [byts, h, List.getD_eq_getElem?_getD]

/-! ### the decoder -/
def RepD (w : World) (F : Nat → Prop) (g : Nat) (l : List Int) : Prop :=
  ∃ A n c, Blk w g 71 #[.bool true, .slice A n c] ∧ F g ∧ Sl w F 5 1 A n c (byts l)

section
variable {w w' : World} {F G : Nat → Prop} {g : Nat}
theorem RepD.fr {l : List Int} (h : RepD w F g l) (hf : Fr G w w') (hd : ∀ i, F i → ¬ G i) : RepD w' F g l := by
  obtain ⟨A, n, c, hb, hF, hs⟩ := h
  exact ⟨A, n, c, hb.fr hf (hd g hF), hF, hs.fr hf hd⟩
theorem RepD.mono {l : List Int} (h : RepD w F g l) (hF : ∀ k, F k → G k) : RepD w G g l := by
  obtain ⟨A, n, c, hb, h0, hs⟩ := h
  exact ⟨A, n, c, hb, hF g h0, hs.mono hF⟩

/-- no block of X bears elements of type e -/
def Free (w : World) (X : Nat → Prop) (e : TypeId) : Prop := ∀ k, X k → ∀ cur fz, w.heap[k]? ≠ some (.cells cur e fz)
theorem Free.blk {t e : TypeId} {cs : Array Value} (hb : Blk w g t cs) (hne : t ≠ e) : Free w (· = g) e := by
  rintro k rfl cur fz hh
  unfold Blk at hb
  rw [hb] at hh
  injection hh with hh
  injection hh with _ ht
  exact hne ht
theorem Free.own {e e' : TypeId} {size n c : Nat} {A : Option Addr} {xs : List Value} (hs : Sl w F e' size A n c xs) (hne : e' ≠ e) : Free w (Own A) e := by
  intro k hk cur fz hh
  rcases hs.2 with ⟨rfl, _⟩ | ⟨g', o, rfl, _, ⟨⟨cur', fz', hh', _⟩, _⟩⟩
  · cases hk
  · have : g' = k := by injection hk
    subst this
    rw [hh'] at hh
    injection hh with hh
    injection hh with _ ht
    exact hne ht
theorem Sl.carry {X : Nat → Prop} {e size n c : Nat} {A : Option Addr} {xs : List Value} (h : Sl w F e size A n c xs) (hf : Fr X w w') (hX : Free w X e) : Sl w' F e size A n c xs := by
  refine ⟨h.1, ?_⟩
  rcases h.2 with h0 | ⟨g', o, hA, hF, hat⟩
  · exact .inl h0
  · refine .inr ⟨g', o, hA, hF, hat.same (hf.block g' hat.lt fun hx => ?_)⟩
    obtain ⟨⟨cur, fz, hh, _⟩, _⟩ := hat
    exact hX g' hx cur fz hh
theorem Blk.carry {X : Nat → Prop} {t : TypeId} {cs : Array Value} (h : Blk w g t cs) (hf : Fr X w w') (hX : Free w X t) : Blk w' g t cs :=
  (hf.block g h.lt fun hx => hX g hx cs (0, 0) h).trans h
theorem RepD.carry {X : Nat → Prop} {l : List Int} (h : RepD w F g l) (hf : Fr X w w') (hX : Free w X 71) (hX' : Free w X 5) : RepD w' F g l := by
  obtain ⟨A, n, c, hb, hF, hs⟩ := h
  exact ⟨A, n, c, hb.carry hf hX, hF, hs.carry hf hX'⟩

end
end Go.Proofs.YtopaeikddlpecaaDoor
