/-
  Own words on memory, used by all proofs of this seat: 'Fr F w w'' (only blocks in F, and new ones, have turned), 'Blk' (a block known whole), 'Sl' (a slice that is owned: it may start inside its block), 'Rd' (a slice that is read). Conditions: none; plain lemmas.
-/
import Derived.Below
import Derived.Laws.OwnMore
import Derived.Deep.AppendLies
import Derived.Deep.Draws
import Derived.Deep.MidRow
import Derived.ArgAppend
import Derived.Laws.Rows
import Derived.Lib.FrozenHead
namespace Go.Proofs.YtopaeikddlpecaaDoor
open Go.RowKit

/-! ### 1. What a step may have turned -/
structure Fr (F : Nat → Prop) (w w' : World) : Prop where
  os : w'.os = w.os
  tape : w'.tape = w.tape
  output : w'.output = w.output
  size : w.heap.size ≤ w'.heap.size
  block : ∀ k, k < w.heap.size → ¬ F k → w'.heap[k]? = w.heap[k]?

/-- Nothing at all may be written. -/
def NoB : Nat → Prop := fun _ => False

section
variable {F G : Nat → Prop} {a b c : World}
theorem Fr.refl (F : Nat → Prop) (w : World) : Fr F w w := ⟨rfl, rfl, rfl, Nat.le_refl _, fun _ _ _ => rfl⟩
theorem Fr.trans (h : Fr F a b) (k : Fr G b c) (hG : ∀ i, i < a.heap.size → G i → F i) : Fr F a c :=
  ⟨k.os.trans h.os, k.tape.trans h.tape, k.output.trans h.output, Nat.le_trans h.size k.size,
    fun i hi hn => (k.block i (Nat.lt_of_lt_of_le hi h.size) (fun hg => hn (hG i hi hg))).trans (h.block i hi hn)⟩
theorem Fr.mono (h : Fr F a b) (hF : ∀ i, i < a.heap.size → F i → G i) : Fr G a b :=
  ⟨h.os, h.tape, h.output, h.size, fun i hi hn => h.block i hi fun hf => hn (hF i hi hf)⟩
theorem Fr.drew (h : Fr F a b) : Fr F a b.drew := ⟨h.os, h.tape, h.output, h.size, h.block⟩
theorem Fr.drewN (h : Fr F a b) (n : Nat) : Fr F a (b.drewN n) := ⟨h.os, h.tape, h.output, h.size, h.block⟩
theorem Fr.alloc (h : Fr F a b) (o : Obj) : Fr F a (b.alloc o) :=
  ⟨h.os, h.tape, h.output, Nat.le_trans h.size (by simp), fun k hk hn => (Below.heap_alloc b o k (Nat.lt_of_lt_of_le hk h.size)).trans (h.block k hk hn)⟩
theorem Fr.setCell (h : Fr F a b) {p : Addr} (hp : p.block < a.heap.size → F p.block) (v : Value) : Fr F a (b.setCell p v) :=
  ⟨h.os, h.tape, h.output, by simpa using h.size, fun k hk hn => (Below.heap_setCell b p v k (by rintro rfl; exact hn (hp hk))).trans (h.block k hk hn)⟩
theorem Fr.setRow (h : Fr F a b) {g : Nat} (hp : g < a.heap.size → F g) (cs : Array Value) : Fr F a (b.setRow g cs) :=
  ⟨h.os, h.tape, h.output, by simpa using h.size, fun k hk hn => (setRow_other b g k cs (by rintro rfl; exact hn (hp hk))).trans (h.block k hk hn)⟩
theorem Fr.cell (h : Fr F a b) {p : Addr} (hp : p.block < a.heap.size) (hF : ¬ F p.block) : b.cell? p = a.cell? p := World.cell?_of_block (w := a) (h.block p.block hp hF)
theorem Fr.cell_some (h : Fr F a b) {p : Addr} {v : Value} (hc : a.cell? p = some v) (hF : ¬ F p.block) : b.cell? p = some v := (h.cell (World.block_lt_of_cell? a p hc) hF).trans hc
theorem Fr.frozen (h : Fr F a b) {p : Addr} (hp : p.block < a.heap.size) (hF : ¬ F p.block) : b.frozen? p = a.frozen? p := World.frozen?_of_block (w := a) (h.block p.block hp hF)
theorem Fr.below (h : Fr F a b) (hF : ∀ i, i < a.heap.size → ¬ F i) : Below a.heap.size a b := ⟨h.os, h.tape, h.output, h.size, fun k hk => h.block k hk (hF k hk)⟩
theorem Fr.of_below (h : Below a.heap.size a b) (F : Nat → Prop) : Fr F a b := ⟨h.os, h.tape, h.output, h.size, fun k hk _ => h.block k hk⟩
theorem Fr.grown (h : Fr F a b) {row : Option Nat} (hg : b.grownBy c row) (hr : ∀ k, row = some k → k < a.heap.size → F k) : Fr F a c :=
  ⟨hg.os.trans h.os, hg.tape.trans h.tape, hg.output.trans h.output, Nat.le_trans h.size hg.size,
    fun k hk hn => (hg.block k (Nat.lt_of_lt_of_le hk h.size) (fun e => hn (hr k e.symm hk))).trans (h.block k hk hn)⟩
end

/-! ### 2. A block that is known whole -/
def Blk (w : World) (g : Nat) (t : TypeId) (cs : Array Value) : Prop := w.heap[g]? = some (.cells cs t (0, 0))
section
variable {F : Nat → Prop} {w w' : World} {g : Nat} {t : TypeId} {cs : Array Value}
theorem Blk.lt (h : Blk w g t cs) : g < w.heap.size := (Array.getElem?_eq_some_iff.1 h).1
theorem Blk.cell (h : Blk w g t cs) (i : Nat) : w.cell? ⟨g, i, none⟩ = cs[i]? := cell_of_row w g i cs t (0, 0) h
theorem Blk.frozen (h : Blk w g t cs) (i : Nat) : w.frozen? ⟨g, i, none⟩ = false := frozen_of_row w g i cs t h
theorem Blk.new (w : World) (t : TypeId) (cs : Array Value) : Blk (w.alloc (.cells cs t)) w.heap.size t cs := heap_alloc_new w _
theorem Blk.drew (h : Blk w g t cs) : Blk w.drew g t cs := h
theorem Blk.drewN (h : Blk w g t cs) (n : Nat) : Blk (w.drewN n) g t cs := h
theorem Blk.alloc (h : Blk w g t cs) (o : Obj) : Blk (w.alloc o) g t cs := (Below.heap_alloc w o g h.lt).trans h
theorem Blk.put (h : Blk w g t cs) (i : Nat) (u : Value) : Blk (w.setCell ⟨g, i, none⟩ u) g t (cs.setIfInBounds i u) := heap_setCell_same w g i cs t u h
theorem Blk.far (h : Blk w g t cs) {p : Addr} (hp : g ≠ p.block) (u : Value) : Blk (w.setCell p u) g t cs := (Below.heap_setCell w p u g hp).trans h
theorem Blk.farRow (h : Blk w g t cs) {k : Nat} (hp : g ≠ k) (us : Array Value) : Blk (w.setRow k us) g t cs := (setRow_other w k g us hp).trans h
theorem Blk.fr (h : Blk w g t cs) (hf : Fr F w w') (hn : ¬ F g) : Blk w' g t cs := (hf.block g h.lt hn).trans h
theorem Blk.ne_ {g' : Nat} {t' : TypeId} {cs' : Array Value} (h : Blk w g t cs) (h' : Blk w g' t' cs') (hne : t ≠ t') : g ≠ g' := by
  rintro rfl
  unfold Blk at h h'
  rw [h] at h'
  injection h' with h'
  injection h' with _ ht
  exact hne ht
end

/-! ### 3. A slice that is owned: block g, from offset o on -/
/-- the slice value of a place -/
def slv (A : Option Addr) (n c : Nat) : Value := .slice A n c

structure SlAt (w : World) (e size : Nat) (g o n c : Nat) (xs : List Value) : Prop where
  there : ∃ cur fz, w.heap[g]? = some (.cells cur e fz) ∧ fz.2 ≤ o ∧ o + c * size ≤ cur.size ∧ (cur.toList.drop o).take (n * size) = xs
  le : n ≤ c
  cap : c ≤ maxLen

def Sl (w : World) (F : Nat → Prop) (e size : Nat) (A : Option Addr) (n c : Nat) (xs : List Value) : Prop :=
  xs.length = n * size ∧ ((A = none ∧ n = 0 ∧ c = 0) ∨ ∃ g o, A = some ⟨g, o, none⟩ ∧ F g ∧ SlAt w e size g o n c xs)

/-- a slice that is read: its blocks are R's -/
def Rd (w : World) (R : Nat → Prop) (size : Nat) (A : Option Addr) (n : Nat) (xs : List Value) : Prop :=
  xs.length = n * size ∧ (0 < n * size → ∃ g o, A = some ⟨g, o, none⟩ ∧ R g ∧ g < w.heap.size ∧ ∀ j u, xs[j]? = some u → w.cell? ⟨g, o + j, none⟩ = some u)

theorem add_plain' (g o j : Nat) : (⟨g, o, none⟩ : Addr).add j = ⟨g, o + j, none⟩ := by unfold Addr.add; split <;> simp_all
theorem block_add (a : Addr) (n : Nat) : (a.add n).block = a.block := by unfold Addr.add; split <;> rfl
theorem add_add' (a : Addr) (i j : Nat) : (a.add i).add j = a.add (i + j) := by
  unfold Addr.add
  by_cases hi : i = 0 <;> by_cases hj : j = 0 <;> simp [hi, hj, Nat.add_assoc]

section
variable {F G : Nat → Prop} {w w' : World} {e size : Nat} {A : Option Addr} {n c : Nat} {xs : List Value}
theorem SlAt.lt {g o : Nat} (h : SlAt w e size g o n c xs) : g < w.heap.size := by
  obtain ⟨⟨cur, fz, hh, _⟩, _⟩ := h
  exact (Array.getElem?_eq_some_iff.1 hh).1
theorem SlAt.same {g o : Nat} (h : SlAt w e size g o n c xs) (hb : w'.heap[g]? = w.heap[g]?) : SlAt w' e size g o n c xs := by
  obtain ⟨⟨cur, fz, hh, r⟩, h1, h2⟩ := h
  exact ⟨⟨cur, fz, hb.trans hh, r⟩, h1, h2⟩
theorem SlAt.cell {g o : Nat} (h : SlAt w e size g o n c xs) (j : Nat) (u : Value) (hu : xs[j]? = some u) : w.cell? ⟨g, o + j, none⟩ = some u := by
  obtain ⟨⟨cur, fz, hh, _, hs, ht⟩, hn, _⟩ := h
  rw [cell_of_row w g (o + j) cur e fz hh]
  rw [← ht, List.getElem?_take] at hu
  split at hu
  · simpa [List.getElem?_drop] using hu
  · cases hu
theorem SlAt.free {g o : Nat} (h : SlAt w e size g o n c xs) (j : Nat) : w.frozen? ⟨g, o + j, none⟩ = false := by
  obtain ⟨⟨cur, fz, hh, hz, _⟩, _⟩ := h
  obtain ⟨lo, hi⟩ := fz
  simp only [World.frozen?, hh]
  simp only at hz
  simp
  omega
theorem Sl.nil (w : World) (F : Nat → Prop) (e size : Nat) : Sl w F e size none 0 0 [] := ⟨by simp, .inl ⟨rfl, rfl, rfl⟩⟩
theorem Sl.len (h : Sl w F e size A n c xs) : xs.length = n * size := h.1
theorem Sl.le (h : Sl w F e size A n c xs) : n ≤ c ∧ c ≤ maxLen := by
  rcases h.2 with ⟨_, rfl, rfl⟩ | ⟨g, o, _, _, hs⟩
  · exact ⟨Nat.le_refl _, by simp [maxLen]⟩
  · exact ⟨hs.le, hs.cap⟩
theorem Sl.same (h : Sl w F e size A n c xs) (hb : ∀ g, F g → g < w.heap.size → w'.heap[g]? = w.heap[g]?) : Sl w' F e size A n c xs := by
  refine ⟨h.1, ?_⟩
  rcases h.2 with h0 | ⟨g, o, hA, hF, hs⟩
  · exact .inl h0
  · exact .inr ⟨g, o, hA, hF, hs.same (hb g hF hs.lt)⟩
theorem Sl.fr (h : Sl w F e size A n c xs) (hf : Fr G w w') (hd : ∀ i, F i → ¬ G i) : Sl w' F e size A n c xs := h.same fun g hF hlt => hf.block g hlt (hd g hF)
theorem Sl.mono (h : Sl w F e size A n c xs) (hF : ∀ g, F g → G g) : Sl w G e size A n c xs := by
  refine ⟨h.1, ?_⟩
  rcases h.2 with h0 | ⟨g, o, hA, hg, hs⟩
  · exact .inl h0
  · exact .inr ⟨g, o, hA, hF g hg, hs⟩
/-- the exact block -/
theorem Sl.only (h : Sl w F e size A n c xs) : Sl w (fun g => A.map Addr.block = some g) e size A n c xs := by
  refine ⟨h.1, ?_⟩
  rcases h.2 with h0 | ⟨g, o, rfl, hg, hs⟩
  · exact .inl h0
  · exact .inr ⟨g, o, rfl, rfl, hs⟩
theorem Sl.drew (h : Sl w F e size A n c xs) : Sl w.drew F e size A n c xs := h.same fun _ _ _ => rfl
theorem Sl.drewN (h : Sl w F e size A n c xs) (k : Nat) : Sl (w.drewN k) F e size A n c xs := h.same fun _ _ _ => rfl
theorem Sl.alloc (h : Sl w F e size A n c xs) (o : Obj) : Sl (w.alloc o) F e size A n c xs := h.same fun g _ hlt => Below.heap_alloc w o g hlt
theorem Sl.far (h : Sl w F e size A n c xs) {p : Addr} (hp : ¬ F p.block) (u : Value) : Sl (w.setCell p u) F e size A n c xs :=
  h.same fun g hF _ => Below.heap_setCell w p u g (by rintro rfl; exact hp hF)
theorem Sl.rd (h : Sl w F e size A n c xs) : Rd w F size A n xs := by
  refine ⟨h.1, fun hn => ?_⟩
  rcases h.2 with ⟨_, rfl, _⟩ | ⟨g, o, rfl, hF, hs⟩
  · simp at hn
  · exact ⟨_, _, rfl, hF, hs.lt, fun j u hu => hs.cell j u hu⟩

theorem Rd.nil (w : World) (R : Nat → Prop) (size : Nat) (A : Option Addr) : Rd w R size A 0 [] := ⟨by simp, fun h => by simp at h⟩
theorem Rd.same {R : Nat → Prop} (h : Rd w R size A n xs) (hsz : w.heap.size ≤ w'.heap.size) (hb : ∀ g, R g → g < w.heap.size → w'.heap[g]? = w.heap[g]?) : Rd w' R size A n xs := by
  refine ⟨h.1, fun hn => ?_⟩
  obtain ⟨g, o, hA, hR, hlt, hc⟩ := h.2 hn
  refine ⟨g, o, hA, hR, Nat.lt_of_lt_of_le hlt hsz, fun j u hu => ?_⟩
  have := hc j u hu
  rw [← this]
  exact World.cell?_of_block (w := w) (hb _ hR hlt)
theorem Rd.fr {R : Nat → Prop} (h : Rd w R size A n xs) (hf : Fr G w w') (hd : ∀ i, R i → ¬ G i) : Rd w' R size A n xs := h.same hf.size fun g hR hlt => hf.block g hlt (hd g hR)
theorem Rd.mono {R : Nat → Prop} (h : Rd w R size A n xs) (hR : ∀ g, g < w.heap.size → R g → G g) : Rd w G size A n xs := by
  refine ⟨h.1, fun hn => ?_⟩
  obtain ⟨g, o, hA, hr, hlt, hc⟩ := h.2 hn
  exact ⟨g, o, hA, hR _ hlt hr, hlt, hc⟩
theorem Rd.drew {R : Nat → Prop} (h : Rd w R size A n xs) : Rd w.drew R size A n xs := h
theorem Rd.drewN {R : Nat → Prop} (h : Rd w R size A n xs) (k : Nat) : Rd (w.drewN k) R size A n xs := h
theorem Rd.alloc {R : Nat → Prop} (h : Rd w R size A n xs) (o : Obj) : Rd (w.alloc o) R size A n xs := h.same (by simp) fun g _ hlt => Below.heap_alloc w o g hlt
theorem Rd.far {R : Nat → Prop} (h : Rd w R size A n xs) {p : Addr} (hp : ¬ R p.block) (u : Value) : Rd (w.setCell p u) R size A n xs :=
  h.same (by simp) fun g hR _ => Below.heap_setCell w p u g (by rintro rfl; exact hp hR)
/-- element j's cells -/
theorem Rd.at_ {R : Nat → Prop} (h : Rd w R 1 A n xs) {k : Nat} (hk : k < n) : ∃ g o u, A = some ⟨g, o, none⟩ ∧ g < w.heap.size ∧ xs[k]? = some u ∧ w.cell? ⟨g, o + k, none⟩ = some u := by
  obtain ⟨g, o, hA, _, hlt, hc⟩ := h.2 (by omega)
  have hl : k < xs.length := by have := h.1; omega
  exact ⟨g, o, xs[k], hA, hlt, List.getElem?_eq_getElem hl, hc k _ (List.getElem?_eq_getElem hl)⟩
theorem Rd.cut {R : Nat → Prop} (h : Rd w R size A n xs) {k cap : Nat} (hk : k ≤ n) (hc : n ≤ cap) :
    Rd w R size (if cap = k then A else A.map (·.add (k * size))) (n - k) (xs.drop (k * size)) := by
  refine ⟨by rw [List.length_drop, h.1, Nat.sub_mul], fun hn => ?_⟩
  have hkn : k ≠ cap := by rintro rfl; have : n = k := by omega
                           subst this; simp at hn
  have hpos : 0 < n * size := by
    have : (n - k) * size ≤ n * size := Nat.mul_le_mul_right _ (by omega)
    omega
  obtain ⟨g, o, rfl, hR, hlt, hcell⟩ := h.2 hpos
  rw [if_neg (by omega)]
  refine ⟨g, o + k * size, by simp [add_plain'], hR, hlt, fun j u hu => ?_⟩
  rw [Nat.add_assoc]
  exact hcell _ u (by rw [← hu, List.getElem?_drop])
theorem Rd.take {R : Nat → Prop} (h : Rd w R size A n xs) {k : Nat} (hk : k ≤ n) : Rd w R size A k (xs.take (k * size)) := by
  have hle : k * size ≤ n * size := Nat.mul_le_mul_right _ hk
  refine ⟨by rw [List.length_take, h.1]; omega, fun hn => ?_⟩
  obtain ⟨g, o, hA, hR, hlt, hc⟩ := h.2 (by omega)
  refine ⟨g, o, hA, hR, hlt, fun j u hu => hc j u ?_⟩
  rw [List.getElem?_take] at hu
  split at hu
  · exact hu
  · cases hu
theorem Sl.cut (h : Sl w F e size A n c xs) {k : Nat} (hk : k ≤ n) :
    Sl w F e size (if c = k then A else A.map (·.add (k * size))) (n - k) (c - k) (xs.drop (k * size)) := by
  refine ⟨by rw [List.length_drop, h.1, Nat.sub_mul], ?_⟩
  rcases h.2 with ⟨rfl, rfl, rfl⟩ | ⟨g, o, rfl, hF, hs⟩
  · exact .inl ⟨by simp, by omega, by omega⟩
  · obtain ⟨⟨cur, fz, hh, hz, hsz, ht⟩, hn, hcap⟩ := hs
    by_cases hck : c = k
    · have hnk : n = k := by omega
      subst hnk
      subst hck
      rw [if_pos rfl]
      exact .inr ⟨g, o, rfl, hF, ⟨cur, fz, hh, hz, by rw [Nat.sub_self, Nat.zero_mul]; omega, by simp [List.drop_of_length_le, h.1]⟩, by omega, by omega⟩
    · rw [if_neg hck]
      refine .inr ⟨g, o + k * size, by simp [add_plain'], hF, ⟨cur, fz, hh, by omega, ?_, ?_⟩, by omega, by omega⟩
      · have : k * size + (c - k) * size = c * size := by rw [← Nat.add_mul]; congr 1; omega
        omega
      · rw [← ht, List.drop_take, List.drop_drop, Nat.sub_mul]
theorem Sl.take (h : Sl w F e size A n c xs) {k : Nat} (hk : k ≤ n) : Sl w F e size A k c (xs.take (k * size)) := by
  have hle : k * size ≤ n * size := Nat.mul_le_mul_right _ hk
  refine ⟨by rw [List.length_take, h.1]; omega, ?_⟩
  rcases h.2 with ⟨rfl, rfl, rfl⟩ | ⟨g, o, rfl, hF, hs⟩
  · exact .inl ⟨rfl, by omega, rfl⟩
  · obtain ⟨⟨cur, fz, hh, hz, hsz, ht⟩, hn, hcap⟩ := hs
    exact .inr ⟨g, o, rfl, hF, ⟨cur, fz, hh, hz, hsz, by rw [← ht, List.take_take, Nat.min_eq_left hle]⟩, by omega, hcap⟩
/-- a new row -/
theorem Sl.new (w : World) {F : Nat → Prop} (hF : F w.heap.size) (e size : Nat) (cs : Array Value) (n c : Nat) (hn : n ≤ c) (hc : c ≤ maxLen) (hs : cs.size = c * size) :
    Sl (w.alloc (.cells cs e)) F e size (some ⟨w.heap.size, 0, none⟩) n c (cs.toList.take (n * size)) := by
  have hle : n * size ≤ c * size := Nat.mul_le_mul_right _ hn
  refine ⟨by rw [List.length_take, Array.length_toList, hs]; omega, .inr ⟨_, 0, rfl, hF, ⟨cs, (0, 0), heap_alloc_new w _, Nat.le_refl _, by omega, by simp⟩, hn, hc⟩⟩
/-- a store into element cell j -/
theorem Sl.put (h : Sl w F e size A n c xs) {g o : Nat} (hA : A = some ⟨g, o, none⟩) (j : Nat) (u : Value) :
    Sl (w.setCell ⟨g, o + j, none⟩ u) F e size A n c (xs.set j u) := by
  refine ⟨by rw [List.length_set, h.1], ?_⟩
  rcases h.2 with ⟨rfl, _⟩ | ⟨g', o', hA', hF, hs⟩
  · cases hA
  · rw [hA] at hA'
    injection hA' with hA'
    injection hA' with h1 h2
    subst h1
    subst h2
    obtain ⟨⟨cur, fz, hh, hz, hsz, ht⟩, hn, hcap⟩ := hs
    refine .inr ⟨g, o, hA, hF, ⟨cur.setIfInBounds (o + j) u, fz, ?_, hz, by simpa using hsz, ?_⟩, hn, hcap⟩
    · simp [World.setCell, Array.getElem?_modify, hh]
    · rw [← ht]
      simp only [Array.toList_setIfInBounds]
      rw [List.drop_set, if_neg (by omega), Nat.add_sub_cancel_left, List.take_set] 
end
end Go.Proofs.YtopaeikddlpecaaDoor
