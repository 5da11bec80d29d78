/-
  append onto a slice of bytes that a conversion from a string may have made (its block bears a frozen mark behind its end): from a slice that is read, from one new byte, from a string. Conditions: the new length is at most 2^47.
-/
import Derived.Test.YtopaeikddlpecaaDoorApp
import Derived.Test.YtopaeikddlpecaaDoorPrW
import Derived.Lib.AppendStr
import Derived.Lib.FrozenHead
namespace Go.Proofs.YtopaeikddlpecaaDoor
open Go.RowKit

theorem run_storeCells_atT (P : Program) (g o : Nat) (t : TypeId) (fz : Nat × Nat) : ∀ (vs : List Value) (i : Nat) (cur : Array Value) (w : World), w.heap[g]? = some (.cells cur t fz) → (fz.2 ≤ o + i ∨ o + i + vs.length ≤ fz.1) → o + i + vs.length ≤ cur.size → (∀ v ∈ vs, v.oneCell' = true) →
    (storeCells ⟨g, o, none⟩ vs i).run P w = .ok () (w.setRow g (cur.toList.take (o + i) ++ vs ++ cur.toList.drop (o + i + vs.length)).toArray)
  | [], i, cur, w, hg, _, _, _ => by
    simp only [storeCells, List.append_nil, List.length_nil, Nat.add_zero, List.take_append_drop, Array.toArray_toList]
    rw [setRow_self w g cur t fz hg]
    rfl
  | v :: rest, i, cur, w, hg, hfz, hl, h1 => by
    have hi : o + i < cur.size := by simp at hl; omega
    have hadd : (⟨g, o, none⟩ : Addr).add i = ⟨g, o + i, none⟩ := add_plain' _ _ _
    have hcell : w.cell? ⟨g, o + i, none⟩ = some cur[o + i] := by simp [World.cell?, hg, hi]
    have hfro : w.frozen? ⟨g, o + i, none⟩ = false := by
      obtain ⟨lo, hi'⟩ := fz
      simp only [World.frozen?, hg]
      simp only [List.length_cons] at hfz
      simp
      omega
    have hst : (store ((⟨g, o, none⟩ : Addr).add i) v).run P w = .ok () (w.setRow g (cur.setIfInBounds (o + i) v)) := by
      rw [hadd, run_store P w _ v _ (h1 v (by simp)), hcell]
      simp [hfro, setCell_eq_setRow w g (o + i) cur t fz v hg]
    have ih := run_storeCells_atT P g o t fz rest (i + 1) (cur.setIfInBounds (o + i) v) (w.setRow g (cur.setIfInBounds (o + i) v)) (setRow_heap w g cur _ t _ hg) (by simp only [List.length_cons] at hfz; omega) (by simp at hl ⊢; omega) (fun x hx => h1 x (by simp [hx]))
    simp only [storeCells, Sem.run_bind, hst, Result.andThen_ok, ih, setRow_setRow]
    congr 3
    have e := list_seg_step cur.toList (o + i) v rest (by simp at hl ⊢; omega)
    simpa [Array.toList_setIfInBounds, Nat.add_assoc] using e

/-- a slice of bytes at its block's start; the frozen part, if any, lies behind its capacity -/
structure ByAt (w : World) (e g n c : Nat) (xs : List Value) : Prop where
  there : ∃ cur fz, w.heap[g]? = some (.cells cur e fz) ∧ (fz.2 ≤ 0 ∨ c ≤ fz.1) ∧ c ≤ cur.size ∧ cur.toList.take n = xs
  le : n ≤ c
  cap : c ≤ maxLen
def By (w : World) (e : Nat) (A : Option Addr) (n c : Nat) (xs : List Value) : Prop :=
  xs.length = n ∧ ((A = none ∧ n = 0 ∧ c = 0) ∨ ∃ g, A = some ⟨g, 0, none⟩ ∧ ByAt w e g n c xs)
theorem By.nil (w : World) (e : Nat) : By w e none 0 0 [] := ⟨rfl, .inl ⟨rfl, rfl, rfl⟩⟩
theorem ByAt.lt {w : World} {e g n c : Nat} {xs : List Value} (h : ByAt w e g n c xs) : g < w.heap.size := by
  obtain ⟨⟨cur, fz, hh, _⟩, _⟩ := h
  exact (Array.getElem?_eq_some_iff.1 hh).1
theorem ByAt.cell {w : World} {e g n c : Nat} {xs : List Value} (h : ByAt w e g n c xs) (j : Nat) (u : Value) (hu : xs[j]? = some u) : w.cell? ⟨g, j, none⟩ = some u := by
  obtain ⟨⟨cur, fz, hh, _, _, ht⟩, _⟩ := h
  rw [cell_of_row w g j cur e fz hh]
  rw [← ht, List.getElem?_take] at hu
  split at hu
  · simpa using hu
  · cases hu
theorem By.len {w : World} {e n c : Nat} {A : Option Addr} {xs : List Value} (h : By w e A n c xs) : xs.length = n := h.1
theorem By.rd {w : World} {e n c : Nat} {A : Option Addr} {xs : List Value} (h : By w e A n c xs) : Rd w (Own A) 1 A n xs := by
  refine ⟨by rw [h.1, Nat.mul_one], fun hn => ?_⟩
  rcases h.2 with ⟨_, rfl, _⟩ | ⟨g, rfl, hs⟩
  · simp at hn
  · exact ⟨g, 0, rfl, rfl, hs.lt, fun j u hu => by rw [Nat.zero_add]; exact hs.cell j u hu⟩
theorem By.fr {w w' : World} {e n c : Nat} {A : Option Addr} {xs : List Value} {G : Nat → Prop} (h : By w e A n c xs) (hf : Fr G w w') (hd : ∀ i, Own A i → ¬ G i) : By w' e A n c xs := by
  refine ⟨h.1, ?_⟩
  rcases h.2 with h0 | ⟨g, rfl, hs⟩
  · exact .inl h0
  · have hb := hf.block g hs.lt (hd g rfl)
    obtain ⟨⟨cur, fz, hh, r⟩, h1, h2⟩ := hs
    exact .inr ⟨g, rfl, ⟨cur, fz, hb.trans hh, r⟩, h1, h2⟩
theorem By.inB {w : World} {e n c : Nat} {A : Option Addr} {xs : List Value} (h : By w e A n c xs) {k : Nat} (hk : Own A k) : k < w.heap.size := by
  rcases h.2 with ⟨rfl, _⟩ | ⟨g, rfl, hs⟩
  · cases hk
  · have : g = k := by injection hk
    exact this ▸ hs.lt
theorem By.new (w : World) (e : Nat) (cs : Array Value) (n c : Nat) (hn : n ≤ c) (hc : c ≤ maxLen) (hs : cs.size = c) :
    By (w.alloc (.cells cs e)) e (some ⟨w.heap.size, 0, none⟩) n c (cs.toList.take n) := by
  refine ⟨by rw [List.length_take, Array.length_toList, hs]; omega, .inr ⟨_, rfl, ⟨cs, (0, 0), heap_alloc_new w _, .inl (Nat.le_refl _), by omega, rfl⟩, hn, hc⟩⟩

/-- a string's bytes, converted -/
theorem by_bytesWorld (w : World) (e : Nat) (s : ByteArray) (hs : s.size ≤ 140737488355328) :
    By (Lib.bytesWorld w e s) e (some ⟨w.heap.size, 0, none⟩) s.size (grownCap w s.size 0 e) (byts (s.data.toList.map fun b => (b.toNat : Int))) := by
  have hge := grownCap_ge w s.size 0 e
  have hcm : grownCap w s.size 0 e ≤ maxLen := grownCap_le_maxLen w s.size 0 e (by simp only [maxLen]; omega)
  have hsz : (Lib.bytesCells w e s).size = grownCap w s.size 0 e := by
    have : s.data.size = s.size := rfl
    simp [Lib.bytesCells, this]
    omega
  refine ⟨by simp [byts], .inr ⟨_, rfl, ⟨_, _, Lib.bytesWorld_at_new w e s, .inr (by rw [hsz]; exact Nat.le_refl _), by rw [hsz]; exact Nat.le_refl _, ?_⟩, hge, hcm⟩⟩
  have hl : (s.data.toList.map fun b : UInt8 => Value.int .u8 b.toNat).length = s.size := by simp
  have : (Lib.bytesCells w e s).toList = (s.data.toList.map fun b : UInt8 => Value.int .u8 b.toNat) ++ List.replicate (grownCap w s.size 0 e - s.size) (.int .u8 0) := by simp [Lib.bytesCells]
  rw [this, ← hl, List.take_left]
  simp [byts]

section
variable {P : Program} (w : World)
theorem run_append_by (t ty e : TypeId) (i : TypeInfo) (ht : P.underlying t = some (.slice e)) (hi : P.info? e = some i) (hz : i.zero = some (.int .u8 0)) (hsize : i.size = 1) (hby : i.bytes = 1)
    {R : Nat → Prop} {A : Option Addr} {n c : Nat} {xs : List Value} (h : By w e A n c xs)
    {B : Option Addr} {m c2 : Nat} {news : List Value} (hr : Rd w R 1 B m news) (h1 : ∀ u ∈ news, u.oneCell' = true) (hb : n + m ≤ 140737488355328) :
    ∃ A' c' w', (Builtin.append_ #[t, t] ty #[.slice A n c, .slice B m c2]).run P w = .ok (.slice A' (n + m) c') w' ∧ Fr (Own A) w w' ∧ By w' e A' (n + m) c' (xs ++ news) ∧
      (A' = A ∨ A' = some ⟨w.heap.size, 0, none⟩) := by
  have hml : news.length = m := by have := hr.1; omega
  have h63 : n + m ≤ maxLen := by simp only [maxLen]; omega
  have hm0 : m = 0 → news = [] := fun h0 => List.eq_nil_of_length_eq_zero (by omega)
  have hnews : 0 < m → ∃ ad, B = some ad ∧ ∀ j u, news[j]? = some u → w.cell? (ad.add j) = some u := fun hp => by
    obtain ⟨g, o, hB, _, _, hc⟩ := hr.2 (by omega)
    exact ⟨_, hB, fun j u hu => by rw [add_plain']; exact hc j u hu⟩
  have hlen : (xs ++ news).length = n + m := by rw [List.length_append, h.1, hml]
  have grown : ∀ (old : Nat), old < n + m →
      Fr (Own A) w (w.drew.alloc (.cells (xs.toArray ++ news.toArray ++ Builtin.zeroCells (Value.int .u8 0).cells (grownCap w (n + m) old e - (n + m))) e)) ∧
      By (w.drew.alloc (.cells (xs.toArray ++ news.toArray ++ Builtin.zeroCells (Value.int .u8 0).cells (grownCap w (n + m) old e - (n + m))) e)) e (some ⟨w.heap.size, 0, none⟩) (n + m) (grownCap w (n + m) old e) (xs ++ news) := by
    intro old ho
    have hge := grownCap_ge w (n + m) old e
    have hcm : grownCap w (n + m) old e ≤ maxLen := grownCap_le_maxLen w (n + m) old e h63
    refine ⟨((Fr.refl _ w).drew).alloc _, ?_⟩
    have hz1 : (Value.int IntKind.u8 0).cells.size = 1 := rfl
    have hs := By.new w.drew e (xs.toArray ++ news.toArray ++ Builtin.zeroCells (Value.int .u8 0).cells (grownCap w (n + m) old e - (n + m))) (n + m) (grownCap w (n + m) old e) hge hcm (by
      simp only [Array.size_append, List.size_toArray, size_zeroCells, hz1, h.1, hml]
      omega)
    have ht : (xs.toArray ++ news.toArray ++ Builtin.zeroCells (Value.int .u8 0).cells (grownCap w (n + m) old e - (n + m))).toList.take (n + m) = xs ++ news := by
      simp only [Array.toList_append]
      rw [← hlen]
      exact List.take_left
    rw [ht] at hs
    exact hs
  rcases h.2 with ⟨rfl, rfl, rfl⟩ | ⟨g, rfl, hs⟩
  · have hx : xs = [] := List.eq_nil_of_length_eq_zero h.1
    subst hx
    rcases Nat.eq_zero_or_pos m with hm | hm
    · have hn := hm0 hm
      subst hm
      subst hn
      refine ⟨none, 0, w, ?_, Fr.refl _ _, By.nil _ _, .inl rfl⟩
      cases B <;> simp [Builtin.append_, run_underlying ht, sizeOf, typeInfo, hi, Builtin.lenOf, Builtin.firstCells, loadCells, loadCellsFrom]
    · obtain ⟨ad, rfl, hc⟩ := hnews hm
      have hrun := run_append_nil (P := P) w t ty e i (.int .u8 0) ht hi hz ad m c2 news (by rw [hsize]; omega) hc hm (by omega) (by rw [hby]; omega)
      have hgr := grown 0 (by omega)
      simp only [Nat.zero_add, List.nil_append, Array.empty_append] at hgr ⊢
      exact ⟨_, _, _, hrun, hgr.1, hgr.2, .inr rfl⟩
  · obtain ⟨⟨cur, fz, hh, hz', hfit, ht'⟩, hnc, hcap⟩ := hs
    by_cases hroom : n + m ≤ c
    · have hst := run_storeCells_atT P g n e fz news 0 cur w hh (by omega) (by omega) h1
      simp only [Nat.add_zero] at hst
      have hrun : (Builtin.append_ #[t, t] ty #[.slice (some ⟨g, 0, none⟩) n c, .slice B m c2]).run P w = .ok (.slice (some ⟨g, 0, none⟩) (n + m) c) (w.setRow g (cur.toList.take n ++ news ++ cur.toList.drop (n + news.length)).toArray) := by
        rcases Nat.eq_zero_or_pos m with hm | hm
        · have hn := hm0 hm
          subst hm
          subst hn
          have e3 : (cur.toList.take n ++ [] ++ cur.toList.drop (n + ([] : List Value).length)).toArray = cur := by simp
          rw [e3, setRow_self w g cur e fz hh]
          cases B <;> simp [Builtin.append_, run_underlying ht, sizeOf, typeInfo, hi, Builtin.lenOf, Builtin.firstCells, hnc, loadCells, loadCellsFrom, storeCells]
        · obtain ⟨ad, rfl, hc⟩ := hnews hm
          have hf := run_firstCells_some (P := P) w i.size m ad m c2 news (by rw [hsize]; omega) hc
          have e1 : (⟨g, 0, none⟩ : Addr).add (n * 1) = ⟨g, n, none⟩ := by rw [add_plain']; simp
          rw [hsize] at hf
          simp only [Nat.mul_one] at e1
          simp [Builtin.append_, run_underlying ht, sizeOf, typeInfo, hi, hsize, Builtin.lenOf, hroom, hf, e1, hst]
      refine ⟨_, _, _, hrun, (Fr.refl (Own (some ⟨g, 0, none⟩)) w).setRow (g := g) (fun _ => rfl) _, ⟨hlen, .inr ⟨g, rfl, ⟨(cur.toList.take n ++ news ++ cur.toList.drop (n + news.length)).toArray, fz, ?_, hz', ?_, ?_⟩, hroom, hcap⟩⟩, .inl rfl⟩
      · exact setRow_heap w g cur _ e _ hh
      · simp only [List.size_toArray, List.length_append, List.length_take, List.length_drop, Array.length_toList]
        omega
      · show (cur.toList.take n ++ news ++ cur.toList.drop (n + news.length)).take (n + m) = xs ++ news
        rw [ht', ← hlen]
        exact List.take_left
    · have hm : 0 < m := by omega
      obtain ⟨ad, rfl, hc⟩ := hnews hm
      have holds : ∀ j u, xs[j]? = some u → w.cell? ((⟨g, 0, none⟩ : Addr).add j) = some u := fun j u hu => by
        rw [add_plain', Nat.zero_add]
        exact ByAt.cell ⟨⟨cur, fz, hh, hz', hfit, ht'⟩, hnc, hcap⟩ j u hu
      have hrun := run_append_grow (P := P) w t ty e i (.int .u8 0) ht hi hz ⟨g, 0, none⟩ n c xs (by rw [hsize, h.1, Nat.mul_one]) holds ad m c2 news (by rw [hsize]; omega) hc (by omega) (by omega) (growslice_fits (by omega) (by rw [hby]; omega))
      have hgr := grown c (by omega)
      exact ⟨_, _, _, hrun, hgr.1, hgr.2, .inr rfl⟩

theorem strCells_byts (s : ByteArray) : Lib.strCells s = byts (s.data.toList.map fun b => (b.toNat : Int)) := by simp [Lib.strCells, byts]

theorem run_append_by_str (t u ty e : TypeId) (i : TypeInfo) (ht : P.underlying t = some (.slice e)) (hu : P.underlying u = some .string) (hi : P.info? e = some i) (hz : i.zero = some (.int .u8 0)) (hsize : i.size = 1) (hby : i.bytes = 1)
    {A : Option Addr} {n c : Nat} {xs : List Value} (h : By w e A n c xs) (s : ByteArray) (hb : n + s.size ≤ 140737488355328) :
    ∃ A' c' w', (Builtin.append_ #[t, u] ty #[.slice A n c, .string s]).run P w = .ok (.slice A' (n + s.size) c') w' ∧ Fr (Own A) w w' ∧ By w' e A' (n + s.size) c' (xs ++ Lib.strCells s) ∧
      (A' = A ∨ A' = some ⟨w.heap.size, 0, none⟩) := by
  have hml := Lib.strCells_length s
  have h63 : n + s.size ≤ maxLen := by simp only [maxLen]; omega
  have h63' : n + s.size ≤ 9223372036854775807 := by omega
  have hlen : (xs ++ Lib.strCells s).length = n + s.size := by rw [List.length_append, h.1, hml]
  have grown : ∀ (old : Nat), old < n + s.size →
      Fr (Own A) w (w.drew.alloc (.cells (xs.toArray ++ (Lib.strCells s).toArray ++ Builtin.zeroCells (Value.int .u8 0).cells (grownCap w (n + s.size) old e - (n + s.size))) e)) ∧
      By (w.drew.alloc (.cells (xs.toArray ++ (Lib.strCells s).toArray ++ Builtin.zeroCells (Value.int .u8 0).cells (grownCap w (n + s.size) old e - (n + s.size))) e)) e (some ⟨w.heap.size, 0, none⟩) (n + s.size) (grownCap w (n + s.size) old e) (xs ++ Lib.strCells s) := by
    intro old ho
    have hge := grownCap_ge w (n + s.size) old e
    have hcm : grownCap w (n + s.size) old e ≤ maxLen := grownCap_le_maxLen w (n + s.size) old e h63
    refine ⟨((Fr.refl _ w).drew).alloc _, ?_⟩
    have hz1 : (Value.int IntKind.u8 0).cells.size = 1 := rfl
    have hs := By.new w.drew e (xs.toArray ++ (Lib.strCells s).toArray ++ Builtin.zeroCells (Value.int .u8 0).cells (grownCap w (n + s.size) old e - (n + s.size))) (n + s.size) (grownCap w (n + s.size) old e) hge hcm (by
      simp only [Array.size_append, List.size_toArray, size_zeroCells, hz1, h.1, hml]
      omega)
    have ht : (xs.toArray ++ (Lib.strCells s).toArray ++ Builtin.zeroCells (Value.int .u8 0).cells (grownCap w (n + s.size) old e - (n + s.size))).toList.take (n + s.size) = xs ++ Lib.strCells s := by
      simp only [Array.toList_append]
      rw [← hlen]
      exact List.take_left
    rw [ht] at hs
    exact hs
  rcases h.2 with ⟨rfl, rfl, rfl⟩ | ⟨g, rfl, hs⟩
  · have hx : xs = [] := List.eq_nil_of_length_eq_zero h.1
    subst hx
    rcases Nat.eq_zero_or_pos s.size with hm | hm
    · have hn : Lib.strCells s = [] := List.eq_nil_of_length_eq_zero (by omega)
      refine ⟨none, 0, w, ?_, Fr.refl _ _, by rw [hn, hm]; exact By.nil _ _, .inl rfl⟩
      have hf := Lib.run_firstCells_string (P := P) w 1 s
      rw [hm] at hf
      simp [Builtin.append_, run_underlying ht, run_underlying hu, sizeOf, typeInfo, hi, hsize, Builtin.lenOf, hm, hf]
    · have hrun := run_append_nil_string (P := P) w t u ty e i (.int .u8 0) ht hu hi hz s hm (by omega) (by rw [hby]; omega)
      have hgr := grown 0 (by omega)
      have ec : (s.data.map (fun b => Value.int .u8 b.toNat)) = (Lib.strCells s).toArray := by
        apply Array.ext'
        simp [Lib.strCells]
      rw [ec] at hrun
      simp only [Nat.zero_add, List.nil_append, Array.empty_append] at hgr ⊢
      exact ⟨_, _, _, hrun, hgr.1, hgr.2, .inr rfl⟩
  · obtain ⟨⟨cur, fz, hh, hz', hfit, ht'⟩, hnc, hcap⟩ := hs
    by_cases hroom : n + s.size ≤ c
    · have hst := run_storeCells_atT P g n e fz (Lib.strCells s) 0 cur w hh (by omega) (by omega) (Lib.strCells_oneCell s)
      simp only [Nat.add_zero] at hst
      have hf := Lib.run_firstCells_string (P := P) w 1 s
      have e1 : (⟨g, 0, none⟩ : Addr).add n = ⟨g, n, none⟩ := by rw [add_plain']; simp
      have hrun : (Builtin.append_ #[t, u] ty #[.slice (some ⟨g, 0, none⟩) n c, .string s]).run P w = .ok (.slice (some ⟨g, 0, none⟩) (n + s.size) c) (w.setRow g (cur.toList.take n ++ Lib.strCells s ++ cur.toList.drop (n + (Lib.strCells s).length)).toArray) := by
        simp [Builtin.append_, run_underlying ht, run_underlying hu, sizeOf, typeInfo, hi, hsize, Builtin.lenOf, hroom, hf, e1, hst]
      refine ⟨_, _, _, hrun, (Fr.refl (Own (some ⟨g, 0, none⟩)) w).setRow (g := g) (fun _ => rfl) _, ⟨hlen, .inr ⟨g, rfl, ⟨(cur.toList.take n ++ Lib.strCells s ++ cur.toList.drop (n + (Lib.strCells s).length)).toArray, fz, ?_, hz', ?_, ?_⟩, hroom, hcap⟩⟩, .inl rfl⟩
      · exact setRow_heap w g cur _ e _ hh
      · simp only [List.size_toArray, List.length_append, List.length_take, List.length_drop, Array.length_toList]
        omega
      · show (cur.toList.take n ++ Lib.strCells s ++ cur.toList.drop (n + (Lib.strCells s).length)).take (n + s.size) = xs ++ Lib.strCells s
        rw [ht', ← hlen]
        exact List.take_left
    · have holds : ∀ j u, xs[j]? = some u → w.cell? ((⟨g, 0, none⟩ : Addr).add j) = some u := fun j u hu => by
        rw [add_plain', Nat.zero_add]
        exact ByAt.cell ⟨⟨cur, fz, hh, hz', hfit, ht'⟩, hnc, hcap⟩ j u hu
      have hrun := Lib.run_append_grow_string (P := P) w t u ty e i (.int .u8 0) ht hu hi hz ⟨g, 0, none⟩ n c xs (by rw [hsize, h.1, Nat.mul_one]) holds s (by omega) (by omega) (growslice_fits (by omega) (by rw [hby]; omega))
      have hgr := grown c (by omega)
      exact ⟨_, _, _, hrun, hgr.1, hgr.2, .inr rfl⟩

/-- the two at an operation of the walk -/
theorem wpList_append_by {ops : Array Oper} {rest : List Oper} {o : Oper} {a : Act} {Q : Exit → Act → World → Prop} (hgd : o.guard = none) (s x : Operand) (t : TypeId)
    (ho : o.op = .call { callee := .builtin .append, args := #[s, x], argTypes := #[t, t] })
    (e : TypeId) (ht : P.underlying t = some (.slice e)) (hinfo : (P.info? e).map (fun i => (i.zero, i.size, i.bytes)) = some (some (.int .u8 0), 1, 1))
    {R : Nat → Prop} {A : Option Addr} {n c : Nat} {xs : List Value} (hs : a.eval s = .slice A n c) {B : Option Addr} {m c2 : Nat} {news : List Value} (hx : a.eval x = .slice B m c2)
    (h : By w e A n c xs) (hr : Rd w R 1 B m news) (h1 : ∀ u ∈ news, u.oneCell' = true) (hb : n + m ≤ 140737488355328)
    (hk : ∀ A' c' w', Fr (Own A) w w' → By w' e A' (n + m) c' (xs ++ news) → (A' = A ∨ A' = some ⟨w.heap.size, 0, none⟩) → wpList P ops Q rest (a.put o.dst (.slice A' (n + m) c')) w') :
    wpList P ops Q (o :: rest) a w := by
  obtain ⟨i0, hi, hzz⟩ := Option.map_eq_some_iff.1 hinfo
  simp only [Prod.mk.injEq] at hzz
  obtain ⟨hz0, hz1, hz2⟩ := hzz
  obtain ⟨A', c', w', hrun, h2, h3, h4⟩ := run_append_by (P := P) w t o.type e i0 ht hi hz0 hz1 hz2 h hr (c2 := c2) h1 hb
  refine wpList_plain hgd fun K hK => ?_
  unfold Oper.wp execOp
  simp only [ho, resolve, invoke, builtin, Sem.run_bind, Sem.run_pure, Result.andThen_ok, List.map_toArray, List.map_cons, List.map_nil, hs, hx, hrun]
  exact hK _ _ (hk A' c' w' h2 h3 h4)
theorem wpList_append_by_str {ops : Array Oper} {rest : List Oper} {o : Oper} {a : Act} {Q : Exit → Act → World → Prop} (hgd : o.guard = none) (s x : Operand) (t u : TypeId)
    (ho : o.op = .call { callee := .builtin .append, args := #[s, x], argTypes := #[t, u] })
    (e : TypeId) (ht : P.underlying t = some (.slice e)) (hu : P.underlying u = some .string) (hinfo : (P.info? e).map (fun i => (i.zero, i.size, i.bytes)) = some (some (.int .u8 0), 1, 1))
    {A : Option Addr} {n c : Nat} {xs : List Value} (hs : a.eval s = .slice A n c) {sv : ByteArray} (hx : a.eval x = .string sv)
    (h : By w e A n c xs) (hb : n + sv.size ≤ 140737488355328)
    (hk : ∀ A' c' w', Fr (Own A) w w' → By w' e A' (n + sv.size) c' (xs ++ Lib.strCells sv) → (A' = A ∨ A' = some ⟨w.heap.size, 0, none⟩) → wpList P ops Q rest (a.put o.dst (.slice A' (n + sv.size) c')) w') :
    wpList P ops Q (o :: rest) a w := by
  obtain ⟨i0, hi, hzz⟩ := Option.map_eq_some_iff.1 hinfo
  simp only [Prod.mk.injEq] at hzz
  obtain ⟨hz0, hz1, hz2⟩ := hzz
  obtain ⟨A', c', w', hrun, h2, h3, h4⟩ := run_append_by_str (P := P) w t u o.type e i0 ht hu hi hz0 hz1 hz2 h sv hb
  refine wpList_plain hgd fun K hK => ?_
  unfold Oper.wp execOp
  simp only [ho, resolve, invoke, builtin, Sem.run_bind, Sem.run_pure, Result.andThen_ok, List.map_toArray, List.map_cons, List.map_nil, hs, hx, hrun]
  exact hK _ _ (hk A' c' w' h2 h3 h4)
end
/-- one new byte, in a box of its own -/
theorem wpList_append_by_box {P : Program} (W : World) {ops : Array Oper} {rest : List Oper} {o : Oper} {a : Act} {Q : Exit → Act → World → Prop} (hgd : o.guard = none) (s x : Operand) (t : TypeId)
    (ho : o.op = .call { callee := .builtin .append, args := #[s, x], argTypes := #[t, t] })
    (e : TypeId) (ht : P.underlying t = some (.slice e)) (hinfo : (P.info? e).map (fun i => (i.zero, i.size, i.bytes)) = some (some (.int .u8 0), 1, 1))
    {A : Option Addr} {n c : Nat} {xs : List Value} {b : Int} (hs : a.eval s = .slice A n c) (hx : a.eval x = .slice (some ⟨W.heap.size, 0, none⟩) 1 1)
    (h : By W e A n c xs) (hb : n + 1 ≤ 140737488355328)
    (hk : ∀ A' c' w', Fr (Own A) W w' → By w' e A' (n + 1) c' (xs ++ byts [b]) → (A' = A ∨ ∃ g, A' = some ⟨g, 0, none⟩ ∧ W.heap.size ≤ g) → wpList P ops Q rest (a.put o.dst (.slice A' (n + 1) c')) w') :
    wpList P ops Q (o :: rest) a (W.alloc (.cells #[.int .u8 b] e)) := by
  refine wpList_append_by (W.alloc (.cells #[.int .u8 b] e)) hgd s x t ho e ht hinfo hs hx (h.fr ((Fr.refl NoB W).alloc _) fun _ _ => noB_no) (Rd.box W e 1 #[.int .u8 b] rfl) (by simp [Value.oneCell']) hb fun A' c' w' h2 h3 h4 => hk A' c' w' (((Fr.refl (Own A) W).alloc _).trans h2 fun _ _ hg => hg) h3 ?_
  rcases h4 with h4 | h4
  · exact .inl h4
  · exact .inr ⟨_, h4, by simp⟩
end Go.Proofs.YtopaeikddlpecaaDoor
