/-
  append onto a slice that is owned ('Sl'), wherever it starts in its block: one law for the walk, from a slice that is read, and from one new element. Conditions: the new length times the element's bytes is at most 2^47.
-/
import Derived.Test.YtopaeikddlpecaaDoorMem
import Derived.OwnWalk
namespace Go.Proofs.YtopaeikddlpecaaDoor
open Go.RowKit

/-- the block of a slice's own -/
def Own (A : Option Addr) : Nat → Prop := fun g => A.map Addr.block = some g

theorem Sl.inF {w : World} {F : Nat → Prop} {e size n c : Nat} {A : Option Addr} {xs : List Value} (h : Sl w F e size A n c xs) {k : Nat} (hk : Own A k) : F k := by
  rcases h.2 with ⟨rfl, _⟩ | ⟨g, o, rfl, hF, _⟩
  · cases hk
  · have : g = k := by injection hk
    exact this ▸ hF
theorem Sl.inB {w : World} {F : Nat → Prop} {e size n c : Nat} {A : Option Addr} {xs : List Value} (h : Sl w F e size A n c xs) {k : Nat} (hk : Own A k) : k < w.heap.size := by
  rcases h.2 with ⟨rfl, _⟩ | ⟨g, o, rfl, _, hs⟩
  · cases hk
  · have : g = k := by injection hk
    exact this ▸ hs.lt
/-- the blocks behind an append: the old one, or a new one -/
theorem own_after {W : World} {F : Nat → Prop} {A A' : Option Addr} (hF : ∀ k, Own A k → F k) (hA : A' = A ∨ ∃ g, A' = some ⟨g, 0, none⟩ ∧ W.heap.size ≤ g) (hN : ∀ k, W.heap.size ≤ k → F k) : ∀ k, Own A' k → F k := by
  intro k hk
  rcases hA with rfl | ⟨g, rfl, hg⟩
  · exact hF k hk
  · have : g = k := by injection hk
    exact hN k (by omega)

section
variable {P : Program} (w : World)
theorem run_append_sl (t ty e : TypeId) (i : TypeInfo) (z : Value) (size bytes : Nat) (ht : P.underlying t = some (.slice e)) (hi : P.info? e = some i) (hz : i.zero = some z)
    (hsize : i.size = size) (hby : i.bytes = bytes) (hzs : z.cells.size = size) (hsz : 0 < size)
    {F R : Nat → Prop} {A : Option Addr} {n c : Nat} {xs : List Value} (h : Sl w F e size A n c xs)
    {B : Option Addr} {m c2 : Nat} {news : List Value} (hr : Rd w R size B m news) (h1 : ∀ u ∈ news, u.oneCell' = true)
    (h63 : n + m ≤ maxLen) (hbytes : (n + m) * bytes ≤ 140737488355328) :
    ∃ A' c' w', (Builtin.append_ #[t, t] ty #[.slice A n c, .slice B m c2]).run P w = .ok (.slice A' (n + m) c') w' ∧ Fr (Own A) w w' ∧ Sl w' (Own A') e size A' (n + m) c' (xs ++ news) ∧
      (A' = A ∨ A' = some ⟨w.heap.size, 0, none⟩) := by
  subst hsize
  subst hby
  have hsmall : n + m ≤ 9223372036854775807 := by simp only [maxLen] at h63; omega
  have hlen : (xs ++ news).length = (n + m) * i.size := by rw [List.length_append, h.1, hr.1, Nat.add_mul]
  have hm0 : m = 0 → news = [] := fun h0 => List.eq_nil_of_length_eq_zero (by rw [hr.1, h0, Nat.zero_mul])
  have hnews : 0 < m → ∃ ad, B = some ad ∧ ∀ j u, news[j]? = some u → w.cell? (ad.add j) = some u := fun hp => by
    obtain ⟨g, o, hB, _, _, hc⟩ := hr.2 (Nat.mul_pos hp hsz)
    exact ⟨_, hB, fun j u hu => by rw [add_plain']; exact hc j u hu⟩
  have grown : ∀ (old : Nat), old < n + m → 
      Fr (Own A) w (w.drew.alloc (.cells (xs.toArray ++ news.toArray ++ Builtin.zeroCells z.cells (grownCap w (n + m) old e - (n + m))) e)) ∧
      Sl (w.drew.alloc (.cells (xs.toArray ++ news.toArray ++ Builtin.zeroCells z.cells (grownCap w (n + m) old e - (n + m))) e)) (Own (some ⟨w.heap.size, 0, none⟩)) e i.size (some ⟨w.heap.size, 0, none⟩) (n + m) (grownCap w (n + m) old e) (xs ++ news) := by
    intro old ho
    have hge := grownCap_ge w (n + m) old e
    have hcm : grownCap w (n + m) old e ≤ maxLen := grownCap_le_maxLen w (n + m) old e h63
    refine ⟨((Fr.refl _ w).drew).alloc _, ?_⟩
    have hs := Sl.new w.drew (F := Own (some ⟨w.heap.size, 0, none⟩)) rfl e i.size (xs.toArray ++ news.toArray ++ Builtin.zeroCells z.cells (grownCap w (n + m) old e - (n + m))) (n + m) (grownCap w (n + m) old e) hge hcm (by
      simp only [Array.size_append, List.size_toArray, size_zeroCells, hzs, h.1, hr.1, ← Nat.add_mul]
      congr 1
      omega)
    have ht : (xs.toArray ++ news.toArray ++ Builtin.zeroCells z.cells (grownCap w (n + m) old e - (n + m))).toList.take ((n + m) * i.size) = xs ++ news := by
      simp only [Array.toList_append]
      rw [← hlen]
      exact List.take_left
    rw [ht] at hs
    exact hs
  rcases h.2 with ⟨rfl, rfl, rfl⟩ | ⟨g, o, rfl, hF, hs⟩
  · have hx : xs = [] := List.eq_nil_of_length_eq_zero (by simpa using h.1)
    subst hx
    rcases Nat.eq_zero_or_pos m with hm | hm
    · have hn := hm0 hm
      subst hm
      subst hn
      refine ⟨none, 0, w, ?_, Fr.refl _ _, Sl.nil _ _ _ _, .inl rfl⟩
      cases B <;> simp [Builtin.append_, run_underlying ht, sizeOf, typeInfo, hi, Builtin.lenOf, Builtin.firstCells, loadCells, loadCellsFrom]
    · obtain ⟨ad, rfl, hc⟩ := hnews hm
      have hrun := run_append_nil (P := P) w t ty e i z ht hi hz ad m c2 news hr.1 hc hm (by omega) (by have hb := hbytes; simp only [Nat.zero_add] at hb; omega)
      have hgr := grown 0 (by omega)
      simp only [Nat.zero_add, List.nil_append, Array.empty_append] at hgr ⊢
      exact ⟨_, _, _, hrun, hgr.1, hgr.2, .inr rfl⟩
  · obtain ⟨⟨cur, fz, hh, hz', hfit, ht'⟩, hnc, hcap⟩ := hs
    by_cases hroom : n + m ≤ c
    · have hnm : (n + m) * i.size ≤ c * i.size := Nat.mul_le_mul_right _ hroom
      have hadd : n * i.size + news.length = (n + m) * i.size := by rw [hr.1, Nat.add_mul]
      have hst := run_storeCells_atF P g (o + n * i.size) e fz news 0 cur w hh (by omega) (by omega) h1
      simp only [Nat.add_zero] at hst
      have hrun : (Builtin.append_ #[t, t] ty #[.slice (some ⟨g, o, none⟩) n c, .slice B m c2]).run P w = .ok (.slice (some ⟨g, o, none⟩) (n + m) c) (w.setRow g (cur.toList.take (o + n * i.size) ++ news ++ cur.toList.drop (o + n * i.size + news.length)).toArray) := by
        rcases Nat.eq_zero_or_pos m with hm | hm
        · have hn := hm0 hm
          subst hm
          subst hn
          have e3 : (cur.toList.take (o + n * i.size) ++ [] ++ cur.toList.drop (o + n * i.size + ([] : List Value).length)).toArray = cur := by simp
          rw [e3, setRow_self w g cur e fz hh]
          cases B <;> simp [Builtin.append_, run_underlying ht, sizeOf, typeInfo, hi, Builtin.lenOf, Builtin.firstCells, hnc, loadCells, loadCellsFrom, storeCells]
        · obtain ⟨ad, rfl, hc⟩ := hnews hm
          have hf := run_firstCells_some (P := P) w i.size m ad m c2 news hr.1 hc
          have e1 : (⟨g, o, none⟩ : Addr).add (n * i.size) = ⟨g, o + n * i.size, none⟩ := add_plain' _ _ _
          simp [Builtin.append_, run_underlying ht, sizeOf, typeInfo, hi, Builtin.lenOf, hroom, hf, e1, hst]
      refine ⟨_, _, _, hrun, (Fr.refl (Own (some ⟨g, o, none⟩)) w).setRow (g := g) (fun _ => rfl) _, ⟨hlen, .inr ⟨g, o, rfl, rfl, ⟨(cur.toList.take (o + n * i.size) ++ news ++ cur.toList.drop (o + n * i.size + news.length)).toArray, fz, ?_, hz', ?_, ?_⟩, hroom, hcap⟩⟩, .inl rfl⟩
      · exact setRow_heap w g cur _ e _ hh
      · simp only [List.size_toArray, List.length_append, List.length_take, List.length_drop, Array.length_toList]
        omega
      · show (List.drop o (cur.toList.take (o + n * i.size) ++ news ++ cur.toList.drop (o + n * i.size + news.length))).take ((n + m) * i.size) = xs ++ news
        have hl1 : (cur.toList.take (o + n * i.size)).length = o + n * i.size := by rw [List.length_take, Array.length_toList]; omega
        rw [List.append_assoc, List.drop_append_of_le_length (by omega), ← List.append_assoc]
        have e2 : (cur.toList.take (o + n * i.size)).drop o = xs := by rw [← ht', List.drop_take, Nat.add_sub_cancel_left]
        rw [e2, ← hlen]
        exact List.take_left
    · have hm : 0 < m := by omega
      obtain ⟨ad, rfl, hc⟩ := hnews hm
      have holds : ∀ j u, xs[j]? = some u → w.cell? ((⟨g, o, none⟩ : Addr).add j) = some u := fun j u hu => by
        obtain ⟨g', o', hA', _, _, hc'⟩ := (h.rd).2 (by
          rw [← h.1]
          exact Nat.lt_of_le_of_lt (Nat.zero_le j) ((List.getElem?_eq_some_iff.1 hu).1))
        injection hA' with hA'
        injection hA' with h1 h2
        subst h1
        subst h2
        rw [add_plain']
        exact hc' j u hu
      have hrun := run_append_grow (P := P) w t ty e i z ht hi hz ⟨g, o, none⟩ n c xs h.1 holds ad m c2 news hr.1 hc (by omega) (by omega) (growslice_fits (by omega) hbytes)
      have hgr := grown c (by omega)
      exact ⟨_, _, _, hrun, hgr.1, hgr.2, .inr rfl⟩

theorem wpList_append_sl {ops : Array Oper} {rest : List Oper} {o : Oper} {a : Act} {Q : Exit → Act → World → Prop} (hgd : o.guard = none) (s x : Operand) (t : TypeId)
    (ho : o.op = .call { callee := .builtin .append, args := #[s, x], argTypes := #[t, t] })
    (e : TypeId) (z : Value) (size bytes : Nat) (ht : P.underlying t = some (.slice e)) (hinfo : (P.info? e).map (fun i => (i.zero, i.size, i.bytes)) = some (some z, size, bytes))
    (hzs : z.cells.size = size) (hsz : 0 < size)
    {F R : Nat → Prop} {A : Option Addr} {n c : Nat} {xs : List Value} (hs : a.eval s = .slice A n c) {B : Option Addr} {m c2 : Nat} {news : List Value} (hx : a.eval x = .slice B m c2)
    (h : Sl w F e size A n c xs) (hr : Rd w R size B m news) (h1 : ∀ u ∈ news, u.oneCell' = true)
    (h63 : n + m ≤ maxLen) (hbytes : (n + m) * bytes ≤ 140737488355328)
    (hk : ∀ A' c' w', Fr (Own A) w w' → Sl w' (Own A') e size A' (n + m) c' (xs ++ news) → (A' = A ∨ A' = some ⟨w.heap.size, 0, none⟩) → wpList P ops Q rest (a.put o.dst (.slice A' (n + m) c')) w') :
    wpList P ops Q (o :: rest) a w := by
  obtain ⟨i0, hi, hzz⟩ := Option.map_eq_some_iff.1 hinfo
  simp only [Prod.mk.injEq] at hzz
  obtain ⟨hz0, hz1, hz2⟩ := hzz
  obtain ⟨A', c', w', hrun, h2, h3, h4⟩ := run_append_sl (P := P) w t o.type e i0 z size bytes ht hi hz0 hz1 hz2 hzs hsz h hr (c2 := c2) h1 h63 hbytes
  refine wpList_plain hgd fun K hK => ?_
  unfold Oper.wp execOp
  simp only [ho, resolve, invoke, builtin, Sem.run_bind, Sem.run_pure, Result.andThen_ok, List.map_toArray, List.map_cons, List.map_nil, hs, hx, hrun]
  exact hK _ _ (hk A' c' w' h2 h3 h4)

/-- the same as a step inside a region that draws its order -/
theorem step_append_sl {ops : Array Oper} {o : Oper} {a : Act} {K : Act → World → Prop} {Q : Exit → Act → World → Prop} {E : Prop} (hgd : o.guard = none) (s x : Operand) (t : TypeId)
    (ho : o.op = .call { callee := .builtin .append, args := #[s, x], argTypes := #[t, t] })
    (e : TypeId) (z : Value) (size bytes : Nat) (ht : P.underlying t = some (.slice e)) (hinfo : (P.info? e).map (fun i => (i.zero, i.size, i.bytes)) = some (some z, size, bytes))
    (hzs : z.cells.size = size) (hsz : 0 < size)
    {F R : Nat → Prop} {A : Option Addr} {n c : Nat} {xs : List Value} (hs : a.eval s = .slice A n c) {B : Option Addr} {m c2 : Nat} {news : List Value} (hx : a.eval x = .slice B m c2)
    (h : Sl w F e size A n c xs) (hr : Rd w R size B m news) (h1 : ∀ u ∈ news, u.oneCell' = true)
    (h63 : n + m ≤ maxLen) (hbytes : (n + m) * bytes ≤ 140737488355328)
    (hk : ∀ A' c' w', Fr (Own A) w w' → Sl w' (Own A') e size A' (n + m) c' (xs ++ news) → (A' = A ∨ A' = some ⟨w.heap.size, 0, none⟩) → K (a.put o.dst (.slice A' (n + m) c')) w') :
    if Region.wanted o (yielded ops a.tmps) = true then Oper.wp P o a w K Q else E := by
  obtain ⟨i0, hi, hzz⟩ := Option.map_eq_some_iff.1 hinfo
  simp only [Prod.mk.injEq] at hzz
  obtain ⟨hz0, hz1, hz2⟩ := hzz
  obtain ⟨A', c', w', hrun, h2, h3, h4⟩ := run_append_sl (P := P) w t o.type e i0 z size bytes ht hi hz0 hz1 hz2 hzs hsz h hr (c2 := c2) h1 h63 hbytes
  have hw : Region.wanted o (yielded ops a.tmps) = true := by simp [Region.wanted, hgd]
  rw [if_pos hw]
  unfold Oper.wp execOp
  simp only [ho, resolve, invoke, builtin, Sem.run_bind, Sem.run_pure, Result.andThen_ok, List.map_toArray, List.map_cons, List.map_nil, hs, hx, hrun]
  exact hk A' c' w' h2 h3 h4
end

/-- one new element: its cells stand in a box of their own -/
theorem Rd.box (W : World) (e size : Nat) (cs : Array Value) (hs : cs.size = size) : Rd (W.alloc (.cells cs e)) (fun g => g = W.heap.size) size (some ⟨W.heap.size, 0, none⟩) 1 cs.toList := by
  refine ⟨by simp [hs], fun _ => ⟨_, _, rfl, rfl, by simp, fun j u hu => ?_⟩⟩
  rw [Nat.zero_add, World.cell?_alloc_new]
  simpa using hu

theorem wpList_append_box {P : Program} (W : World) {ops : Array Oper} {rest : List Oper} {o : Oper} {a : Act} {Q : Exit → Act → World → Prop} (hgd : o.guard = none) (s x : Operand) (t : TypeId)
    (ho : o.op = .call { callee := .builtin .append, args := #[s, x], argTypes := #[t, t] })
    (e : TypeId) (z : Value) (size bytes : Nat) (ht : P.underlying t = some (.slice e)) (hinfo : (P.info? e).map (fun i => (i.zero, i.size, i.bytes)) = some (some z, size, bytes))
    (hzs : z.cells.size = size) (hsz : 0 < size)
    {F : Nat → Prop} {A : Option Addr} {n c : Nat} {xs : List Value} {cs : Array Value} (hs : a.eval s = .slice A n c) (hx : a.eval x = .slice (some ⟨W.heap.size, 0, none⟩) 1 1)
    (h : Sl W F e size A n c xs) (hcs : cs.size = size) (h1 : ∀ u ∈ cs.toList, u.oneCell' = true)
    (hbytes : (n + 1) * bytes ≤ 140737488355328) (hb0 : 0 < bytes)
    (hk : ∀ A' c' w', Fr (Own A) W w' → Sl w' (Own A') e size A' (n + 1) c' (xs ++ cs.toList) → (A' = A ∨ ∃ g, A' = some ⟨g, 0, none⟩ ∧ W.heap.size ≤ g) → wpList P ops Q rest (a.put o.dst (.slice A' (n + 1) c')) w') :
    wpList P ops Q (o :: rest) a (W.alloc (.cells cs e)) := by
  have hlen : n + 1 ≤ 140737488355328 := Nat.le_trans (Nat.le_mul_of_pos_right _ hb0) hbytes
  refine wpList_append_sl (W.alloc (.cells cs e)) hgd s x t ho e z size bytes ht hinfo hzs hsz hs hx (h.alloc _) (Rd.box W e size cs hcs) h1 (by simp only [maxLen]; omega) hbytes fun A' c' w' h2 h3 h4 => hk A' c' w' (((Fr.refl (Own A) W).alloc _).trans h2 fun _ _ hg => hg) h3 ?_
  rcases h4 with h4 | h4
  · exact .inl h4
  · exact .inr ⟨_, h4, by simp⟩

theorem step_append_box {P : Program} (W : World) {ops : Array Oper} {o : Oper} {a : Act} {K : Act → World → Prop} {Q : Exit → Act → World → Prop} {E : Prop} (hgd : o.guard = none) (s x : Operand) (t : TypeId)
    (ho : o.op = .call { callee := .builtin .append, args := #[s, x], argTypes := #[t, t] })
    (e : TypeId) (z : Value) (size bytes : Nat) (ht : P.underlying t = some (.slice e)) (hinfo : (P.info? e).map (fun i => (i.zero, i.size, i.bytes)) = some (some z, size, bytes))
    (hzs : z.cells.size = size) (hsz : 0 < size)
    {F : Nat → Prop} {A : Option Addr} {n c : Nat} {xs : List Value} {cs : Array Value} (hs : a.eval s = .slice A n c) (hx : a.eval x = .slice (some ⟨W.heap.size, 0, none⟩) 1 1)
    (h : Sl W F e size A n c xs) (hcs : cs.size = size) (h1 : ∀ u ∈ cs.toList, u.oneCell' = true)
    (hbytes : (n + 1) * bytes ≤ 140737488355328) (hb0 : 0 < bytes)
    (hk : ∀ A' c' w', Fr (Own A) W w' → Sl w' (Own A') e size A' (n + 1) c' (xs ++ cs.toList) → (A' = A ∨ ∃ g, A' = some ⟨g, 0, none⟩ ∧ W.heap.size ≤ g) → K (a.put o.dst (.slice A' (n + 1) c')) w') :
    if Region.wanted o (yielded ops a.tmps) = true then Oper.wp P o a ((W.alloc (.cells cs e)).drew) K Q else E := by
  have hlen : n + 1 ≤ 140737488355328 := Nat.le_trans (Nat.le_mul_of_pos_right _ hb0) hbytes
  refine step_append_sl (W.alloc (.cells cs e)).drew hgd s x t ho e z size bytes ht hinfo hzs hsz hs hx (h.alloc _).drew (Rd.box W e size cs hcs).drew h1 (by simp only [maxLen]; omega) hbytes fun A' c' w' h2 h3 h4 => hk A' c' w' ((((Fr.refl (Own A) W).alloc _).drew).trans h2 fun _ _ hg => hg) h3 ?_
  rcases h4 with h4 | h4
  · exact .inl h4
  · exact .inr ⟨_, h4, by simp⟩
end Go.Proofs.YtopaeikddlpecaaDoor
