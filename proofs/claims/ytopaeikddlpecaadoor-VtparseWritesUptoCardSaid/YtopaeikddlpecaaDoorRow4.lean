/-
  Actions that came in, opened: one by its cells ('open_act'), a slice of them ('open_acts'), with their bulk. Conditions: none; plain lemmas.
-/
import Derived.Test.YtopaeikddlpecaaDoorRow
import Derived.Test.YtopaeikddlpecaaDoorEqf
import Derived.Deep.Slices
namespace Go.Proofs.YtopaeikddlpecaaDoor
open Go.ChangeShapes Go.WideShapes Go.ChangeAt Go.RowKit

instance : Inhabited PAct := ⟨act0⟩

/-- what an action's numbers may be -/
structure ActWF (p : PAct) : Prop where
  kind : (Lit.int .i64 p.kind).wf = true
  rune : (Lit.int .i32 p.rune).wf = true
  fin : (Lit.int .u8 p.fin).wf = true
  priv : (Lit.int .u8 p.priv).wf = true
  params : ∀ x ∈ p.params, (Lit.int .i64 x).wf = true

theorem cellsInt : Tryd.prog.cellsOf 3 = 1 := by kernel_rfl
theorem cellsAct : Tryd.prog.cellsOf 35 = 7 := by kernel_rfl
theorem bulk_agg {H : Type} (xs : List (DataW H)) : Rows.uptoBulk (.agg xs) = Rows.uptoBulkAll xs + 1 := by simp [Rows.uptoBulk]

set_option maxRecDepth 100000 in
theorem open_act {H : Type} {enc : TypeId × Value → H} {W : World} {fuel : Nat} {cs : List Value} {x : DataW H × List MemPlace}
    (h : DataW.trod enc Tryd.prog W 0 (fun _ => true) true fuel 35 cs = some x) :
    ∃ (p : PAct) (A : Option Addr) (n k : Nat), cs = p.cells (.slice A n k) ∧ Rd W (fun k => k < W.heap.size) 1 A n (ints p.params) ∧ n ≤ k ∧ p.params.length + p.inter.size + p.text.size + 5 ≤ Rows.uptoBulk x.1 ∧ ActWF p := by
  obtain ⟨xs, n, _, rfl, hl, hlen, hf⟩ := DataW.trod_struct Tryd.underlying35 h
  rw [cellsAct] at hl
  match xs, hlen with
  | [y0, y1, y2, y3, y4, y5, y6], _ =>
    match cs, hl with
    | [c0, c1, c2, c3, c4, c5, c6], _ =>
      have q0 : DataW.trod enc Tryd.prog W 0 (fun _ => true) true n 3 [c0] = some y0 := hf 0 _ rfl
      have q1 : DataW.trod enc Tryd.prog W 0 (fun _ => true) true n 21 [c1] = some y1 := hf 1 _ rfl
      have q2 : DataW.trod enc Tryd.prog W 0 (fun _ => true) true n 5 [c2] = some y2 := hf 2 _ rfl
      have q3 : DataW.trod enc Tryd.prog W 0 (fun _ => true) true n 5 [c3] = some y3 := hf 3 _ rfl
      have q4 : DataW.trod enc Tryd.prog W 0 (fun _ => true) true n 33 [c4] = some y4 := hf 4 _ rfl
      have q5 : DataW.trod enc Tryd.prog W 0 (fun _ => true) true n 9 [c5] = some y5 := hf 5 _ rfl
      have q6 : DataW.trod enc Tryd.prog W 0 (fun _ => true) true n 9 [c6] = some y6 := hf 6 _ rfl
      obtain ⟨k0, e0, r0, w0⟩ := DataW.trod_int Tryd.underlying3 q0
      obtain ⟨k1, e1, r1, w1⟩ := DataW.trod_int Tryd.underlying21 q1
      obtain ⟨k2, e2, r2, w2⟩ := DataW.trod_int Tryd.underlying5 q2
      obtain ⟨k3, e3, r3, w3⟩ := DataW.trod_int Tryd.underlying5 q3
      obtain ⟨s5, e5, r5, w5⟩ := DataW.trod_string Tryd.underlying9 q5
      obtain ⟨s6, e6, r6, w6⟩ := DataW.trod_string Tryd.underlying9 q6
      simp only [List.cons.injEq, and_true] at e0 e1 e2 e3 e5 e6
      subst e0 e1 e2 e3 e5 e6 r0 r1 r2 r3 r5 r6
      have hv : ∃ A n k, c4 = .slice A n k := by
        rcases open_ints Tryd.underlying33 Tryd.underlying3 cellsInt q4 with ⟨hc, _⟩ | ⟨a, len, cap, zs, hc, _⟩
        · simp only [List.cons.injEq, and_true] at hc
          exact ⟨_, _, _, hc⟩
        · simp only [List.cons.injEq, and_true] at hc
          exact ⟨_, _, _, hc⟩
      obtain ⟨A, m, k, rfl⟩ := hv
      obtain ⟨l, hr, hll, hmk, hbk, hwf⟩ := open_nums (A := A) (n := m) (c := k) (d := y4.1) (p := y4.2) Tryd.underlying33 Tryd.underlying3 cellsInt ⟨n, by simpa [Value.cells] using q4⟩
      have h5 : s5.data.toList.length = s5.size := by simp
      have h6 : s6.data.toList.length = s6.size := by simp
      refine ⟨⟨k0, k1, k2, k3, l, s5, s6⟩, A, m, k, rfl, hr.mono fun k hk _ => hk, hmk, ?_, ⟨w0, w1, w2, w3, hwf⟩⟩
      simp only [List.map_cons, List.map_nil, bulk_agg, Rows.uptoBulkAll]
      have b5 : s5.size ≤ Rows.uptoBulk (DataW.lit (.string s5.data.toList) : DataW H) := by simp [Rows.uptoBulk]
      have b6 : s6.size ≤ Rows.uptoBulk (DataW.lit (.string s6.data.toList) : DataW H) := by simp [Rows.uptoBulk]
      have b0 := bulk_one (H := H) (.lit (.int .i64 k0))
      have b1 := bulk_one (H := H) (.lit (.int .i32 k1))
      have b2 := bulk_one (H := H) (.lit (.int .u8 k2))
      have b3 := bulk_one (H := H) (.lit (.int .u8 k3))
      show l.length + s5.size + s6.size + 5 ≤ _
      omega

theorem flat7 {ι : Type} (l : List ι) (f : ι → List Value) (hf : ∀ i ∈ l, (f i).length = 7) : (l.flatMap f).length = l.length * 7 ∧ ∀ (j : Nat) (i : ι), l[j]? = some i → ((l.flatMap f).drop (j * 7)).take 7 = f i := by
  induction l with
  | nil => exact ⟨rfl, fun j i h => by simp at h⟩
  | cons x l ih =>
    obtain ⟨h1, h2⟩ := ih fun i hi => hf i (by simp [hi])
    have hx := hf x (by simp)
    refine ⟨by rw [List.flatMap_cons, List.length_append, h1, hx, List.length_cons]; omega, fun j i h => ?_⟩
    rw [List.flatMap_cons]
    cases j with
    | zero =>
      simp only [List.getElem?_cons_zero, Option.some.injEq] at h
      subst h
      rw [Nat.zero_mul, List.drop_zero, List.take_append_of_le_length (by omega), List.take_of_length_le (by omega)]
    | succ j =>
      simp only [List.getElem?_cons_succ] at h
      rw [List.drop_append, List.drop_of_length_le (by omega), List.nil_append, hx, show (j + 1) * 7 - 7 = j * 7 by omega]
      exact h2 j i h

theorem open_acts {H : Type} {enc : TypeId × Value → H} {W : World} {A : Option Addr} {n c : Nat} {d : DataW H} {p : List MemPlace}
    (h : DataW.Trod enc Tryd.prog W 0 (fun _ => true) true 25 (.slice A n c) d p) :
    ∃ ps : List PAct, ActsIn W (fun k => k < W.heap.size) A n ps ∧ n ≤ c ∧ n + 1 ≤ Rows.uptoBulk d ∧ (∀ q ∈ ps, q.params.length + 1 ≤ Rows.uptoBulk d) ∧ ∀ q ∈ ps, ActWF q := by
  obtain ⟨fuel, hf⟩ := h
  rcases Go.Deep.open_slice Tryd.underlying25 hf with ⟨hcs, hx⟩ | ⟨a, len, cap, m, n1, D, Pl, hcs, _, hl, hm, hmm, hx, hr⟩
  · simp [Value.cells] at hcs
    obtain ⟨rfl, rfl, rfl⟩ := hcs
    refine ⟨[], ⟨rfl, [], Rd.nil _ _ _ _, RepActs.nil _ _⟩, Nat.le_refl _, ?_, (fun q hq => absurd hq List.not_mem_nil), fun q hq => absurd hq List.not_mem_nil⟩
    have := bulk_one d
    omega
  · simp [Value.cells] at hcs
    obtain ⟨rfl, rfl, rfl⟩ := hcs
    simp only [if_true] at hmm
    subst hmm
    rw [cellsAct] at hr hx
    have hd : d = _ := congrArg Prod.fst hx
    obtain ⟨g, hg⟩ := Go.Deep.choose_lt (α := PAct) (n := n) (p := fun i p => ∃ (A : Option Addr) (k l : Nat), W.cells? 0 (a.add (i * 7)) 7 = some (p.cells (.slice A k l)) ∧ Rd W (fun k => k < W.heap.size) 1 A k (ints p.params) ∧ k ≤ l ∧ p.params.length + 5 ≤ Rows.uptoBulk (D i) ∧ ActWF p) (fun i hi => by
      obtain ⟨cs', h1, h2⟩ := hr i (by omega)
      obtain ⟨p, A', k, l, rfl, h3, h4, h5, h6⟩ := open_act h2
      exact ⟨p, A', k, l, h1, h3, h4, by simp only at h5; omega, h6⟩)
    obtain ⟨v, hv⟩ := Go.Deep.choose_lt (α := Value) (n := n) (p := fun i v => ∃ (A : Option Addr) (k l : Nat), v = .slice A k l ∧ W.cells? 0 (a.add (i * 7)) 7 = some ((g i).cells v) ∧ Rd W (fun k => k < W.heap.size) 1 A k (ints (g i).params) ∧ k ≤ l) (fun i hi => by
      obtain ⟨A', k, l, h1, h3, h4, _⟩ := hg i hi
      exact ⟨_, A', k, l, rfl, h1, h3, h4⟩)
    have h7 := flat7 (List.range n) (fun i => (g i).cells (v i)) (fun i _ => rfl)
    rw [List.length_range] at h7
    have hsum : ∀ i, i < n → Rows.uptoBulk (D i) ≤ Rows.uptoBulkAll ((List.range n).map D) := by
      have key : ∀ (l : List Nat) (i : Nat), i ∈ l → Rows.uptoBulk (D i) ≤ Rows.uptoBulkAll (l.map D) := by
        intro l
        induction l with
        | nil => intro i h; cases h
        | cons x l ih =>
          intro i hi
          rw [List.map_cons, bulk_cons]
          rcases List.mem_cons.1 hi with rfl | hi
          · omega
          · have := ih i hi; omega
      exact fun i hi => key _ i (by simpa using hi)
    refine ⟨(List.range n).map g, ⟨by simp, (List.range n).flatMap fun i => (g i).cells (v i), ⟨h7.1, fun hn => ?_⟩, by rw [h7.1]; simp, fun j p hj => ?_⟩, hl, ?_, fun q hq => ?_, fun q hq => ?_⟩
    · obtain ⟨b, off, spot⟩ := a
      obtain ⟨_, _, _, _, h1, _⟩ := hv 0 (by omega)
      obtain ⟨_, _, hc0⟩ := World.cells?_some h1
      have h0 := hc0 0 (by omega)
      have h00 : W.cell? ⟨b, off, spot⟩ = some (.int .i64 (g 0).kind) := by simpa [Addr.add, PAct.cells] using h0
      have hspot : spot = none := by simpa using World.cell?_spot h00
      subst hspot
      refine ⟨b, off, rfl, World.block_lt_of_cell? W _ h00, World.block_lt_of_cell? W _ h00, fun j u hu => ?_⟩
      have hjl : j < n * 7 := by have := (List.getElem?_eq_some_iff.1 hu).1; rw [h7.1] at this; exact this
      obtain ⟨_, _, _, _, h2, _⟩ := hv (j / 7) (by omega)
      obtain ⟨_, _, hc⟩ := World.cells?_some h2
      have h3 := hc (j % 7) (by omega)
      rw [add_plain', add_plain', show off + j / 7 * 7 + j % 7 = off + j by omega] at h3
      rw [h3]
      have h4 := h7.2 (j / 7) (j / 7) (List.getElem?_range (by omega))
      rw [← h4, List.getElem?_take, if_pos (by omega), List.getElem?_drop, show j / 7 * 7 + j % 7 = j by omega]
      exact hu
    · have hjn : j < n := by have := (List.getElem?_eq_some_iff.1 hj).1; simpa using this
      simp only [List.getElem?_map, List.getElem?_range hjn, Option.map_some, Option.some.injEq] at hj
      subst hj
      obtain ⟨A', k, l, e, _, h3, h4⟩ := hv j hjn
      have h5 := h7.2 j j (List.getElem?_range hjn)
      rw [h5, e]
      exact ⟨A', k, l, rfl, h3, h4⟩
    · rw [hd, bulk_slice]
      have := bulk_length ((List.range n).map D)
      simp only [List.length_map, List.length_range] at this
      omega
    · simp only [List.mem_map, List.mem_range] at hq
      obtain ⟨i, hi, rfl⟩ := hq
      obtain ⟨_, _, _, _, _, _, h5, _⟩ := hg i hi
      have := hsum i hi
      rw [hd, bulk_slice]
      omega
    · simp only [List.mem_map, List.mem_range] at hq
      obtain ⟨i, hi, rfl⟩ := hq
      obtain ⟨_, _, _, _, _, _, _, h6⟩ := hg i hi
      exact h6
end Go.Proofs.YtopaeikddlpecaaDoor
