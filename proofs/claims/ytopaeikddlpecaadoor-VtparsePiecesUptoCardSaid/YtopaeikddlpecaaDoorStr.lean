/-
  Walk: the law VtparseStream (under way): a slice of slices of bytes that is read, and Put with a set to keep clear of. Conditions: bounds.
-/
import Derived.Test.YtopaeikddlpecaaDoorCanW
import Derived.Test.YtopaeikddlpecaaDoorOn
namespace Go.Proofs.YtopaeikddlpecaaDoor
open Go.RowKit

/-- a slice of slices of bytes; it and its parts lie in blocks of R -/
def Parts (w : World) (R : Nat → Prop) (A : Option Addr) (n : Nat) (ls : List (List Int)) : Prop :=
  n = ls.length ∧ ∃ cs, Rd w R 1 A n cs ∧ ∀ (j : Nat) (l : List Int), ls[j]? = some l → ∃ B m c, cs[j]? = some (.slice B m c) ∧ Rd w R 1 B m (byts l) ∧ m ≤ c
theorem Parts.fr {w w' : World} {R G : Nat → Prop} {A : Option Addr} {n : Nat} {ls : List (List Int)} (h : Parts w R A n ls) (hf : Fr G w w') (hd : ∀ i, R i → ¬ G i) : Parts w' R A n ls := by
  obtain ⟨hn, cs, hr, hp⟩ := h
  exact ⟨hn, cs, hr.fr hf hd, fun j l hj => by
    obtain ⟨B, m, c, e, hr', hm⟩ := hp j l hj
    exact ⟨B, m, c, e, hr'.fr hf hd, hm⟩⟩
theorem Parts.at_ {w : World} {R : Nat → Prop} {A : Option Addr} {n : Nat} {ls : List (List Int)} (h : Parts w R A n ls) {j : Nat} {l : List Int} (hj : ls[j]? = some l) :
    ∃ g o B m c, A = some ⟨g, o, none⟩ ∧ g < w.heap.size ∧ w.cell? ⟨g, o + j, none⟩ = some (.slice B m c) ∧ Rd w R 1 B m (byts l) ∧ m ≤ c := by
  obtain ⟨hn, cs, hr, hp⟩ := h
  have hlt := (List.getElem?_eq_some_iff.1 hj).1
  obtain ⟨B, m, c, e, hr', hm⟩ := hp j l hj
  obtain ⟨g, o, u, hA, lt, hu, hc⟩ := hr.at_ (k := j) (by omega)
  rw [e] at hu
  injection hu with hu
  subst hu
  exact ⟨g, o, B, m, c, hA, lt, hc, hr', hm⟩

/-- Put, its actions' blocks being outside S and outside the parser -/
theorem put_str {w wr : World} {g N : Nat} {s : PS} {F R : Nat → Prop} (S : Nat → Prop) (hS : ∀ k, S k → k < wr.heap.size) (hFS : ∀ k, F k → ¬ S k) (h : CanS w wr g N s F) (hT : Tabs w) (bs : List Int) (B : Option Addr) (n c : Nat) (hN : N + n ≤ 4194302) (hr : Rd wr R 1 B n (byts bs)) (hRF : ∀ k, R k → ¬ F k) (hbs : Byts bs) :
    Calls Tryd.prog 17 #[.pointer (some ⟨g, 0, none⟩), .slice B n c] wr fun e w' => ∃ A k F' cs, e = .returned (.slice A (s.run bs).out.length k) ∧
      Rd w' (fun j => j < w'.heap.size ∧ ¬ S j ∧ ¬ F' j) 7 A (s.run bs).out.length cs ∧ RepActs w' (fun j => j < w'.heap.size ∧ ¬ S j ∧ ¬ F' j) (s.run bs).out cs ∧ CanS w w' g (N + n) { s.run bs with out := [] } F' ∧ (∀ j, F' j → j < wr.heap.size → F j) ∧ Fr F wr w' ∧ (s.run bs).out.length ≤ N + n ∧ ∀ p ∈ (s.run bs).out, p.params.length ≤ 64 := by
  have hbn : bs.length = n := by have := hr.1; rw [byts_length] at this; omega
  have e0 : s.clear = s := by obtain ⟨_, _, _, _, o⟩ := s; have := h.out; simp only at this; subst this; rfl
  have hc := @putP_any (avOf S) g bs s F R B n c wr N (RepP.swap avNo (avOf S) h.rep h.out hS) h.inv hN (hT.fr h.fr fun _ _ => noB_no) (fun k hk hF => by have := h.new k hF; have := hT.lt k hk; omega) hr hRF hbs
  rw [e0] at hc
  refine hc.mono fun e w' hp => ?_
  obtain ⟨A, k, cs, F', he, hs, ha, hAF, hrep, hf, hF, hA⟩ := hp
  have hi := h.inv.run bs hbs
  have hok := h.ok.run h.inv bs hbs
  rw [hbn] at hi
  have hnew : ∀ j, F' j → w.heap.size ≤ j := fun j hj => by
    rcases Nat.lt_or_ge j wr.heap.size with hlt | hge
    · exact h.new j (hF j hj hlt)
    · have := h.fr.size; omega
  have hSA : ∀ j, Own A j → ¬ S j := fun j hj hs => hFS j (hA j hj (hS j hs)) hs
  refine ⟨A, k, F', cs, he, hs.rd.mono fun k hk ho => ⟨hk, hSA k ho, hAF k ho⟩, ha.mono fun k hk ho => ⟨hk, ho.2.2, ho.1⟩,
    ⟨RepP.swap (avOf S) avNo hrep rfl (fun _ h => h.elim), rfl, ⟨hi.st, hi.many, hi.par, hi.parL, hi.parR, by have := hi.out; simp; omega, hi.dec⟩, h.tidy.run bs, ⟨by simp, hok.inter, hok.text⟩, h.fr.trans hf fun i hi hj => by have := h.new i hj; omega, hnew⟩, hF, hf, by have := hi.out; omega, fun p hp => by have := (hok.out p hp).parL; omega⟩

/-- what stands at the loop's head in VtparseStream: two parsers, the bytes so far, the actions so far, all apart -/
structure StrS (w wr : World) (gp gq N : Nat) (s : PS) (Fp Fq : Nat → Prop) (sA : Option Addr) (sc : Nat) (l : List Int) (aA : Option Addr) (ac : Nat) (out : List PAct) (cs : List Value) : Prop where
  p : CanS w wr gp N s Fp
  q : CanS w wr gq 0 PS0 Fq
  sl : Sl wr (Own sA) 5 1 sA l.length sc (byts l)
  al : Sl wr (Own aA) 35 7 aA out.length ac cs
  ra : RepActs wr (fun j => j < wr.heap.size ∧ ¬ Fp j ∧ ¬ Fq j ∧ ¬ Own sA j ∧ ¬ Own aA j) out cs
  d1 : ∀ j, Fp j → ¬ Fq j
  d2 : ∀ j, Own sA j → ¬ Fp j ∧ ¬ Fq j ∧ ¬ Own aA j ∧ w.heap.size ≤ j
  d3 : ∀ j, Own aA j → ¬ Fp j ∧ ¬ Fq j ∧ w.heap.size ≤ j

theorem own_is {A : Option Addr} {k j : Nat} (h : A = some ⟨k, 0, none⟩) (ho : Own A j) : j = k := by
  subst h
  have : k = j := by injection ho
  exact this.symm

section
variable {w wr w3 : World} {gp gq N : Nat} {s : PS} {Fp Fq : Nat → Prop} {sA : Option Addr} {sc : Nat} {l : List Int} {aA : Option Addr} {ac : Nat} {out : List PAct} {cs : List Value}
theorem StrS.bytes (h : StrS w wr gp gq N s Fp Fq sA sc l aA ac out cs) {sA' : Option Addr} {c' m : Nat} {part : List Int} (hm : part.length = m) (hf : Fr (Own sA) wr w3) (hs : Sl w3 (Own sA') 5 1 sA' (l.length + m) c' (byts l ++ byts part)) (hA : sA' = sA ∨ sA' = some ⟨wr.heap.size, 0, none⟩) :
    StrS w w3 gp gq N s Fp Fq sA' c' (l ++ part) aA ac out cs := by
  have hsz := hf.size
  have hw := h.p.fr.size
  refine ⟨h.p.to hf (fun k hk ho => (h.d2 k ho).1 hk) (fun k ho => (h.d2 k ho).2.2.2), h.q.to hf (fun k hk ho => (h.d2 k ho).2.1 hk) (fun k ho => (h.d2 k ho).2.2.2), ?_, h.al.fr hf (fun k ha ho => (h.d2 k ho).2.2.1 ha), ?_, h.d1, ?_, h.d3⟩
  · rw [List.length_append, hm, show byts (l ++ part) = byts l ++ byts part from by simp [byts]]
    exact hs
  · refine (h.ra.fr hf fun j hj ho => hj.2.2.2.1 ho).mono fun j _ hj => ⟨by omega, hj.2.1, hj.2.2.1, fun ho => ?_, hj.2.2.2.2⟩
    rcases hA with e | e
    · rw [e] at ho; exact hj.2.2.2.1 ho
    · have := own_is e ho; have := hj.1; omega
  · intro j ho
    rcases hA with e | e
    · rw [e] at ho; exact h.d2 j ho
    · have hj := own_is e ho
      subst hj
      exact ⟨fun hp => by have := h.p.lt _ hp; omega, fun hq => by have := h.q.lt _ hq; omega, fun ha => by have := h.al.inB ha; omega, hw⟩

/-- what Put must keep clear of -/
def Clear (Fq : Nat → Prop) (sA aA : Option Addr) : Nat → Prop := fun j => Fq j ∨ Own sA j ∨ Own aA j

theorem StrS.put (h : StrS w wr gp gq N s Fp Fq sA sc l aA ac out cs) {w5 : World} {s' : PS} {M : Nat} {F' : Nat → Prop} {out' : List PAct} {cs' : List Value} {aA' : Option Addr} {c' : Nat}
    (hc : CanS w w3 gp M s' F') (hF : ∀ j, F' j → j < wr.heap.size → Fp j) (hf : Fr Fp wr w3) (ha : RepActs w3 (fun j => j < w3.heap.size ∧ ¬ Clear Fq sA aA j ∧ ¬ F' j) out' cs')
    (hf5 : Fr (Own aA) w3 w5) (hs5 : Sl w5 (Own aA') 35 7 aA' (out.length + out'.length) c' (cs ++ cs')) (hA : aA' = aA ∨ aA' = some ⟨w3.heap.size, 0, none⟩) :
    StrS w w5 gp gq M s' F' Fq sA sc l aA' c' (out ++ out') (cs ++ cs') := by
  have z3 := hf.size
  have z5 := hf5.size
  have hw := h.p.fr.size
  have old : ∀ j, j < wr.heap.size → ¬ Fp j → ¬ F' j := fun j hj hn hf' => hn (hF j hf' hj)
  have lS : ∀ j, Own sA j → j < wr.heap.size := fun j hj => h.sl.inB hj
  have lA : ∀ j, Own aA j → j < wr.heap.size := fun j hj => h.al.inB hj
  refine ⟨hc.to hf5 (fun k hk ho => old k (lA k ho) (h.d3 k ho).1 hk) (fun k ho => (h.d3 k ho).2.2), (h.q.to hf (fun k hk hp => h.d1 k hp hk) h.p.new).to hf5 (fun k hk ho => (h.d3 k ho).2.1 hk) (fun k ho => (h.d3 k ho).2.2),
    (h.sl.fr hf (fun k ho hp => (h.d2 k ho).1 hp)).fr hf5 (fun k ho ha => (h.d2 k ho).2.2.1 ha), by rw [List.length_append]; exact hs5, ?_, ?_, ?_, ?_⟩
  · have notA : ∀ j, j < w3.heap.size → ¬ Own aA j → ¬ Own aA' j := fun j hj hn ho => by
      rcases hA with e | e
      · rw [e] at ho; exact hn ho
      · have := own_is e ho; omega
    have h1 := (h.ra.fr hf fun j hj hp => hj.2.1 hp).fr hf5 fun j hj ho => hj.2.2.2.2 ho
    have h2 := ha.fr hf5 fun j hj ho => hj.2.1 (.inr (.inr ho))
    refine RepActs.append (h1.mono fun j _ hj => ⟨by have := hj.1; omega, old j hj.1 hj.2.1, hj.2.2.1, hj.2.2.2.1, notA j (by have := hj.1; omega) hj.2.2.2.2⟩) (h2.mono fun j _ hj => ⟨by have := hj.1; omega, hj.2.2, fun hq => hj.2.1 (.inl hq), fun ho => hj.2.1 (.inr (.inl ho)), notA j hj.1 fun ho => hj.2.1 (.inr (.inr ho))⟩)
  · intro j hj hq
    exact h.d1 j (hF j hj (h.q.lt j hq)) hq
  · intro j ho
    refine ⟨old j (lS j ho) (h.d2 j ho).1, (h.d2 j ho).2.1, fun ha' => ?_, (h.d2 j ho).2.2.2⟩
    rcases hA with e | e
    · rw [e] at ha'; exact (h.d2 j ho).2.2.1 ha'
    · have := own_is e ha'; have := lS j ho; omega
  · intro j ho
    rcases hA with e | e
    · rw [e] at ho
      exact ⟨old j (lA j ho) (h.d3 j ho).1, (h.d3 j ho).2.1, (h.d3 j ho).2.2⟩
    · have hj := own_is e ho
      subst hj
      exact ⟨fun hp => by have := hc.lt _ hp; omega, fun hq => by have := h.q.lt _ hq; omega, by omega⟩
end
end Go.Proofs.YtopaeikddlpecaaDoor
