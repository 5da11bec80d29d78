/-
  A byte keeps the parser's numbers in their bounds ('PInv'). Plain: no program in sight.
-/
import Derived.Test.YtopaeikddlpecaaDoorPg
namespace Go.Proofs.YtopaeikddlpecaaDoor
open Go.RowKit

theorem PInv.grow {N M : Nat} {s : PS} (h : PInv N s) (hm : N ≤ M) : PInv M s :=
  ⟨h.st, ⟨h.many.1, by have := h.many.2; omega⟩, h.par, h.parL, h.parR, by have := h.out; omega, h.dec⟩
theorem PInv.setSt {N : Nat} {s : PS} (h : PInv N s) {st : Int} (hs : 0 ≤ st ∧ st ≤ 13) : PInv N { s with state := st } := ⟨hs, h.many, h.par, h.parL, h.parR, h.out, h.dec⟩
theorem PInv.tells {N : Nat} {s : PS} (h : PInv N s) (p : PAct) : PInv (N + 1) (s.tells p) :=
  ⟨h.st, ⟨h.many.1, by have := h.many.2; show s.many ≤ _; omega⟩, h.par, h.parL, h.parR, by have := h.out; simp only [PS.tells, List.length_append, List.length_singleton]; omega, h.dec⟩
theorem PInv.inter {N : Nat} {s : PS} (h : PInv N s) (b : Int) : PInv N (s.inter b) := by
  unfold PS.inter
  split
  · exact ⟨h.st, h.many, h.par, h.parL, h.parR, h.out, h.dec⟩
  · exact h
theorem PInv.text {N : Nat} {s : PS} (h : PInv N s) (b : Int) : PInv N (s.text b) := by
  unfold PS.text
  split
  · exact ⟨h.st, h.many, h.par, h.parL, h.parR, h.out, h.dec⟩
  · exact h
theorem PInv.ends {N : Nat} {s : PS} (h : PInv N s) (b k : Int) : PInv (N + 1) (s.ends b k) := by
  have h1 : PInv N { s with a := { s.a with fin := b } } := ⟨h.st, h.many, h.par, h.parL, h.parR, h.out, h.dec⟩
  exact (h1.tells _).setSt (by omega)
theorem getD_append_one (l : List Int) (x : Int) (k : Nat) : (l ++ [x]).getD k 0 = l.getD k 0 ∨ (l ++ [x]).getD k 0 = x ∨ (l ++ [x]).getD k 0 = 0 := by
  rcases Nat.lt_trichotomy k l.length with h | h | h
  · left; simp [List.getD_eq_getElem?_getD, List.getElem?_append_left h]
  · subst h; right; left; simp [List.getD_eq_getElem?_getD]
  · right; right; simp [List.getD_eq_getElem?_getD, List.getElem?_eq_none (show (l ++ [x]).length ≤ k by simp; omega)]
theorem getD_set (l : List Int) (x : Int) (j k : Nat) : (l.set j x).getD k 0 = l.getD k 0 ∨ (l.set j x).getD k 0 = x := by
  simp only [List.getD_eq_getElem?_getD, List.getElem?_set]
  by_cases h : j = k
  · subst h
    by_cases h2 : j < l.length
    · right; simp [h2]
    · left; simp [h2]
  · left; rw [if_neg h]
theorem digit_range (n b : Int) (hb : 48 ≤ b) : -1 ≤ digit n b ∧ digit n b ≤ 65535 := by unfold digit; omega
theorem PInv.param {N : Nat} {s : PS} (h : PInv N s) (b : Int) (hb : b = 59 ∨ 48 ≤ b ∧ b ≤ 57) : PInv (N + 1) (s.param b) := by
  have hp := par0_facts h
  have hm := h.many
  have hpm : 1 ≤ s.par0.many ∧ s.par0.many ≤ N + 1 := by
    unfold PS.par0
    split
    · exact ⟨by simp, by show (1 : Int) ≤ _; omega⟩
    · exact ⟨by omega, by omega⟩
  have hpo : s.par0.out = s.out ∧ s.par0.dec = s.dec ∧ s.par0.state = s.state := by unfold PS.par0; split <;> exact ⟨rfl, rfl, rfl⟩
  have hout := h.out
  have hst := h.st
  have hdec := h.dec
  unfold PS.param
  rcases hb with rfl | hb
  · rw [if_pos rfl]
    unfold PS.parSemi
    split
    · rename_i h16
      refine ⟨by rw [← hpo.2.2] at hst; exact hst, ⟨by show (0 : Int) ≤ s.par0.many + 1; omega, by show s.par0.many + 1 ≤ _; omega⟩, fun _ _ => ?_, ?_, fun k => ?_, ?_, by show Byts s.par0.dec; rw [hpo.2.1]; exact hdec⟩
      · have := hp.2.1 (by omega)
        show ((s.par0.a.params ++ [-1]).length : Int) = s.par0.many + 1
        rw [List.length_append, List.length_singleton]
        omega
      · have := hp.2.1 (by omega)
        show (s.par0.a.params ++ [-1]).length ≤ 16
        rw [List.length_append, List.length_singleton]
        omega
      · show -1 ≤ (s.par0.a.params ++ [-1]).getD k 0 ∧ (s.par0.a.params ++ [-1]).getD k 0 ≤ 65535
        rcases getD_append_one s.par0.a.params (-1) k with e | e | e
        · rw [e]; exact hp.2.2 k
        · rw [e]; omega
        · rw [e]; omega
      · show s.par0.out.length + s.par0.dec.length ≤ N + 1
        rw [hpo.1, hpo.2.1]
        omega
    · rename_i h16
      refine ⟨by rw [← hpo.2.2] at hst; exact hst, ⟨by show (0 : Int) ≤ s.par0.many + 1; omega, by show s.par0.many + 1 ≤ _; omega⟩, fun h1 _ => ?_, hp.1, hp.2.2, ?_, by show Byts s.par0.dec; rw [hpo.2.1]; exact hdec⟩
      · exact absurd h1 h16
      · show s.par0.out.length + s.par0.dec.length ≤ N + 1
        rw [hpo.1, hpo.2.1]
        omega
  · rw [if_neg (by omega)]
    unfold PS.parDigit
    split
    · refine ⟨by rw [← hpo.2.2] at hst; exact hst, ⟨by show (0 : Int) ≤ s.par0.many; omega, by show s.par0.many ≤ _; omega⟩, fun h1 _ => ?_, ?_, fun k => ?_, ?_, by show Byts s.par0.dec; rw [hpo.2.1]; exact hdec⟩
      · simp only [List.length_set]
        exact hp.2.1 h1
      · simp only [List.length_set]
        exact hp.1
      · rcases getD_set s.par0.a.params (digit (s.par0.a.params.getD (s.par0.many - 1).toNat 0) b) (s.par0.many - 1).toNat k with e | e
        · simp only [e]; exact hp.2.2 k
        · simp only [e]; exact digit_range _ _ hb.1
      · show s.par0.out.length + s.par0.dec.length ≤ N + 1
        rw [hpo.1, hpo.2.1]
        omega
    · exact ⟨by rw [← hpo.2.2] at hst; exact hst, ⟨by omega, by omega⟩, fun h1 _ => hp.2.1 h1, hp.1, hp.2.2, by rw [hpo.1, hpo.2.1]; omega, by rw [hpo.2.1]; exact hdec⟩

theorem PInv.counts {N : Nat} {s : PS} (h : PInv N s) (b first at_ : Int) (hb : 48 ≤ b) (hf : 3 ≤ first ∧ first ≤ 7) : PInv (N + 1) (s.counts b first at_) := by
  unfold PS.counts
  split
  · have h1 : PInv (N + 1) { s with a := { s.a with priv := b } } := PInv.grow (N := N) ⟨h.st, h.many, h.par, h.parL, h.parR, h.out, h.dec⟩ (by omega)
    exact h1.setSt (by omega)
  · split
    · rename_i h1
      exact (h.param b (by omega)).setSt (by omega)
    · exact (h.grow (by omega)).setSt (by omega)
theorem PInv.seq {N : Nat} {s : PS} (h : PInv N s) (b : Int) (_hb : 32 ≤ b ∧ b ≤ 127) (_hs : 3 ≤ s.state ∧ s.state ≤ 10) : PInv (N + 1) (s.seq b) := by
  have hf : s.first = 3 ∨ s.first = 7 := by unfold PS.first; split <;> simp
  unfold PS.seq
  split
  · exact h.grow (by omega)
  split
  · refine (h.grow (by omega)).setSt ?_
    split <;> omega
  split
  · exact h.ends _ _
  split
  · have h1 : PInv (N + 1) { s with a := { s.a with fin := b } } := PInv.grow (N := N) ⟨h.st, h.many, h.par, h.parL, h.parR, h.out, h.dec⟩ (by omega)
    exact h1.setSt (by omega)
  split
  · exact h.grow (by omega)
  split
  · exact ((h.inter b).grow (by omega)).setSt (by omega)
  · exact h.counts _ _ _ (by omega) (by omega)
theorem PInv.esc {N : Nat} {s : PS} (h : PInv N s) (b : Int) : PInv (N + 1) (s.esc b) := by
  have hg : PInv (N + 1) s := h.grow (by omega)
  unfold PS.esc
  repeat' split
  all_goals first
    | exact hg
    | exact h.ends _ _
    | exact hg.setSt (by omega)
    | exact (hg.inter b).setSt (by omega)
theorem PInv.str {N : Nat} {s : PS} (h : PInv N s) (b : Int) : PInv (N + 1) (s.str b) := by
  have hg : PInv (N + 1) s := h.grow (by omega)
  unfold PS.str
  repeat' split
  all_goals first
    | exact hg
    | exact hg.text b
    | exact (h.tells _).setSt (by omega)
theorem PInv.plain {N : Nat} {s : PS} (h : PInv N s) (b : Int) (hb : 0 ≤ b ∧ b ≤ 255) : PInv (N + 1) (s.plain b) := by
  have hbb : Byts [b] := fun j => by
    cases j with
    | zero => simpa using hb
    | succ j => simp
  have hg : PInv (N + 1) s := h.grow (by omega)
  unfold PS.plain
  split
  · have h1 := decLoop_len (s.dec ++ [b])
    rw [List.length_append, List.length_singleton] at h1
    have h2 := prints_len { s with dec := (decLoop (s.dec ++ [b])).2 } (decLoop (s.dec ++ [b])).1
    have h3 := h.out
    refine ⟨h.st, ⟨h.many.1, by have := h.many.2; show s.many ≤ _; omega⟩, h.par, h.parL, h.parR, ?_, decLoop_byts _ (h.dec.append hbb)⟩
    show (({ s with dec := (decLoop (s.dec ++ [b])).2 } : PS).prints (decLoop (s.dec ++ [b])).1).out.length + (decLoop (s.dec ++ [b])).2.length ≤ N + 1
    have h4 : ({ s with dec := (decLoop (s.dec ++ [b])).2 } : PS).out.length = s.out.length := rfl
    omega
  split
  · exact h.tells _
  split
  · have h2 := prints_len s [b]
    have h3 := h.out
    refine ⟨h.st, ⟨h.many.1, by have := h.many.2; show s.many ≤ _; omega⟩, h.par, h.parL, h.parR, ?_, h.dec⟩
    show (s.prints [b]).out.length + s.dec.length ≤ N + 1
    rw [List.length_singleton] at h2
    omega
  · exact hg
/-- a byte keeps the bounds -/
theorem PInv.one {N : Nat} {s : PS} (h : PInv N s) (b : Int) (hb : 0 ≤ b ∧ b ≤ 255) : PInv (N + 1) (s.one b) := by
  have hp := pre_inv h b
  unfold PS.one
  generalize s.pre b = s1 at *
  have hg : PInv (N + 1) s1 := hp.grow (by omega)
  unfold PS.sw
  split
  · exact (hp.setSt (st := 0) (by omega)).tells _
  split
  · have h0 : PInv (N + 1) s1.ends0 := by
      unfold PS.ends0
      split
      · exact hp.tells _
      split
      · exact hp.tells _
      · exact hg
    refine ⟨by show (0 : Int) ≤ 1 ∧ (1 : Int) ≤ 13; omega, ⟨by show (0 : Int) ≤ 0; omega, by show (0 : Int) ≤ _; omega⟩, fun _ h1 => absurd h1 (by show ¬ (1 : Int) ≤ 0; omega), by simp [PS.esc0, act0], fun k => by simp [PS.esc0, act0], h0.out, h0.dec⟩
  split
  · exact hp.plain b hb
  split
  · exact hp.str b
  split
  · exact hg
  split
  · split
    · exact hp.tells _
    · exact hg
  split
  · exact hp.esc b
  · rename_i k1 k2 k3 k4 k5 k6 k7
    have := hp.st
    exact hp.seq b (by omega) (by omega)

def PS.run (s : PS) (l : List Int) : PS := l.foldl PS.one s
theorem PS.run_snoc (s : PS) (l : List Int) (b : Int) : s.run (l ++ [b]) = (s.run l).one b := by simp [PS.run, List.foldl_append]
theorem PInv.run {N : Nat} {s : PS} (h : PInv N s) (l : List Int) (hl : Byts l) : PInv (N + l.length) (s.run l) := by
  induction l generalizing s N with
  | nil => exact h
  | cons b l ih =>
    have hb : 0 ≤ b ∧ b ≤ 255 := by simpa using hl 0
    have := ih (h.one b hb) (by simpa using hl.drop 1)
    rw [List.length_cons]
    exact this.grow (by omega)
end Go.Proofs.YtopaeikddlpecaaDoor
