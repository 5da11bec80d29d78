/-
  What holds of all actions that a parser tells: kinds from 1 to 6, parameters, intermediates, texts within their bounds. Plain: no program in sight.
-/
import Derived.Test.YtopaeikddlpecaaDoorAll
namespace Go.Proofs.YtopaeikddlpecaaDoor
open Go.RowKit

structure ActOK (a : PAct) : Prop where
  kind : 1 ≤ a.kind ∧ a.kind ≤ 6
  parL : a.params.length ≤ 16
  parR : ∀ k, -1 ≤ a.params.getD k 0 ∧ a.params.getD k 0 ≤ 65535
  inter : a.inter.size ≤ 2
  text : a.text.size ≤ 1024

structure OutOK (s : PS) : Prop where
  out : ∀ a ∈ s.out, ActOK a
  inter : s.a.inter.size ≤ 2
  text : s.a.text.size ≤ 1024

theorem actOK_exec (b : Int) : ActOK (aExec b) := ⟨by simp [aExec], by simp [aExec, act0], fun k => by simp [aExec, act0], by simp [aExec, act0, ByteArray.size], by simp [aExec, act0, ByteArray.size]⟩
theorem actOK_print (r : Int) : ActOK (aPrint r) := ⟨by simp [aPrint], by simp [aPrint, act0], fun k => by simp [aPrint, act0], by simp [aPrint, act0, ByteArray.size], by simp [aPrint, act0, ByteArray.size]⟩

section
variable {s : PS}
theorem OutOK.tells (h : OutOK s) {p : PAct} (hp : ActOK p) : OutOK (s.tells p) := by
  refine ⟨fun a ha => ?_, h.inter, h.text⟩
  simp only [PS.tells, List.mem_append, List.mem_singleton] at ha
  rcases ha with ha | rfl
  · exact h.out a ha
  · exact hp
theorem OutOK.tellK {N : Nat} (h : OutOK s) (hi : PInv N s) {k : Int} (hk : 1 ≤ k ∧ k ≤ 6) : OutOK (s.tellK k) := h.tells ⟨hk, hi.parL, hi.parR, h.inter, h.text⟩
theorem OutOK.prints (h : OutOK s) (l : List Int) : OutOK (s.prints l) := by
  refine ⟨fun a ha => ?_, h.inter, h.text⟩
  simp only [PS.prints, List.mem_append, List.mem_map] at ha
  rcases ha with ha | ⟨r, _, rfl⟩
  · exact h.out a ha
  · exact actOK_print r
theorem OutOK.st (h : OutOK s) (st : Int) : OutOK { s with state := st } := ⟨h.out, h.inter, h.text⟩
theorem encode_small (b : Int) (h0 : 0 ≤ b) (h : b < 128) : (Utf8.encode b).size = 1 := by
  obtain ⟨n, rfl⟩ := Int.eq_ofNat_of_zero_le h0
  have hv : Utf8.valid (n : Int) = true := by simp [Utf8.valid]; omega
  simp only [Utf8.encode, hv, if_true, Int.toNat_natCast]
  rw [if_pos (by omega)]
  rfl
theorem OutOK.inter' (h : OutOK s) (b : Int) (h0 : 0 ≤ b) (hb : b < 128) : OutOK (s.inter b) := by
  unfold PS.inter
  split
  · refine ⟨h.out, ?_, h.text⟩
    show (s.a.inter ++ Utf8.encode b).size ≤ 2
    rw [ByteArray.size_append, encode_small b h0 hb]
    omega
  · exact h
theorem OutOK.text' (h : OutOK s) (b : Int) : OutOK (s.text b) := by
  unfold PS.text
  split
  · refine ⟨h.out, h.inter, ?_⟩
    show (s.a.text ++ strOfNums [b]).size ≤ 1024
    rw [ByteArray.size_append, strOfNums_size]
    simp only [List.length_singleton]
    omega
  · exact h
theorem OutOK.ends {N : Nat} (h : OutOK s) (hi : PInv N s) (b : Int) {k : Int} (hk : 1 ≤ k ∧ k ≤ 6) : OutOK (s.ends b k) := by
  have h1 : OutOK { s with a := { s.a with fin := b } } := ⟨h.out, h.inter, h.text⟩
  have h2 : PInv N { s with a := { s.a with fin := b } } := ⟨hi.st, hi.many, hi.par, hi.parL, hi.parR, hi.out, hi.dec⟩
  exact (h1.tellK h2 hk).st 0
theorem OutOK.param (h : OutOK s) (b : Int) : OutOK (s.param b) := by
  have h0 : OutOK s.par0 := by
    unfold PS.par0
    split
    · exact ⟨h.out, h.inter, h.text⟩
    · exact h
  unfold PS.param PS.parSemi PS.parDigit
  repeat' split
  all_goals exact ⟨h0.out, h0.inter, h0.text⟩
theorem OutOK.counts (h : OutOK s) (b f a : Int) : OutOK (s.counts b f a) := by
  unfold PS.counts
  split
  · exact ⟨h.out, h.inter, h.text⟩
  split
  · exact (h.param b).st _
  · exact h.st _
theorem OutOK.seq {N : Nat} (h : OutOK s) (hi : PInv N s) (b : Int) (hb : 32 ≤ b ∧ b ≤ 127) : OutOK (s.seq b) := by
  unfold PS.seq
  split
  · exact h
  split
  · exact h.st _
  split
  · exact h.ends hi _ (by omega)
  split
  · exact ⟨h.out, h.inter, h.text⟩
  split
  · exact h
  split
  · exact (h.inter' b (by omega) (by omega)).st _
  · exact h.counts _ _ _
theorem OutOK.esc {N : Nat} (h : OutOK s) (hi : PInv N s) (b : Int) (hb : 0 ≤ b) : OutOK (s.esc b) := by
  unfold PS.esc
  split
  · exact h
  split
  · exact (h.inter' b hb (by omega)).st _
  repeat' split
  all_goals first
    | exact h.st _
    | exact h.ends hi _ (by omega)
theorem OutOK.str {N : Nat} (h : OutOK s) (hi : PInv N s) (b : Int) : OutOK (s.str b) := by
  unfold PS.str
  repeat' split
  all_goals first
    | exact h
    | exact h.text' b
    | exact (h.tellK hi (by omega)).st _
theorem OutOK.plain (h : OutOK s) (b : Int) : OutOK (s.plain b) := by
  unfold PS.plain
  split
  · have h1 : OutOK { s with dec := (decLoop (s.dec ++ [b])).2 } := ⟨h.out, h.inter, h.text⟩
    exact h1.prints _
  split
  · exact h.tells (actOK_exec b)
  split
  · exact h.prints _
  · exact h
theorem OutOK.flush (h : OutOK s) : OutOK s.flush := by
  have h1 : OutOK { s with dec := [] } := ⟨h.out, h.inter, h.text⟩
  exact h1.prints _
theorem OutOK.one {N : Nat} (h : OutOK s) (hi : PInv N s) (b : Int) (hb : 0 ≤ b ∧ b ≤ 255) : OutOK (s.one b) := by
  have hp := pre_inv hi b
  have h1 : OutOK (s.pre b) := by
    unfold PS.pre
    split
    · exact h.flush
    · exact h
  unfold PS.one
  generalize s.pre b = s1 at *
  unfold PS.sw
  split
  · exact (h1.st 0).tells (actOK_exec b)
  split
  · have h0 : OutOK s1.ends0 := by
      unfold PS.ends0
      split
      · exact h1.tellK hp (by omega)
      split
      · exact h1.tellK hp (by omega)
      · exact h1
    exact ⟨h0.out, by simp [PS.esc0, act0, ByteArray.size], by simp [PS.esc0, act0, ByteArray.size]⟩
  split
  · exact h1.plain b
  split
  · exact h1.str hp b
  split
  · exact h1
  split
  · split
    · exact h1.tells (actOK_exec b)
    · exact h1
  split
  · exact h1.esc hp b hb.1
  · exact h1.seq hp b (by omega)
theorem OutOK.run {N : Nat} (h : OutOK s) (hi : PInv N s) (l : List Int) (hl : Byts l) : OutOK (s.run l) := by
  induction l generalizing s N with
  | nil => exact h
  | cons b l ih =>
    have hb : 0 ≤ b ∧ b ≤ 255 := by simpa using hl 0
    exact ih (h.one hi b hb) (hi.one b hb) (by simpa using hl.drop 1)
end
theorem PS0_ok : OutOK PS0 := ⟨fun a ha => by simp [PS0] at ha, by simp [PS0, act0, ByteArray.size], by simp [PS0, act0, ByteArray.size]⟩
theorem allP_ok (bs : List Int) (hb : Byts bs) : ∀ a ∈ allP bs, ActOK a := by
  have h := PS0_ok.run PS0_inv bs hb
  intro a ha
  simp only [allP, List.mem_append] at ha
  rcases ha with ha | ha
  · exact h.out a ha
  · have h1 : OutOK (PS0.run bs).clear := ⟨fun a ha => by simp [PS.clear] at ha, h.inter, h.text⟩
    have h2 : OutOK (PS0.run bs).tail := by
      unfold PS.tail
      split
      · exact h1.flush
      · exact h1
    exact h2.out a ha
end Go.Proofs.YtopaeikddlpecaaDoor
