/-
  Plain law: behind CAN or SUB the parser stands on the ground and its last action tells that byte; on the ground the action under way does not matter. Conditions: none; plain lemmas.
-/
import Derived.Test.YtopaeikddlpecaaDoorInv
namespace Go.Proofs.YtopaeikddlpecaaDoor
open Go.RowKit

/-- off the ground no byte is held -/
def PS.Tidy (s : PS) : Prop := s.state ≠ 0 → s.dec = []

theorem par0_dec (s : PS) : s.par0.dec = s.dec := by unfold PS.par0; split <;> rfl
theorem parSemi_dec (s : PS) : s.parSemi.dec = s.dec := by unfold PS.parSemi; split <;> rfl
theorem parDigit_dec (s : PS) (b : Int) : (s.parDigit b).dec = s.dec := by unfold PS.parDigit; split <;> rfl
theorem param_dec (s : PS) (b : Int) : (s.param b).dec = s.dec := by
  unfold PS.param
  split
  · rw [parSemi_dec, par0_dec]
  · rw [parDigit_dec, par0_dec]
theorem inter_dec (s : PS) (b : Int) : (s.inter b).dec = s.dec := by unfold PS.inter; split <;> rfl
theorem text_dec (s : PS) (b : Int) : (s.text b).dec = s.dec := by unfold PS.text; split <;> rfl
theorem str_dec (s : PS) (b : Int) : (s.str b).dec = s.dec := by
  unfold PS.str
  repeat' split
  all_goals first | rfl | exact text_dec s b
theorem esc_dec (s : PS) (b : Int) : (s.esc b).dec = s.dec := by
  unfold PS.esc
  repeat' split
  all_goals first | rfl | exact inter_dec s b
theorem counts_dec (s : PS) (b f t : Int) : (s.counts b f t).dec = s.dec := by
  unfold PS.counts
  repeat' split
  all_goals first | rfl | exact param_dec s b
theorem seq_dec (s : PS) (b : Int) : (s.seq b).dec = s.dec := by
  unfold PS.seq
  repeat' split
  all_goals first | rfl | exact inter_dec s b | exact counts_dec s b _ _
theorem ends0_dec (s : PS) : s.ends0.dec = s.dec := by
  unfold PS.ends0
  repeat' split
  all_goals rfl
theorem sw_dec (s : PS) (b : Int) (h : s.state ≠ 0) : (s.sw b).dec = s.dec := by
  unfold PS.sw
  repeat' split
  all_goals first | rfl | exact ends0_dec s | (exfalso; exact h ‹_›) | exact str_dec s b | exact esc_dec s b | exact seq_dec s b

theorem plain_state (s : PS) (b : Int) : (s.plain b).state = s.state := by
  unfold PS.plain
  repeat' split
  all_goals rfl
theorem PS.Tidy.one {s : PS} (h : s.Tidy) (b : Int) : (s.one b).Tidy := by
  intro hs
  by_cases h0 : s.state = 0
  · unfold PS.one PS.pre at hs ⊢
    by_cases hb : b < 128
    · rw [if_pos ⟨h0, hb⟩] at hs ⊢
      have hf : s.flush.state = 0 := h0
      unfold PS.sw at hs ⊢
      split
      · rfl
      · split
        · rw [show s.flush.ends0.esc0.dec = s.flush.ends0.dec from rfl, ends0_dec]; rfl
        · rename_i k1 k2
          rw [if_neg k1, if_neg k2, if_pos hf, plain_state] at hs
          exact absurd hf hs
    · rw [if_neg (fun k => hb k.2)] at hs ⊢
      unfold PS.sw at hs
      rw [if_neg (by omega), if_neg (by omega), if_pos h0, plain_state] at hs
      exact absurd h0 hs
  · have e : s.one b = s.sw b := by unfold PS.one PS.pre; rw [if_neg (fun k => h0 k.1)]
    rw [e, sw_dec s b h0]
    exact h h0
theorem PS.Tidy.run {s : PS} (h : s.Tidy) (l : List Int) : (s.run l).Tidy := by
  induction l generalizing s with
  | nil => exact h
  | cons b l ih => exact ih (h.one b)

/-- what CAN and SUB do -/
theorem cancel_one {s : PS} (h : s.Tidy) {x : Int} (hx : x = 24 ∨ x = 26) : ∃ l, (s.one x).out = l ++ [aExec x] ∧ (s.one x).state = 0 ∧ (s.one x).dec = [] := by
  have hb : x < 128 := by omega
  unfold PS.one PS.sw
  rw [if_pos hx]
  refine ⟨(s.pre x).out, rfl, rfl, ?_⟩
  show (s.pre x).dec = []
  unfold PS.pre
  split
  · rfl
  · rename_i k
    exact h fun h0 => k ⟨h0, hb⟩

/-- the same but for an action under way on the ground -/
def PS.Like (s t : PS) : Prop := s.state = t.state ∧ s.dec = t.dec ∧ s.out = t.out ∧ (s.state ≠ 0 → s = t)
theorem PS.Like.one {s t : PS} (h : s.Like t) (b : Int) : (s.one b).Like (t.one b) := by
  by_cases h0 : s.state = 0
  · obtain ⟨h1, h2, h3, _⟩ := h
    obtain ⟨s1, s2, s3, s4, s5⟩ := s
    obtain ⟨t1, t2, t3, t4, t5⟩ := t
    simp only at h0 h1 h2 h3
    subst h0 h1 h2 h3
    have key : ∀ u : PS, u.state = 0 → ∀ v : PS, v.state = 0 → u.dec = v.dec → u.out = v.out → (u.sw b).Like (v.sw b) := by
      rintro ⟨u1, u2, u3, u4, u5⟩ hu ⟨v1, v2, v3, v4, v5⟩ hv hd ho
      simp only at hu hv hd ho
      subst hu hv hd ho
      unfold PS.sw
      by_cases k1 : b = 24 ∨ b = 26
      · simp only [if_pos k1]
        exact ⟨rfl, rfl, rfl, fun k => absurd rfl k⟩
      · by_cases k2 : b = 27
        · simp only [if_neg k1, if_pos k2]
          exact ⟨rfl, rfl, rfl, fun _ => rfl⟩
        · simp only [if_neg k1, if_neg k2, if_true]
          unfold PS.plain
          repeat' split
          all_goals exact ⟨rfl, rfl, rfl, fun k => absurd rfl k⟩
    unfold PS.one PS.pre
    simp only [true_and]
    split
    · exact key _ rfl _ rfl rfl rfl
    · exact key _ rfl _ rfl rfl rfl
  · rw [h.2.2.2 h0]
    exact ⟨rfl, rfl, rfl, fun _ => rfl⟩
theorem PS.Like.run {s t : PS} (h : s.Like t) (l : List Int) : (s.run l).Like (t.run l) := by
  induction l generalizing s t with
  | nil => exact h
  | cons b l ih => exact ih (h.one b)
end Go.Proofs.YtopaeikddlpecaaDoor
