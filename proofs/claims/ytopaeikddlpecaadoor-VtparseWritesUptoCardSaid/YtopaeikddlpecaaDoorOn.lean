/-
  Plain law: what a parser holds already stands ahead of what it tells: a run with actions held is the run without them, behind them. Conditions: none.
-/
import Derived.Test.YtopaeikddlpecaaDoorInv
namespace Go.Proofs.YtopaeikddlpecaaDoor
open Go.RowKit

/-- the same parser, these actions ahead -/
def PS.on (s : PS) (o : List PAct) : PS := { s with out := o ++ s.out }

section
variable (s : PS) (o : List PAct)
theorem on_tells (p : PAct) : (s.on o).tells p = (s.tells p).on o := by simp [PS.on, PS.tells]
theorem on_prints (l : List Int) : (s.on o).prints l = (s.prints l).on o := by simp [PS.on, PS.prints]
theorem on_tellK (k : Int) : (s.on o).tellK k = (s.tellK k).on o := on_tells s o _
theorem on_inter (b : Int) : (s.on o).inter b = (s.inter b).on o := by
  unfold PS.inter
  by_cases h : s.a.inter.size < 2
  · rw [if_pos (show (s.on o).a.inter.size < 2 from h), if_pos h]; rfl
  · rw [if_neg (show ¬ (s.on o).a.inter.size < 2 from h), if_neg h]
theorem on_text (b : Int) : (s.on o).text b = (s.text b).on o := by
  unfold PS.text
  by_cases h : s.a.text.size < 1024
  · rw [if_pos (show (s.on o).a.text.size < 1024 from h), if_pos h]; rfl
  · rw [if_neg (show ¬ (s.on o).a.text.size < 1024 from h), if_neg h]
theorem on_par0 : (s.on o).par0 = s.par0.on o := by
  unfold PS.par0
  by_cases h : s.many = 0
  · rw [if_pos (show (s.on o).many = 0 from h), if_pos h]; rfl
  · rw [if_neg (show ¬ (s.on o).many = 0 from h), if_neg h]
theorem on_parSemi : (s.on o).parSemi = s.parSemi.on o := by
  unfold PS.parSemi
  by_cases h : s.many + 1 ≤ 16
  · rw [if_pos (show (s.on o).many + 1 ≤ 16 from h), if_pos h]; rfl
  · rw [if_neg (show ¬ (s.on o).many + 1 ≤ 16 from h), if_neg h]; rfl
theorem on_parDigit (b : Int) : (s.on o).parDigit b = (s.parDigit b).on o := by
  unfold PS.parDigit
  by_cases h : s.many ≤ 16
  · rw [if_pos (show (s.on o).many ≤ 16 from h), if_pos h]; rfl
  · rw [if_neg (show ¬ (s.on o).many ≤ 16 from h), if_neg h]
theorem on_param (b : Int) : (s.on o).param b = (s.param b).on o := by
  unfold PS.param
  split
  · rw [on_par0, on_parSemi]
  · rw [on_par0, on_parDigit]
theorem on_ends (b k : Int) : (s.on o).ends b k = (s.ends b k).on o := by simp [PS.ends, PS.on, PS.tellK, PS.tells]
theorem on_flush : (s.on o).flush = s.flush.on o := on_prints { s with dec := [] } o _
theorem on_high (b : Int) : (s.on o).high b = (s.high b).on o := on_prints { s with dec := (decLoop (s.dec ++ [b])).2 } o _
theorem on_plain (b : Int) : (s.on o).plain b = (s.plain b).on o := by
  unfold PS.plain
  repeat' split
  all_goals first | rfl | exact on_high s o b | exact on_tells s o _ | exact on_prints s o _
theorem on_st (st : Int) : ({ s.on o with state := st } : PS) = ({ s with state := st } : PS).on o := rfl
theorem on_str (b : Int) : (s.on o).str b = (s.str b).on o := by
  have e : (s.on o).state = s.state := rfl
  unfold PS.str
  rw [e]
  repeat' split
  all_goals first | rfl | exact on_text s o b | (rw [on_tellK]; rfl)
theorem on_esc (b : Int) : (s.on o).esc b = (s.esc b).on o := by
  have e : (s.on o).state = s.state := rfl
  unfold PS.esc
  rw [e]
  repeat' split
  all_goals first | rfl | exact on_ends s o b _ | (rw [on_inter]; rfl)
theorem on_counts (b f t : Int) : (s.on o).counts b f t = (s.counts b f t).on o := by
  unfold PS.counts
  repeat' split
  all_goals first | rfl | (rw [on_param]; rfl)
theorem on_seq (b : Int) : (s.on o).seq b = (s.seq b).on o := by
  have e : (s.on o).state = s.state := rfl
  have e2 : (s.on o).first = s.first := rfl
  unfold PS.seq
  rw [e, e2]
  repeat' split
  all_goals first | rfl | exact on_ends s o b _ | exact on_counts s o b _ _ | (rw [on_inter]; rfl)
theorem on_ends0 : (s.on o).ends0 = s.ends0.on o := by
  have e : (s.on o).state = s.state := rfl
  unfold PS.ends0
  rw [e]
  repeat' split
  all_goals first | rfl | exact on_tellK s o _
theorem on_sw (b : Int) : (s.on o).sw b = (s.sw b).on o := by
  have e : (s.on o).state = s.state := rfl
  unfold PS.sw
  rw [e]
  repeat' split
  all_goals first | rfl | exact on_tells { s with state := 0 } o _ | exact on_tells s o _ | (rw [on_ends0]; rfl) | exact on_plain s o b | exact on_str s o b | exact on_esc s o b | exact on_seq s o b
theorem on_one (b : Int) : (s.on o).one b = (s.one b).on o := by
  have e : (s.on o).pre b = (s.pre b).on o := by
    unfold PS.pre
    by_cases h : s.state = 0 ∧ b < 128
    · rw [if_pos (show (s.on o).state = 0 ∧ b < 128 from h), if_pos h, on_flush]
    · rw [if_neg (show ¬ ((s.on o).state = 0 ∧ b < 128) from h), if_neg h]
  unfold PS.one
  rw [e, on_sw]
end
theorem on_run (s : PS) (o : List PAct) (l : List Int) : (s.on o).run l = (s.run l).on o := by
  induction l generalizing s with
  | nil => rfl
  | cons b l ih =>
    show ((s.on o).one b).run l = _
    rw [on_one, ih]
    rfl
/-- two Puts in a row tell what one tells -/
theorem run_two (s : PS) (l1 l2 : List Int) : s.run (l1 ++ l2) = (({ s.run l1 with out := [] } : PS).run l2).on (s.run l1).out := by
  have e : s.run (l1 ++ l2) = (s.run l1).run l2 := by simp [PS.run, List.foldl_append]
  rw [e, ← on_run]
  congr 1
  simp [PS.on]
end Go.Proofs.YtopaeikddlpecaaDoor
