/-
  The document's decoder and parser (lanyardref01, lanyardref05) as plain functions, and the law that they tell what the program's tell ('Sim'). Plain: no program in sight.
-/
import Derived.Test.YtopaeikddlpecaaDoorCan
import Derived.Test.YtopaeikddlpecaaDoorAll
import Derived.Test.YtopaeikddlpecaaDoorOn
namespace Go.Proofs.YtopaeikddlpecaaDoor
open Go.RowKit

/-! ### the decoder -/
def needB (x : Int) : Int := if x < 128 then 1 else if 194 ≤ x ∧ x ≤ 223 then 2 else if 224 ≤ x ∧ x ≤ 239 then 3 else if 240 ≤ x ∧ x ≤ 244 then 4 else 0
def badAt (l : List Int) (k : Nat) : Bool := (decide (k = 1) && (decide (l.getD 1 0 < loB (l.getD 0 0)) || decide (hiB (l.getD 0 0) < l.getD 1 0))) || decide (l.getD k 0 < 128) || decide (191 < l.getD k 0)
/-- the loop of Head: k bytes stand already; d rounds are left -/
def headFrom (l : List Int) (n : Int) : Nat → Nat → Int × Int
  | 0, k => (k, n)
  | d + 1, k => if (k : Int) < n ∧ k < l.length then (if badAt l k = true then (0, n) else headFrom l n d (k + 1)) else (k, n)
def headB (l : List Int) : Int × Int := if l.length < 1 then (0, 0) else if needB (l.getD 0 0) = 0 then (0, 0) else headFrom l (needB (l.getD 0 0)) 4 1
def valB (l : List Int) : Int :=
  if l.length = 1 then l.getD 0 0 else if l.length = 2 then val2 (l.getD 0 0) (l.getD 1 0) else if l.length = 3 then val3 (l.getD 0 0) (l.getD 1 0) (l.getD 2 0) else val4 (l.getD 0 0) (l.getD 1 0) (l.getD 2 0) (l.getD 3 0)

theorem badAt_one (l : List Int) : badAt l 1 = true ↔ l.getD 1 0 < loB (l.getD 0 0) ∨ hiB (l.getD 0 0) < l.getD 1 0 := by
  have h1 : 128 ≤ loB (l.getD 0 0) := by unfold loB; repeat' split
                                         all_goals omega
  have h2 : hiB (l.getD 0 0) ≤ 191 := by unfold hiB; repeat' split
                                         all_goals omega
  simp only [badAt, Bool.or_eq_true, Bool.and_eq_true, decide_eq_true_eq, decide_true, true_and]
  omega
theorem badAt_more (l : List Int) (k : Nat) (h : 2 ≤ k) : badAt l k = true ↔ l.getD k 0 < 128 ∨ 191 < l.getD k 0 := by
  have h1 : decide (k = 1) = false := by simp; omega
  simp only [badAt, h1, Bool.false_and, Bool.false_or, Bool.or_eq_true, decide_eq_true_eq]
theorem headFrom_go {l : List Int} {n : Int} {d k : Nat} (h1 : (k : Int) < n) (h2 : k < l.length) : headFrom l n (d + 1) k = if badAt l k = true then (0, n) else headFrom l n d (k + 1) := by
  rw [headFrom, if_pos ⟨h1, h2⟩]
theorem headFrom_end {l : List Int} {n : Int} {d k : Nat} (h : ¬ ((k : Int) < n ∧ k < l.length)) : headFrom l n d k = ((k : Int), n) := by
  cases d with
  | zero => rfl
  | succ d => rw [headFrom, if_neg h]

/-- a whole form -/
def Whole (l : List Int) (n : Nat) : Prop := headB l = ((n : Int), (n : Int)) ∧ 1 ≤ n ∧ n ≤ l.length ∧ full l = true ∧ dec l = (valB (l.take n), (n : Int))
/-- a form begun -/
def Begun (l : List Int) (n : Int) : Prop := headB l = ((l.length : Int), n) ∧ (l.length : Int) < n ∧ n ≤ 4 ∧ full l = false ∧ dec l = (65533, 1)
/-- no form -/
def NoForm (l : List Int) (n : Int) : Prop := headB l = (0, n) ∧ 0 ≤ n ∧ n ≤ 4 ∧ full l = true ∧ dec l = (65533, 1)

theorem take_getD (l : List Int) {k n : Nat} (h : k < n) : (l.take n).getD k 0 = l.getD k 0 := by
  simp only [List.getD_eq_getElem?_getD, List.getElem?_take, if_pos h]
theorem valB_take (l : List Int) (n : Nat) (hn : n ≤ l.length) :
    valB (l.take n) = if n = 1 then (l.take n).getD 0 0 else if n = 2 then val2 ((l.take n).getD 0 0) ((l.take n).getD 1 0) else if n = 3 then val3 ((l.take n).getD 0 0) ((l.take n).getD 1 0) ((l.take n).getD 2 0) else val4 ((l.take n).getD 0 0) ((l.take n).getD 1 0) ((l.take n).getD 2 0) ((l.take n).getD 3 0) := by
  have e : (l.take n).length = n := by rw [List.length_take]; omega
  rw [valB, e]

/-- what Head says is what DecodeRune and FullRune say -/
theorem head_cases (l : List Int) (h : l ≠ []) (hb : Byts l) : (∃ n, Whole l n) ∨ (∃ n, Begun l n) ∨ ∃ n, NoForm l n := by
  have hl : 1 ≤ l.length := by cases l <;> simp_all
  have b0 := hb 0
  have e1 := badAt_one l
  have e2 := badAt_more l 2 (by omega)
  have e3 := badAt_more l 3 (by omega)
  have v1 := valB_take l 1
  have v2 := valB_take l 2
  have v3 := valB_take l 3
  have v4 := valB_take l 4
  have t11 := take_getD l (k := 0) (n := 1) (by omega)
  have t20 := take_getD l (k := 0) (n := 2) (by omega)
  have t21 := take_getD l (k := 1) (n := 2) (by omega)
  have t30 := take_getD l (k := 0) (n := 3) (by omega)
  have t31 := take_getD l (k := 1) (n := 3) (by omega)
  have t32 := take_getD l (k := 2) (n := 3) (by omega)
  have t40 := take_getD l (k := 0) (n := 4) (by omega)
  have t41 := take_getD l (k := 1) (n := 4) (by omega)
  have t42 := take_getD l (k := 2) (n := 4) (by omega)
  have t43 := take_getD l (k := 3) (n := 4) (by omega)
  have hh : headB l = if needB (l.getD 0 0) = 0 then (0, 0) else headFrom l (needB (l.getD 0 0)) 4 1 := by rw [headB, if_neg (by omega)]
  have hd : dec l = dec l := rfl
  conv at hd => rhs; unfold dec
  have hf : full l = full l := rfl
  conv at hf => rhs; unfold full
  rw [if_neg (show ¬ l.length < 1 by omega)] at hd hf
  unfold Whole Begun NoForm
  rcases (by omega : l.getD 0 0 < 128 ∨ (128 ≤ l.getD 0 0 ∧ l.getD 0 0 < 194) ∨ (194 ≤ l.getD 0 0 ∧ l.getD 0 0 < 224) ∨ (224 ≤ l.getD 0 0 ∧ l.getD 0 0 < 240) ∨ (240 ≤ l.getD 0 0 ∧ l.getD 0 0 ≤ 244) ∨ 244 < l.getD 0 0) with c | c | c | c | c | c
  · have hn : needB (l.getD 0 0) = 1 := by unfold needB; rw [if_pos c]
    rw [hn, if_neg (by omega), headFrom_end (by omega)] at hh
    rw [if_pos c] at hd
    rw [if_pos (by omega)] at hf
    refine .inl ⟨1, hh, by omega, by omega, hf, ?_⟩
    rw [hd, v1 hl, if_pos rfl, t11]; rfl
  · have hn : needB (l.getD 0 0) = 0 := by unfold needB; rw [if_neg (by omega), if_neg (by omega), if_neg (by omega), if_neg (by omega)]
    rw [hn, if_pos rfl] at hh
    rw [if_neg (by omega), if_pos (by omega)] at hd
    rw [if_pos (by omega)] at hf
    exact .inr (.inr ⟨0, hh, by omega, by omega, hf, hd⟩)
  · have hn : needB (l.getD 0 0) = 2 := by unfold needB; rw [if_neg (by omega), if_pos (by omega)]
    rw [hn, if_neg (by omega)] at hh
    rw [if_neg (by omega), if_neg (by omega), if_neg (by omega)] at hd
    rw [if_neg (by omega), if_neg (by omega)] at hf
    by_cases l2 : l.length < 2
    · rw [headFrom_end (by omega)] at hh
      rw [if_pos l2] at hd hf
      exact .inr (.inl ⟨2, by rw [hh]; congr 1; omega, by omega, by omega, hf, hd⟩)
    · rw [headFrom_go (by omega) (by omega), headFrom_end (by omega)] at hh
      rw [if_neg l2] at hd hf
      rw [if_pos (by omega)] at hf
      by_cases g1 : badAt l 1 = true
      · rw [if_pos g1] at hh
        refine .inr (.inr ⟨2, hh, by omega, by omega, hf, ?_⟩)
        rcases e1.1 g1 with k | k
        · rw [if_pos k] at hd; exact hd
        · rw [if_pos k] at hd; rw [hd]; split <;> rfl
      · rw [if_neg g1] at hh
        have n1 : ¬ l.getD 1 0 < loB (l.getD 0 0) := fun k => g1 (e1.2 (.inl k))
        have n2 : ¬ hiB (l.getD 0 0) < l.getD 1 0 := fun k => g1 (e1.2 (.inr k))
        rw [if_neg n1, if_neg n2, if_pos (by omega)] at hd
        refine .inl ⟨2, hh, by omega, by omega, hf, ?_⟩
        rw [hd, v2 (by omega), if_neg (by omega), if_pos rfl, t20, t21]; rfl
  · have hn : needB (l.getD 0 0) = 3 := by unfold needB; rw [if_neg (by omega), if_neg (by omega), if_pos (by omega)]
    rw [hn, if_neg (by omega)] at hh
    rw [if_neg (by omega), if_neg (by omega), if_neg (by omega)] at hd
    rw [if_neg (by omega), if_neg (by omega)] at hf
    by_cases l2 : l.length < 2
    · rw [headFrom_end (by omega)] at hh
      rw [if_pos l2] at hd hf
      exact .inr (.inl ⟨3, by rw [hh]; congr 1; omega, by omega, by omega, hf, hd⟩)
    · rw [headFrom_go (by omega) (by omega)] at hh
      rw [if_neg l2] at hd hf
      rw [if_neg (by omega)] at hf
      by_cases g1 : badAt l 1 = true
      · rw [if_pos g1] at hh
        refine .inr (.inr ⟨3, hh, by omega, by omega, ?_, ?_⟩)
        · rcases e1.1 g1 with k | k
          · rw [if_pos k] at hf; exact hf
          · rw [if_pos k] at hf; rw [hf]; split <;> rfl
        · rcases e1.1 g1 with k | k
          · rw [if_pos k] at hd; exact hd
          · rw [if_pos k] at hd; rw [hd]; split <;> rfl
      · rw [if_neg g1] at hh
        have n1 : ¬ l.getD 1 0 < loB (l.getD 0 0) := fun k => g1 (e1.2 (.inl k))
        have n2 : ¬ hiB (l.getD 0 0) < l.getD 1 0 := fun k => g1 (e1.2 (.inr k))
        rw [if_neg n1, if_neg n2, if_neg (by omega)] at hd
        rw [if_neg n1, if_neg n2] at hf
        by_cases l3 : l.length < 3
        · rw [headFrom_end (by omega)] at hh
          rw [if_pos l3] at hd hf
          exact .inr (.inl ⟨3, by rw [hh]; congr 1; omega, by omega, by omega, hf, hd⟩)
        · rw [headFrom_go (by omega) (by omega), headFrom_end (by omega)] at hh
          rw [if_neg l3] at hd hf
          rw [if_pos (by omega)] at hf
          by_cases g2 : badAt l 2 = true
          · rw [show (1 : Nat) + 1 = 2 from rfl, if_pos g2] at hh
            refine .inr (.inr ⟨3, hh, by omega, by omega, hf, ?_⟩)
            rcases e2.1 g2 with k | k
            · rw [if_pos k] at hd; exact hd
            · rw [if_pos k] at hd; rw [hd]; split <;> rfl
          · rw [show (1 : Nat) + 1 = 2 from rfl, if_neg g2] at hh
            rw [if_neg fun k => g2 (e2.2 (.inl k)), if_neg fun k => g2 (e2.2 (.inr k)), if_pos (by omega)] at hd
            refine .inl ⟨3, hh, by omega, by omega, hf, ?_⟩
            rw [hd, v3 (by omega), if_neg (by omega), if_neg (by omega), if_pos rfl, t30, t31, t32]; rfl
  · have hn : needB (l.getD 0 0) = 4 := by unfold needB; rw [if_neg (by omega), if_neg (by omega), if_neg (by omega), if_pos (by omega)]
    rw [hn, if_neg (by omega)] at hh
    rw [if_neg (by omega), if_neg (by omega), if_neg (by omega)] at hd
    rw [if_neg (by omega), if_neg (by omega)] at hf
    by_cases l2 : l.length < 2
    · rw [headFrom_end (by omega)] at hh
      rw [if_pos l2] at hd hf
      exact .inr (.inl ⟨4, by rw [hh]; congr 1; omega, by omega, by omega, hf, hd⟩)
    · rw [headFrom_go (by omega) (by omega)] at hh
      rw [if_neg l2] at hd hf
      rw [if_neg (by omega)] at hf
      by_cases g1 : badAt l 1 = true
      · rw [if_pos g1] at hh
        refine .inr (.inr ⟨4, hh, by omega, by omega, ?_, ?_⟩)
        · rcases e1.1 g1 with k | k
          · rw [if_pos k] at hf; exact hf
          · rw [if_pos k] at hf; rw [hf]; split <;> rfl
        · rcases e1.1 g1 with k | k
          · rw [if_pos k] at hd; exact hd
          · rw [if_pos k] at hd; rw [hd]; split <;> rfl
      · rw [if_neg g1] at hh
        have n1 : ¬ l.getD 1 0 < loB (l.getD 0 0) := fun k => g1 (e1.2 (.inl k))
        have n2 : ¬ hiB (l.getD 0 0) < l.getD 1 0 := fun k => g1 (e1.2 (.inr k))
        rw [if_neg n1, if_neg n2, if_neg (by omega)] at hd
        rw [if_neg n1, if_neg n2] at hf
        by_cases l3 : l.length < 3
        · rw [headFrom_end (by omega)] at hh
          rw [if_pos l3] at hd hf
          exact .inr (.inl ⟨4, by rw [hh]; congr 1; omega, by omega, by omega, hf, hd⟩)
        · rw [headFrom_go (by omega) (by omega)] at hh
          rw [if_neg l3] at hd hf
          rw [if_neg (by omega)] at hf
          by_cases g2 : badAt l 2 = true
          · rw [show (1 : Nat) + 1 = 2 from rfl, if_pos g2] at hh
            refine .inr (.inr ⟨4, hh, by omega, by omega, ?_, ?_⟩)
            · rcases e2.1 g2 with k | k
              · rw [if_pos k] at hf; exact hf
              · rw [if_pos k] at hf; rw [hf]; split <;> rfl
            · rcases e2.1 g2 with k | k
              · rw [if_pos k] at hd; exact hd
              · rw [if_pos k] at hd; rw [hd]; split <;> rfl
          · rw [show (1 : Nat) + 1 = 2 from rfl, if_neg g2] at hh
            rw [if_neg fun k => g2 (e2.2 (.inl k)), if_neg fun k => g2 (e2.2 (.inr k)), if_neg (by omega)] at hd
            rw [if_neg fun k => g2 (e2.2 (.inl k)), if_neg fun k => g2 (e2.2 (.inr k))] at hf
            by_cases l4 : l.length < 4
            · rw [headFrom_end (by omega)] at hh
              rw [if_pos l4] at hd hf
              exact .inr (.inl ⟨4, by rw [hh]; congr 1; omega, by omega, by omega, hf, hd⟩)
            · rw [headFrom_go (by omega) (by omega), headFrom_end (by omega)] at hh
              rw [if_neg l4] at hd hf
              by_cases g3 : badAt l 3 = true
              · rw [show (2 : Nat) + 1 = 3 from rfl, if_pos g3] at hh
                refine .inr (.inr ⟨4, hh, by omega, by omega, hf, ?_⟩)
                rcases e3.1 g3 with k | k
                · rw [if_pos k] at hd; exact hd
                · rw [if_pos k] at hd; rw [hd]; split <;> rfl
              · rw [show (2 : Nat) + 1 = 3 from rfl, if_neg g3] at hh
                rw [if_neg fun k => g3 (e3.2 (.inl k)), if_neg fun k => g3 (e3.2 (.inr k))] at hd
                refine .inl ⟨4, hh, by omega, by omega, hf, ?_⟩
                rw [hd, v4 (by omega), if_neg (by omega), if_neg (by omega), if_neg (by omega), t40, t41, t42, t43]; rfl
  · have hn : needB (l.getD 0 0) = 0 := by unfold needB; rw [if_neg (by omega), if_neg (by omega), if_neg (by omega), if_neg (by omega)]
    rw [hn, if_pos rfl] at hh
    rw [if_neg (by omega), if_neg (by omega), if_pos (by omega)] at hd
    rw [if_neg (by omega), if_pos (by omega)] at hf
    exact .inr (.inr ⟨0, hh, by omega, by omega, hf, hd⟩)

/-! ### the parser -/
structure RS where
  state : Int
  dec : List Int
  priv : Int
  params : List Int
  many : Int
  inter : ByteArray
  text : ByteArray
  fin : Int
  out : List PAct

def RS0 : RS := ⟨0, [], 0, [], 0, ⟨#[]⟩, ⟨#[]⟩, 0, []⟩
def RS.tells (r : RS) (p : PAct) : RS := { r with out := r.out ++ [p] }
def RS.fresh (r : RS) : RS := { r with priv := 0, params := [], many := 0, inter := ⟨#[]⟩, text := ⟨#[]⟩, fin := 0 }
def RS.par0 (r : RS) : RS := if r.many = 0 then { r with params := [-1], many := 1 } else r
def RS.digit0 (r : RS) (x : Int) : RS := if 16 < r.many then r else { r with params := r.params.set (r.params.length - 1) (digit (r.params.getD (r.params.length - 1) 0) x) }
def RS.digit (r : RS) (x : Int) : RS := r.par0.digit0 x
def RS.next0 (r : RS) : RS := if r.many ≤ 16 then (if r.many + 1 ≤ 16 then { r with many := r.many + 1, params := r.params ++ [-1] } else { r with many := r.many + 1 }) else r
def RS.next (r : RS) : RS := r.par0.next0
def RS.gather (r : RS) (x : Int) : RS := if r.inter.size < 2 then { r with inter := r.inter ++ Utf8.encode x } else r
def RS.put (r : RS) (x : Int) : RS := if r.text.size < 1024 then { r with text := r.text ++ strOfNums [x] } else r
def RS.prints (r : RS) (l : List Int) : RS := { r with out := r.out ++ (l.filter seen).map aPrint }
def RS.osc (r : RS) : RS := r.tells { act0 with kind := 5, text := r.text }
def RS.dcs (r : RS) : RS := r.tells { kind := 6, rune := 0, fin := r.fin, priv := r.priv, params := r.params, inter := r.inter, text := r.text }
def RS.inText (r : RS) (x : Int) : RS := if r.state = 11 then (if x = 127 then r else r.put x) else if x = 7 then { r.osc with state := 0 } else if 32 ≤ x then r.put x else r
def RS.control (r : RS) (x : Int) : RS := if 7 ≤ r.state ∧ r.state ≤ 10 then r else r.tells (aExec x)
def RS.begins (r : RS) (x : Int) : RS :=
  if x < 48 then { r.gather x with state := 2 } else if x = 91 then { r with state := 3 } else if x = 93 then { r with state := 12 } else if x = 80 then { r with state := 7 }
  else if x = 88 then { r with state := 13 } else if x = 94 then { r with state := 13 } else if x = 95 then { r with state := 13 } else if x = 92 then { r with state := 0 } else { r.tells { act0 with kind := 3, fin := x } with state := 0 }
def RS.ends (r : RS) (x : Int) : RS :=
  if 7 ≤ r.state then { r with fin := x, state := if r.state = 10 then 13 else 11 }
  else if r.state = 6 then { r with state := 0 } else { r.tells { kind := 4, rune := 0, fin := x, priv := r.priv, params := r.params, inter := r.inter, text := ⟨#[]⟩ } with state := 0 }
def RS.base (r : RS) : Int := if 7 ≤ r.state then 7 else 3
def RS.seq (r : RS) (x : Int) : RS :=
  if 64 ≤ x then r.ends x else if r.state - r.base = 3 then r else if x < 48 then { r.gather x with state := r.base + 2 }
  else if r.state - r.base = 2 ∨ x = 58 ∨ (r.state - r.base = 1 ∧ 60 ≤ x) then { r with state := r.base + 3 }
  else if 60 ≤ x then { r with priv := x, state := r.base + 1 } else if x = 59 then { r.next with state := r.base + 1 } else { r.digit x with state := r.base + 1 }
def RS.graphic (r : RS) (x : Int) : RS :=
  if r.state = 0 then r.tells (aPrint x) else if r.state = 1 then r.begins x
  else if r.state = 2 then (if x < 48 then r.gather x else { r.tells { act0 with kind := 3, fin := x, inter := r.inter } with state := 0 }) else r.seq x
def RS.told (r : RS) : RS := if r.state = 12 then r.osc else if r.state = 11 then r.dcs else r
def RS.sw (r : RS) (x : Int) : RS :=
  if x = 24 ∨ x = 26 then { r.tells (aExec x) with state := 0 } else if x = 27 then { r.told.fresh with state := 1 } else if r.state = 12 ∨ r.state = 11 then r.inText x
  else if 128 ≤ x ∨ r.state = 13 then r else if x < 32 then r.control x else if x = 127 then r else r.graphic x
def RS.flush (r : RS) : RS := ({ r with dec := [] } : RS).prints (runesOf r.dec)
def RS.high (r : RS) (x : Int) : RS := ({ r with dec := (decLoop (r.dec ++ [x])).2 } : RS).prints (decLoop (r.dec ++ [x])).1
def RS.take (r : RS) (x : Int) : RS := if r.state = 0 ∧ 128 ≤ x then r.high x else if r.state = 0 then r.flush.sw x else r.sw x
def RS.run (r : RS) (l : List Int) : RS := l.foldl RS.take r

/-! ### the law -/
/-- the two parsers stand alike -/
structure Sim (s : PS) (r : RS) : Prop where
  state : s.state = r.state
  dec : s.dec = r.dec
  out : s.out = r.out
  a : s.state ≠ 0 → s.state ≠ 13 → s.a.rune = 0 ∧ s.a.priv = r.priv ∧ s.a.params = r.params ∧ s.a.inter = r.inter ∧ s.a.text = r.text ∧ s.a.fin = r.fin ∧ r.many = min s.many 17
  fresh : s.state = 1 ∨ s.state = 2 ∨ s.state = 12 → s.a.priv = 0 ∧ s.a.params = [] ∧ s.a.fin = 0
  noInter : s.state = 1 ∨ s.state = 12 → s.a.inter = ⟨#[]⟩
  noText : 1 ≤ s.state → s.state ≤ 10 → s.a.text = ⟨#[]⟩

theorem PS0_sim : Sim PS0 RS0 := ⟨rfl, rfl, rfl, fun h => absurd rfl h, fun h => by simp [PS0] at h, fun h => by simp [PS0] at h, fun h => by simp [PS0] at h⟩

/-- on the ground nothing but the state, what is held and what is told counts -/
theorem Sim.ground {s : PS} {r : RS} (h0 : s.state = 0) (h1 : r.state = 0) (hd : s.dec = r.dec) (ho : s.out = r.out) : Sim s r :=
  ⟨by rw [h0, h1], hd, ho, fun h => absurd h0 h, fun h => by omega, fun h => by omega, fun h => by omega⟩
theorem prints_one (s : PS) (b : Int) (h : b < 128) : s.prints [b] = s.tells (aPrint b) := by
  have : seen b = true := by simp [seen, h]
  simp [PS.prints, PS.tells, this]

section
variable {s : PS} {r : RS}
theorem Sim.par0 {N : Nat} (h : Sim s r) (hi : PInv N s) (h3 : 3 ≤ s.state) (h10 : s.state ≤ 10) : Sim s.par0 r.par0 := by
  obtain ⟨a1, a2, a3, a4, a5, a6, a7⟩ := h.a (by omega) (by omega)
  have hm := hi.many
  unfold PS.par0 RS.par0
  by_cases k : s.many = 0
  · rw [if_pos k, if_pos (by omega)]
    exact ⟨h.state, h.dec, h.out, fun _ _ => ⟨a1, a2, rfl, a4, a5, a6, by show (1 : Int) = min 1 17; omega⟩, fun h1 => by have : s.state = 1 ∨ s.state = 2 ∨ s.state = 12 := h1; omega, fun h1 => by have : s.state = 1 ∨ s.state = 12 := h1; omega, h.noText⟩
  · rw [if_neg k, if_neg (by omega)]
    exact h
theorem Sim.semi (h : Sim s r) (h3 : 3 ≤ s.state) (h10 : s.state ≤ 10) : Sim s.parSemi r.next0 := by
  obtain ⟨a1, a2, a3, a4, a5, a6, a7⟩ := h.a (by omega) (by omega)
  unfold PS.parSemi RS.next0
  have no1 : ¬ (s.state = 1 ∨ s.state = 2 ∨ s.state = 12) := by omega
  have no2 : ¬ (s.state = 1 ∨ s.state = 12) := by omega
  by_cases k : s.many + 1 ≤ 16
  · rw [if_pos k, if_pos (by omega), if_pos (by omega)]
    exact ⟨h.state, h.dec, h.out, fun _ _ => ⟨a1, a2, by show _ ++ _ = _ ++ _; rw [a3], a4, a5, a6, by show r.many + 1 = min (s.many + 1) 17; omega⟩, fun h1 => absurd h1 no1, fun h1 => absurd h1 no2, h.noText⟩
  · rw [if_neg k]
    by_cases k2 : r.many ≤ 16
    · rw [if_pos k2, if_neg (by omega)]
      exact ⟨h.state, h.dec, h.out, fun _ _ => ⟨a1, a2, a3, a4, a5, a6, by show r.many + 1 = min (s.many + 1) 17; omega⟩, fun h1 => absurd h1 no1, fun h1 => absurd h1 no2, h.noText⟩
    · rw [if_neg k2]
      exact ⟨h.state, h.dec, h.out, fun _ _ => ⟨a1, a2, a3, a4, a5, a6, by show r.many = min (s.many + 1) 17; omega⟩, fun h1 => absurd h1 no1, fun h1 => absurd h1 no2, h.noText⟩
theorem Sim.digit (h : Sim s r) (hp : s.many ≤ 16 → (s.a.params.length : Int) = s.many) (b : Int) (h3 : 3 ≤ s.state) (h10 : s.state ≤ 10) : Sim (s.parDigit b) (r.digit0 b) := by
  obtain ⟨a1, a2, a3, a4, a5, a6, a7⟩ := h.a (by omega) (by omega)
  unfold PS.parDigit RS.digit0
  have no1 : ¬ (s.state = 1 ∨ s.state = 2 ∨ s.state = 12) := by omega
  have no2 : ¬ (s.state = 1 ∨ s.state = 12) := by omega
  by_cases k : s.many ≤ 16
  · rw [if_pos k, if_neg (by omega)]
    have e : (s.many - 1).toNat = s.a.params.length - 1 := by have := hp k; omega
    rw [e, a3]
    exact ⟨h.state, h.dec, h.out, fun _ _ => ⟨a1, a2, rfl, a4, a5, a6, a7⟩, fun h1 => absurd h1 no1, fun h1 => absurd h1 no2, h.noText⟩
  · rw [if_neg k, if_pos (by omega)]
    exact h
theorem Sim.st (h : Sim s r) (st : Int) (h3 : 3 ≤ s.state) (h10 : s.state ≤ 10) (g3 : 3 ≤ st) (g10 : st ≤ 10) : Sim { s with state := st } { r with state := st } :=
  ⟨rfl, h.dec, h.out, fun _ _ => h.a (by omega) (by omega), fun h1 => by have : st = 1 ∨ st = 2 ∨ st = 12 := h1; omega, fun h1 => by have : st = 1 ∨ st = 12 := h1; omega, fun _ _ => h.noText (by omega) h10⟩
theorem Sim.inter (h : Sim s r) (b : Int) (h0 : s.state ≠ 0) (h13 : s.state ≠ 13) : (s.inter b).a.inter = (r.gather b).inter ∧ s.inter b = { s with a := { s.a with inter := (r.gather b).inter } } ∧ r.gather b = { r with inter := (r.gather b).inter } := by
  obtain ⟨a1, a2, a3, a4, a5, a6, a7⟩ := h.a h0 h13
  unfold PS.inter RS.gather
  rw [a4]
  by_cases k : r.inter.size < 2
  · rw [if_pos k, if_pos k]; exact ⟨rfl, rfl, rfl⟩
  · rw [if_neg k, if_neg k]
    refine ⟨a4, ?_, rfl⟩
    obtain ⟨_, _, ⟨_, _, _, _, _, i, _⟩, _, _⟩ := s
    simp only at a4
    rw [a4]
theorem Sim.text (h : Sim s r) (b : Int) (h11 : s.state = 11 ∨ s.state = 12) : Sim (s.text b) (r.put b) := by
  obtain ⟨a1, a2, a3, a4, a5, a6, a7⟩ := h.a (by omega) (by omega)
  unfold PS.text RS.put
  rw [a5]
  by_cases k : r.text.size < 1024
  · rw [if_pos k, if_pos k]
    exact ⟨h.state, h.dec, h.out, fun _ _ => ⟨a1, a2, a3, a4, rfl, a6, a7⟩, h.fresh, h.noInter, fun h1 h2 => by have : s.state ≤ 10 := h2; omega⟩
  · rw [if_neg k, if_neg k]
    exact h
theorem Sim.counts {N : Nat} (h : Sim s r) (hi : PInv N s) (b : Int) (hb : 48 ≤ b ∧ b ≤ 63) (h3 : 3 ≤ s.state) (h10 : s.state ≤ 10) (hat : s.state - s.first ≠ 3) :
    Sim (s.counts b s.first (s.state - s.first)) (r.seq b) := by
  have hb0 : s.first = r.base := by unfold PS.first RS.base; rw [h.state]
  have hf : s.first = 3 ∧ s.state ≤ 6 ∨ s.first = 7 ∧ 7 ≤ s.state := by unfold PS.first; split <;> omega
  unfold PS.counts RS.seq
  rw [← hb0, ← h.state]
  rw [if_neg (show ¬ 64 ≤ b by omega), if_neg hat, if_neg (show ¬ b < 48 by omega)]
  have hs1 := h.st (s.first + 1) h3 h10 (by omega) (by omega)
  by_cases k1 : s.state - s.first = 0 ∧ 60 ≤ b
  · rw [if_pos k1, if_neg (by omega), if_pos (by omega)]
    obtain ⟨a1, a2, a3, a4, a5, a6, a7⟩ := h.a (by omega) (by omega)
    exact ⟨rfl, h.dec, h.out, fun _ _ => ⟨a1, rfl, a3, a4, a5, a6, a7⟩, fun h1 => by have : s.first + 1 = 1 ∨ s.first + 1 = 2 ∨ s.first + 1 = 12 := h1; omega, hs1.noInter, hs1.noText⟩
  · rw [if_neg k1]
    by_cases k2 : (s.state - s.first = 0 ∨ s.state - s.first = 1) ∧ (b ≤ 57 ∨ b = 59)
    · rw [if_pos k2, if_neg (by omega), if_neg (by omega)]
      have hp := h.par0 hi h3 h10
      have hps : s.par0.state = s.state := by unfold PS.par0; split <;> rfl
      have hf0 := par0_facts hi
      unfold PS.param RS.next RS.digit
      by_cases k3 : b = 59
      · rw [if_pos k3, if_pos k3]
        have := Sim.semi hp (by omega) (by omega)
        have e : s.par0.parSemi.state = s.par0.state := by unfold PS.parSemi; split <;> rfl
        exact this.st _ (by omega) (by omega) (by omega) (by omega)
      · rw [if_neg k3, if_neg k3]
        have := hp.digit hf0.2.1 b (by omega) (by omega)
        have e : (s.par0.parDigit b).state = s.par0.state := by unfold PS.parDigit; split <;> rfl
        exact this.st _ (by omega) (by omega) (by omega) (by omega)
    · rw [if_neg k2, if_pos (by omega)]
      exact h.st _ h3 h10 (by omega) (by omega)
theorem Sim.seq {N : Nat} (h : Sim s r) (hi : PInv N s) (b : Int) (hb : 32 ≤ b ∧ b ≤ 126) (h3 : 3 ≤ s.state) (h10 : s.state ≤ 10) : Sim (s.seq b) (r.seq b) := by
  obtain ⟨a1, a2, a3, a4, a5, a6, a7⟩ := h.a (by omega) (by omega)
  have hb0 : s.first = r.base := by unfold PS.first RS.base; rw [h.state]
  have hf : s.first = 3 ∧ s.state ≤ 6 ∨ s.first = 7 ∧ 7 ≤ s.state := by unfold PS.first; split <;> omega
  have hst := h.state
  have htx := h.noText (by omega) h10
  by_cases k6 : s.state - s.first ≠ 3 ∧ 48 ≤ b ∧ b < 64
  · have hc := h.counts hi b (by omega) h3 h10 k6.1
    unfold PS.seq
    rw [if_neg (by omega), if_neg (by omega), if_neg (by omega), if_neg (by omega), if_neg k6.1, if_neg (by omega)]
    exact hc
  · by_cases k1 : 64 ≤ b
    · have er : r.seq b = r.ends b := by unfold RS.seq; rw [if_pos k1]
      rw [er]
      unfold PS.seq RS.ends
      rw [← hst, if_neg (show ¬ b = 127 by omega)]
      by_cases k2 : s.state - s.first = 3
      · rw [if_pos ⟨k1, k2⟩]
        rcases hf with ⟨e, hle⟩ | ⟨e, hle⟩
        · rw [if_neg (show ¬ s.first = 7 by omega), if_neg (show ¬ 7 ≤ s.state by omega), if_pos (show s.state = 6 by omega)]
          exact Sim.ground rfl rfl h.dec h.out
        · rw [if_pos e, if_pos (show 7 ≤ s.state by omega), if_pos (show s.state = 10 by omega)]
          exact ⟨rfl, h.dec, h.out, fun _ h1 => absurd rfl h1, fun h1 => by have : (13 : Int) = 1 ∨ (13 : Int) = 2 ∨ (13 : Int) = 12 := h1; omega, fun h1 => by have : (13 : Int) = 1 ∨ (13 : Int) = 12 := h1; omega, fun _ h1 => by have : (13 : Int) ≤ 10 := h1; omega⟩
      · rw [if_neg (fun k => k2 k.2)]
        rcases hf with ⟨e, hle⟩ | ⟨e, hle⟩
        · rw [if_pos ⟨k1, e⟩, if_neg (show ¬ 7 ≤ s.state by omega), if_neg (show ¬ s.state = 6 by omega)]
          refine Sim.ground rfl rfl h.dec ?_
          show s.out ++ [_] = r.out ++ [_]
          rw [h.out]
          congr 2
          obtain ⟨_, _, ⟨_, _, _, _, _, _, _⟩, _, _⟩ := s
          simp only at a1 a2 a3 a4 htx
          subst a1 a2 a3 a4 htx
          rfl
        · rw [if_neg (show ¬ (64 ≤ b ∧ s.first = 3) by omega), if_pos k1, if_pos (show 7 ≤ s.state by omega), if_neg (show ¬ s.state = 10 by omega)]
          exact ⟨rfl, h.dec, h.out, fun _ _ => ⟨a1, a2, a3, a4, a5, rfl, a7⟩, fun h1 => by have : (11 : Int) = 1 ∨ (11 : Int) = 2 ∨ (11 : Int) = 12 := h1; omega, fun h1 => by have : (11 : Int) = 1 ∨ (11 : Int) = 12 := h1; omega, fun _ h1 => by have : (11 : Int) ≤ 10 := h1; omega⟩
    · have es : s.seq b = if s.state - s.first = 3 then s else if b < 48 then { s.inter b with state := s.first + 2 } else s.counts b s.first (s.state - s.first) := by
        unfold PS.seq
        rw [if_neg (show ¬ b = 127 by omega), if_neg (show ¬ (64 ≤ b ∧ s.state - s.first = 3) by omega), if_neg (show ¬ (64 ≤ b ∧ s.first = 3) by omega), if_neg k1]
      rw [es]
      unfold RS.seq
      rw [← hb0, ← hst, if_neg k1]
      by_cases k2 : s.state - s.first = 3
      · rw [if_pos k2, if_pos k2]; exact h
      · rw [if_neg k2, if_neg k2, if_pos (show b < 48 by omega), if_pos (show b < 48 by omega)]
        obtain ⟨i1, i2, i3⟩ := h.inter b (by omega) (by omega)
        rw [i2, i3]
        exact ⟨rfl, h.dec, h.out, fun _ _ => ⟨a1, a2, a3, rfl, a5, a6, a7⟩, fun h1 => by have : s.first + 2 = 1 ∨ s.first + 2 = 2 ∨ s.first + 2 = 12 := h1; omega, fun h1 => by have : s.first + 2 = 1 ∨ s.first + 2 = 12 := h1; omega, fun _ _ => htx⟩
/-- from the state behind ESC to another one, nothing else turned -/
theorem Sim.from1 (h : Sim s r) (h1 : s.state = 1) (st : Int) : Sim { s with state := st } { r with state := st } :=
  ⟨rfl, h.dec, h.out, fun _ _ => h.a (by omega) (by omega), fun _ => h.fresh (by omega), fun _ => h.noInter (by omega), fun _ _ => h.noText (by omega) (by omega)⟩
theorem Sim.tellEsc (h : Sim s r) (h1 : s.state = 1 ∨ s.state = 2) (b : Int) : Sim (s.ends b 3) { r.tells { act0 with kind := 3, fin := b, inter := r.inter } with state := 0 } := by
  obtain ⟨a1, a2, a3, a4, a5, a6, a7⟩ := h.a (by omega) (by omega)
  obtain ⟨f1, f2, f3⟩ := h.fresh (by omega)
  have htx := h.noText (by omega) (by omega)
  refine Sim.ground rfl rfl h.dec ?_
  show s.out ++ [_] = r.out ++ [_]
  rw [h.out]
  congr 2
  obtain ⟨_, _, ⟨_, _, _, _, _, _, _⟩, _, _⟩ := s
  simp only at a1 a4 f1 f2 htx
  subst a1 a4 f1 f2 htx
  rfl
theorem Sim.gather2 (h : Sim s r) (h1 : s.state = 1 ∨ s.state = 2) (b : Int) : Sim { s.inter b with state := 2 } { r.gather b with state := 2 } := by
  obtain ⟨a1, a2, a3, a4, a5, a6, a7⟩ := h.a (by omega) (by omega)
  obtain ⟨i1, i2, i3⟩ := h.inter b (by omega) (by omega)
  rw [i2, i3]
  exact ⟨rfl, h.dec, h.out, fun _ _ => ⟨a1, a2, a3, rfl, a5, a6, a7⟩, fun _ => h.fresh (by omega), fun h1 => by have : (2 : Int) = 1 ∨ (2 : Int) = 12 := h1; omega, fun _ _ => h.noText (by omega) (by omega)⟩
theorem Sim.esc (h : Sim s r) (b : Int) (hb : 32 ≤ b ∧ b ≤ 126) (h1 : s.state = 1 ∨ s.state = 2) : Sim (s.esc b) (r.graphic b) := by
  have hst := h.state
  unfold PS.esc RS.graphic
  rw [← hst, if_neg (show ¬ b = 127 by omega), if_neg (show ¬ s.state = 0 by omega)]
  rcases h1 with h1 | h1
  · rw [if_pos h1]
    unfold RS.begins
    by_cases k1 : b < 48
    · rw [if_pos k1, if_pos k1]; exact h.gather2 (.inl h1) b
    rw [if_neg k1, if_neg k1, if_neg (show ¬ s.state = 2 by omega)]
    by_cases k2 : b = 91
    · rw [if_pos k2, if_pos k2]; exact h.from1 h1 3
    rw [if_neg k2, if_neg k2]
    by_cases k3 : b = 93
    · rw [if_pos k3, if_pos k3]; exact h.from1 h1 12
    rw [if_neg k3, if_neg k3]
    by_cases k4 : b = 80
    · rw [if_pos k4, if_pos k4]; exact h.from1 h1 7
    rw [if_neg k4, if_neg k4]
    by_cases k5 : b = 88
    · rw [if_pos k5, if_pos k5]; exact h.from1 h1 13
    rw [if_neg k5, if_neg k5]
    by_cases k6 : b = 94
    · rw [if_pos k6, if_pos k6]; exact h.from1 h1 13
    rw [if_neg k6, if_neg k6]
    by_cases k7 : b = 95
    · rw [if_pos k7, if_pos k7]; exact h.from1 h1 13
    rw [if_neg k7, if_neg k7]
    by_cases k8 : b = 92
    · rw [if_pos k8, if_pos k8]; exact h.from1 h1 0
    rw [if_neg k8, if_neg k8]
    have := h.tellEsc (.inl h1) b
    have hi : r.inter = ⟨#[]⟩ := by rw [← (h.a (by omega) (by omega)).2.2.2.1]; exact h.noInter (.inl h1)
    rw [hi] at this
    exact this
  · rw [if_neg (show ¬ s.state = 1 by omega)]
    by_cases k1 : b < 48
    · rw [if_pos k1, if_pos h1, if_pos k1]
      have := h.gather2 (.inr h1) b
      have e : ({ r.gather b with state := 2 } : RS) = r.gather b := by
        have : (r.gather b).state = 2 := by unfold RS.gather; split <;> (rw [← h1, hst])
        rw [← this]
      rw [e] at this
      exact this
    · rw [if_neg k1, if_pos h1, if_pos h1, if_neg k1]
      exact h.tellEsc (.inr h1) b
theorem Sim.ends0 (h : Sim s r) : s.ends0.out = r.told.out ∧ s.ends0.dec = r.told.dec := by
  unfold PS.ends0 RS.told
  rw [← h.state]
  by_cases k1 : s.state = 12
  · rw [if_pos k1, if_pos k1]
    obtain ⟨a1, a2, a3, a4, a5, a6, a7⟩ := h.a (by omega) (by omega)
    obtain ⟨f1, f2, f3⟩ := h.fresh (by omega)
    have hin := h.noInter (by omega)
    refine ⟨?_, h.dec⟩
    show s.out ++ [_] = r.out ++ [_]
    rw [h.out]
    congr 2
    obtain ⟨_, _, ⟨_, _, _, _, _, _, _⟩, _, _⟩ := s
    simp only at a1 a5 f1 f2 f3 hin
    subst a1 a5 f1 f2 f3 hin
    rfl
  · rw [if_neg k1, if_neg k1]
    by_cases k2 : s.state = 11
    · rw [if_pos k2, if_pos k2]
      obtain ⟨a1, a2, a3, a4, a5, a6, a7⟩ := h.a (by omega) (by omega)
      refine ⟨?_, h.dec⟩
      show s.out ++ [_] = r.out ++ [_]
      rw [h.out]
      congr 2
      obtain ⟨_, _, ⟨_, _, _, _, _, _, _⟩, _, _⟩ := s
      simp only at a1 a2 a3 a4 a5 a6
      subst a1 a2 a3 a4 a5 a6
      rfl
    · rw [if_neg k2, if_neg k2]
      exact ⟨h.out, h.dec⟩
theorem Sim.str (h : Sim s r) (b : Int) (h1 : s.state = 11 ∨ s.state = 12) : Sim (s.str b) (r.inText b) := by
  unfold PS.str RS.inText
  rw [← h.state, if_neg (show ¬ s.state = 13 by omega)]
  by_cases k1 : s.state = 11
  · rw [if_pos k1, if_pos k1]
    by_cases k2 : b = 127
    · rw [if_pos k2, if_pos k2]; exact h
    · rw [if_neg k2, if_neg k2]; exact h.text b h1
  · rw [if_neg k1, if_neg k1]
    by_cases k2 : b = 7
    · rw [if_pos k2, if_pos k2]
      have := h.ends0
      unfold PS.ends0 RS.told at this
      rw [← h.state, if_pos (by omega), if_pos (by omega)] at this
      exact Sim.ground rfl rfl this.2 this.1
    · rw [if_neg k2, if_neg k2]
      by_cases k3 : 32 ≤ b
      · rw [if_pos k3, if_pos k3]; exact h.text b h1
      · rw [if_neg k3, if_neg k3]; exact h
theorem Sim.exec (h : Sim s r) (b : Int) : Sim (s.tells (aExec b)) (r.tells (aExec b)) :=
  ⟨h.state, h.dec, by show s.out ++ _ = r.out ++ _; rw [h.out], h.a, h.fresh, h.noInter, h.noText⟩
theorem Sim.sw {N : Nat} (h : Sim s r) (hi : PInv N s) (b : Int) (hb : 0 ≤ b ∧ b ≤ 255) (h0 : s.state = 0 → b < 128) : Sim (s.sw b) (r.sw b) := by
  have hst := h.state
  have hS := hi.st
  unfold PS.sw RS.sw
  rw [← hst]
  by_cases k1 : b = 24 ∨ b = 26
  · rw [if_pos k1, if_pos k1]
    exact Sim.ground rfl rfl h.dec (by show s.out ++ _ = r.out ++ _; rw [h.out])
  rw [if_neg k1, if_neg k1]
  by_cases k2 : b = 27
  · rw [if_pos k2, if_pos k2]
    exact ⟨rfl, h.ends0.2, h.ends0.1, fun _ _ => ⟨rfl, rfl, rfl, rfl, rfl, rfl, rfl⟩, fun _ => ⟨rfl, rfl, rfl⟩, fun _ => rfl, fun _ _ => rfl⟩
  rw [if_neg k2, if_neg k2]
  by_cases k3 : s.state = 0
  · have := h0 k3
    rw [if_pos k3, if_neg (by omega), if_neg (by omega)]
    unfold PS.plain RS.control RS.graphic
    rw [if_neg (show ¬ 128 ≤ b by omega), ← hst]
    by_cases k4 : b < 32
    · rw [if_pos k4, if_pos k4, if_neg (by omega)]; exact h.exec b
    rw [if_neg k4, if_neg k4]
    by_cases k5 : b = 127
    · rw [if_pos k5, if_neg (by omega)]; exact h
    · rw [if_neg k5, if_pos (by omega), if_pos k3, prints_one s b (by omega)]
      exact Sim.ground k3 (by rw [← k3, hst]; rfl) h.dec (by show s.out ++ _ = r.out ++ _; rw [h.out])
  rw [if_neg k3]
  by_cases k4 : s.state = 13
  · rw [if_pos (by omega), if_neg (show ¬ (s.state = 12 ∨ s.state = 11) by omega), if_pos (show 128 ≤ b ∨ s.state = 13 from .inr k4)]
    unfold PS.str
    rw [if_pos k4]
    exact h
  by_cases k5 : s.state = 11 ∨ s.state = 12
  · rw [if_pos (by omega), if_pos (show s.state = 12 ∨ s.state = 11 by omega)]
    exact h.str b k5
  rw [if_neg (show ¬ (s.state = 11 ∨ s.state = 12 ∨ s.state = 13) by omega), if_neg (show ¬ (s.state = 12 ∨ s.state = 11) by omega)]
  by_cases k6 : 128 ≤ b
  · rw [if_pos k6, if_pos (.inl k6)]; exact h
  rw [if_neg k6, if_neg (show ¬ (128 ≤ b ∨ s.state = 13) by omega)]
  by_cases k7 : b < 32
  · rw [if_pos k7, if_pos k7]
    unfold RS.control
    rw [← hst]
    by_cases k8 : s.state < 7
    · rw [if_pos k8, if_neg (by omega)]; exact h.exec b
    · rw [if_neg k8, if_pos (by omega)]; exact h
  rw [if_neg k7, if_neg k7]
  by_cases k8 : b = 127
  · rw [if_pos k8]
    unfold PS.esc PS.seq
    rw [if_pos k8, if_pos k8]
    split <;> exact h
  rw [if_neg k8]
  by_cases k9 : s.state = 1 ∨ s.state = 2
  · rw [if_pos k9]; exact h.esc b (by omega) k9
  · rw [if_neg k9]
    have := h.seq hi b (by omega) (by omega) (by omega)
    unfold RS.graphic
    rw [← hst, if_neg k3, if_neg (show ¬ s.state = 1 by omega), if_neg (show ¬ s.state = 2 by omega)]
    exact this
theorem Sim.take {N : Nat} (h : Sim s r) (hi : PInv N s) (b : Int) (hb : 0 ≤ b ∧ b ≤ 255) : Sim (s.one b) (r.take b) := by
  have hst := h.state
  unfold PS.one PS.pre RS.take
  rw [← hst]
  by_cases k0 : s.state = 0
  · by_cases k1 : b < 128
    · rw [if_pos ⟨k0, k1⟩, if_neg (by omega), if_pos k0]
      have hg : Sim s.flush r.flush := Sim.ground k0 (show r.state = 0 by omega) rfl (by
        show s.out ++ ((runesOf s.dec).filter seen).map aPrint = r.out ++ ((runesOf r.dec).filter seen).map aPrint
        rw [h.out, h.dec])
      exact hg.sw (flush_inv hi) b hb (fun _ => k1)
    · rw [if_neg (fun k => k1 k.2), if_pos (by omega)]
      unfold PS.sw PS.plain
      rw [if_neg (by omega), if_neg (by omega), if_pos k0, if_pos (by omega)]
      refine Sim.ground k0 (by rw [← k0, hst]; rfl) ?_ ?_
      · show (decLoop _).2 = (decLoop _).2
        rw [h.dec]
      · show s.out ++ _ = r.out ++ _
        rw [h.out, h.dec]
  · rw [if_neg (fun k => k0 k.1), if_neg (fun k => k0 k.1), if_neg k0]
    exact h.sw hi b hb (fun k => absurd k k0)
theorem Sim.run {N : Nat} (h : Sim s r) (hi : PInv N s) (l : List Int) (hl : Byts l) : Sim (s.run l) (r.run l) := by
  induction l generalizing s r N with
  | nil => exact h
  | cons b l ih =>
    have hb : 0 ≤ b ∧ b ≤ 255 := by simpa using hl 0
    exact ih (h.take hi b hb) (hi.one b hb) (by simpa using hl.drop 1)
end

def RS.tail (r : RS) : RS := if r.state = 0 then ({ r with out := [] } : RS).flush else { r with out := [] }
def allR (bs : List Int) : List PAct := (RS0.run bs).out ++ (RS0.run bs).tail.out
/-- what any bytes say -/
theorem all_same (bs : List Int) (hb : Byts bs) : allP bs = allR bs := by
  have h := PS0_sim.run PS0_inv bs hb
  unfold allP allR PS.tail RS.tail
  rw [h.out, ← h.state]
  congr 1
  split
  · show [] ++ _ = [] ++ _
    have := h.dec
    show [] ++ ((runesOf (PS0.run bs).dec).filter seen).map aPrint = [] ++ ((runesOf (RS0.run bs).dec).filter seen).map aPrint
    rw [this]
  · rfl
end Go.Proofs.YtopaeikddlpecaaDoor
