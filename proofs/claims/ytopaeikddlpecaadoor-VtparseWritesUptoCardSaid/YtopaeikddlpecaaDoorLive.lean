/-
  Walks: vtparse.Param, and the laws' 'live', which is true. Conditions: the tables.
-/
import Derived.Test.YtopaeikddlpecaaDoorAll
import Derived.Lib.SlBytesConst
namespace Go.Proofs.YtopaeikddlpecaaDoor
open Go.RowKit

/-- element j of a slice of actions: its seven cells, and its parameters -/
theorem ActsIn.at_ {w : World} {R : Nat → Prop} {A : Option Addr} {n : Nat} {ps : List PAct} (h : ActsIn w R A n ps) {j : Nat} {p : PAct} (hj : ps[j]? = some p) :
    ∃ g o A' n' k, A = some ⟨g, o, none⟩ ∧ R g ∧ g < w.heap.size ∧ Rd w R 1 A' n' (ints p.params) ∧ n' ≤ k ∧ w.cell? ⟨g, o + j * 7, none⟩ = some (.int .i64 p.kind) ∧ w.cell? ⟨g, o + j * 7 + 1, none⟩ = some (.int .i32 p.rune) ∧
      w.cell? ⟨g, o + j * 7 + 2, none⟩ = some (.int .u8 p.fin) ∧ w.cell? ⟨g, o + j * 7 + 3, none⟩ = some (.int .u8 p.priv) ∧ w.cell? ⟨g, o + j * 7 + 4, none⟩ = some (.slice A' n' k) ∧
      w.cell? ⟨g, o + j * 7 + 5, none⟩ = some (.string p.inter) ∧ w.cell? ⟨g, o + j * 7 + 6, none⟩ = some (.string p.text) := by
  obtain ⟨rfl, cs, hr, ha⟩ := h
  have hlt := (List.getElem?_eq_some_iff.1 hj).1
  obtain ⟨g, o, hA, hR, hlt2, hc⟩ := hr.2 (by omega)
  obtain ⟨A', n', k, he, hrd, hk⟩ := ha.2 j p hj
  have hcell : ∀ i u, (p.cells (.slice A' n' k))[i]? = some u → w.cell? ⟨g, o + j * 7 + i, none⟩ = some u := by
    intro i u hu
    have hi : i < 7 := (List.getElem?_eq_some_iff.1 hu).1
    rw [Nat.add_assoc]
    refine hc (j * 7 + i) u ?_
    rw [← he, List.getElem?_take, if_pos hi, List.getElem?_drop] at hu
    exact hu
  exact ⟨g, o, A', n', k, hA, hR, hlt2, hrd, hk, hcell 0 _ rfl, hcell 1 _ rfl, hcell 2 _ rfl, hcell 3 _ rfl, hcell 4 _ rfl, hcell 5 _ rfl, hcell 6 _ rfl⟩

def PAct.val (p : PAct) (v : Value) : Value := .agg #[.int .i64 p.kind, .int .i32 p.rune, .int .u8 p.fin, .int .u8 p.priv, v, .string p.inter, .string p.text]

def paramP (l : List Int) (i other : Int) : Int := if i < 0 then other else if (l.length : Int) ≤ i then other else if l.getD i.toNat 0 = -1 then other else if l.getD i.toNat 0 = 0 then other else l.getD i.toNat 0

set_option maxHeartbeats 1600000 in
theorem paramF_any (p : PAct) (A : Option Addr) (n k : Nat) (i other : Int) (R : Nat → Prop) (w : World) (hr : Rd w R 1 A n (ints p.params)) :
    Calls Tryd.prog 23 #[.agg #[.int .i64 p.kind, .int .i32 p.rune, .int .u8 p.fin, .int .u8 p.priv, .slice A n k, .string p.inter, .string p.text], .int .i64 i, .int .i64 other] w fun e w' => e = .returned (.int .i64 (paramP p.params i other)) ∧ Fr NoB w w' := by
  have hpn : p.params.length = n := by have := hr.1; rw [ints_length] at this; omega
  have hv : paramP p.params i other = paramP p.params i other := rfl
  conv at hv => rhs; unfold paramP
  rw [hpn] at hv
  generalize paramP p.params i other = v at *
  have HV := Lib.hid hv
  have HRD := Lib.hid hr
  clear hv hr
  rcases (by omega : i < 0 ∨ (n : Int) ≤ i ∨ (0 ≤ i ∧ i < n)) with h0 | h0 | ⟨h0, h1⟩
  · have h2 := HV.out
    rw [if_pos h0] at h2
    rw [h2]
    clear h2 hpn
    go_enter Tryd.func23, Tryd.ntmps23
    go_wp2
    go_ret
    exact ⟨rfl, (Fr.refl _ _).alloc _⟩
  · have h2 := HV.out
    rw [if_neg (by omega), if_pos h0] at h2
    rw [h2]
    have h3 : 0 ≤ i := by omega
    clear h2 hpn
    go_enter Tryd.func23, Tryd.ntmps23
    go_wp2
    go_ret
    exact ⟨rfl, (Fr.refl _ _).alloc _⟩
  · obtain ⟨j, rfl⟩ := Int.eq_ofNat_of_zero_le h0
    have hj : j < n := by omega
    obtain ⟨g, o, u, hA, lt, hu, hc⟩ := HRD.out.at_ hj
    rw [ints_at (by omega)] at hu
    injection hu with hu
    subst hu
    subst hA
    have h2 := HV.out
    rw [if_neg (by omega), if_neg (by omega), Int.toNat_natCast] at h2
    generalize p.params.getD j 0 = x at *
    have H2 := Lib.hid h2
    clear h2 hpn HV
    by_cases k1 : x = -1
    · have h2 := H2.out
      rw [if_pos k1] at h2
      rw [h2]
      subst k1
      clear h2 H2
      go_enter Tryd.func23, Tryd.ntmps23
      go_wp2
      go_ret
      exact ⟨rfl, (Fr.refl _ _).alloc _⟩
    · by_cases k2 : x = 0
      · have h2 := H2.out
        rw [if_neg k1, if_pos k2] at h2
        rw [h2]
        subst k2
        clear h2 H2 k1
        go_enter Tryd.func23, Tryd.ntmps23
        go_wp2
        go_ret
        exact ⟨rfl, (Fr.refl _ _).alloc _⟩
      · have h2 := H2.out
        rw [if_neg k1, if_neg k2] at h2
        rw [h2]
        have t1 := bne_f k1
        have t2 := bne_f k2
        clear h2 H2 k1 k2
        go_enter Tryd.func23, Tryd.ntmps23
        go_wp2
        go_ret
        exact ⟨rfl, (Fr.refl _ _).alloc _⟩

theorem live_acts : allP [27, 91, 51, 59, 53, 72] = [⟨4, 0, 72, 0, [3, 5], ⟨#[]⟩, ⟨#[]⟩⟩] := by
  simp [allP, PS.run, PS.one, PS.pre, PS.sw, PS0, PS.flush, PS.clear, PS.tail, PS.prints, runesOf_nil, PS.ends0, PS.esc0, PS.esc, PS.seq, PS.first, PS.counts, PS.param, PS.par0, PS.parSemi, PS.parDigit, digit, PS.ends, PS.tellK, PS.tells, act0]
  decide

def liveB : List Int := [27, 91, 51, 59, 53, 72]
def liveA : PAct := ⟨4, 0, 72, 0, [3, 5], ⟨#[]⟩, ⟨#[]⟩⟩
theorem live_byts : Byts liveB := fun k => by
  match k with
  | 0 | 1 | 2 | 3 | 4 | 5 => simp [liveB]
  | k + 6 => simp [liveB]

theorem Rd.newF (W : World) (e size : Nat) (cs : Array Value) (fz : Nat × Nat) (n : Nat) (hs : cs.size = n * size) : Rd (W.alloc (.cells cs e fz)) (fun k => k = W.heap.size) size (some ⟨W.heap.size, 0, none⟩) n cs.toList := by
  refine ⟨by simp [hs], fun _ => ⟨_, _, rfl, rfl, by simp, fun j u hu => ?_⟩⟩
  rw [Nat.zero_add, cell_of_row _ W.heap.size j cs e fz (heap_alloc_new W _)]
  simpa using hu

/-- what 'live' leaves: true, and nothing old has turned -/
def TrueP (w : World) (e : Ending) (w' : World) : Prop := e = .returned (.bool true) ∧ Fr NoB w w'

set_option maxHeartbeats 1600000 in
set_option maxRecDepth 100000 in
theorem live_any (w : World) (hT : Tabs w) : Calls Tryd.prog 12 #[] w (TrueP w) := by
  have hfa := (Fr.refl NoB w).alloc (.cells #[.int .u8 27, .int .u8 91, .int .u8 51, .int .u8 59, .int .u8 53, .int .u8 72] 5 (6, 7))
  have hsl := Rd.newF w 5 1 #[.int .u8 27, .int .u8 91, .int .u8 51, .int .u8 59, .int .u8 53, .int .u8 72] (6, 7) 6 rfl
  have CA := Lib.hid (all_any liveB _ _ 6 6 _ (hT.fr hfa fun _ _ => noB_no) hsl (by omega) live_byts)
  have kc := fun (w : World) (C : Array Value) (n c : Nat) => Lib.run_convert_bytes_const (P := Tryd.prog) w 22 5 C n c Tryd.underlying22 Tryd.underlying5
  have HFA := Lib.hid hfa
  clear hT hfa hsl
  go_enter Tryd.func12, Tryd.ntmps12
  go_wp2_with (first
    | (go_at_call 14
       refine CA.out.mono ?_
       rw [show allP liveB = [liveA] from live_acts]
       rintro e w1 ⟨A, c, rfl, hin, hf, hc⟩
       have HIN := Lib.hid hin
       have HF1 := Lib.hid hf
       clear hin hf hc)
    | (go_at_call 16
       refine (@new_any avNo w1 (fun _ h => h.elim)).mono ?_
       rintro e w2 ⟨g, F, rfl, hp, hf, hF⟩
       have cg := @ground_any avNo g PS0 F w2 hp
       rw [show PS0.isGround = true from rfl] at cg
       have CG := Lib.hid cg
       clear cg
       obtain ⟨ga, oa, A', n', k, rfl, _, lta, hrd, _, c0, c1, c2, c3, c4, c5, c6⟩ := (HIN.out.fr hf fun _ _ => noB_no).at_ (j := 0) rfl
       have cp := paramF_any liveA A' n' k 1 9 _ w2 hrd
       rw [show paramP liveA.params 1 9 = 5 from by decide] at cp
       have CP := Lib.hid cp
       simp only [Nat.zero_mul, Nat.add_zero, liveA] at c0 c1 c2 c3 c4 c5 c6
       clear cp
       have HF2 := Lib.hid hf
       clear hp hf hF hrd)
    | (go_at_call 18
       refine CG.out.mono ?_
       rintro e w3 ⟨rfl, rfl⟩)
    | (go_at_call 23
       refine CP.out.mono ?_
       rintro e w4 ⟨rfl, hf4⟩
       have HF4 := Lib.hid hf4
       clear hf4))
  go_ret
  exact ⟨rfl, ((HFA.out.trans HF1.out fun _ _ h => h).trans HF2.out fun _ _ h => h).trans HF4.out fun _ _ h => h⟩
end Go.Proofs.YtopaeikddlpecaaDoor
