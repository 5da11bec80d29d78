/-
  Walks of vtparse.Parser: execute, print. Conditions: the list of actions is shorter than 67108864; bytes are bytes.
-/
import Derived.Test.YtopaeikddlpecaaDoorRep
import Derived.ProofKit
import Derived.OpenShut
import Derived.WalkSpells
import Derived.Lib.Hide
import Derived.OwnWalk
import Derived.LoopTactic
import Derived.Outline
namespace Go.Proofs.YtopaeikddlpecaaDoor
open Go.RowKit

theorem act_info : (Tryd.prog.info? 35).map (fun i => (i.zero, i.size, i.bytes)) = some (some (.agg #[.int .i64 0, .int .i32 0, .int .u8 0, .int .u8 0, .slice none 0 0, .string ⟨#[]⟩, .string ⟨#[]⟩]), 7, 72) := by kernel_rfl

def aExec (b : Int) : PAct := { act0 with kind := 2, fin := b }
def aPrint (r : Int) : PAct := { act0 with kind := 1, rune := r }
theorem actC_exec (w : World) (b : Int) : ActC w NoB (aExec b) [.int .i64 2, .int .i32 0, .int .u8 b, .int .u8 0, .slice none 0 0, .string ⟨#[]⟩, .string ⟨#[]⟩] :=
  ⟨none, 0, 0, rfl, Rd.nil _ _ _ _, Nat.le_refl _⟩
theorem actC_print (w : World) (r : Int) : ActC w NoB (aPrint r) [.int .i64 1, .int .i32 r, .int .u8 0, .int .u8 0, .slice none 0 0, .string ⟨#[]⟩, .string ⟨#[]⟩] :=
  ⟨none, 0, 0, rfl, Rd.nil _ _ _ _, Nat.le_refl _⟩

def PS.tells (s : PS) (p : PAct) : PS := { s with out := s.out ++ [p] }

set_option maxHeartbeats 400000 in
theorem exec_any [Inhabited AvoidSet] (g : Nat) (b : Int) (s : PS) (F : Nat → Prop) (w : World) (h : RepP w F g s) (hn : s.out.length ≤ 67108864) :
    Calls Tryd.prog 48 #[.pointer (some ⟨g, 0, none⟩), .int .u8 b] w (PostP w F g (s.tells (aExec b))) := by
  obtain ⟨m, h⟩ := h
  have c11 : w.cell? ⟨g, 11, none⟩ = some (.slice m.oA s.out.length m.oc) := h.blk.cell 11
  have f11 : w.frozen? ⟨g, 11, none⟩ = false := h.blk.frozen 11
  have lt : g < w.heap.size := h.blk.lt
  obtain ⟨_, cs, hos, hoa⟩ := h.out
  have HR := Lib.hid h
  clear h
  go_enter Tryd.func48, Tryd.ntmps48
  go_wp2_with
    (at_builtin
     refine wpList_append_box w rfl (.tmp 8) (.tmp 11) _ rfl 35 _ 7 72 Tryd.underlying25 act_info rfl (by omega) rfl rfl hos rfl ?c1 (by omega) (by omega) ?_
     case c1 => simp [Value.oneCell']
     intro A' c' w1 hf1 hs1 hA1
     have d11 : w1.cell? ⟨g, 11, none⟩ = some (.slice m.oA s.out.length m.oc) := hf1.cell_some c11 (fun hk => Free.own hos (e := 53) (by decide) _ hk _ _ HR.out.blk)
     have e11 : w1.frozen? ⟨g, 11, none⟩ = false := (hf1.frozen (p := ⟨g, 11, none⟩) lt (fun hk => Free.own hos (e := 53) (by decide) _ hk _ _ HR.out.blk)).trans f11)
  go_end0
  exact ⟨rfl, HR.out.told hos hoa hf1 hs1 hA1 (aExec b) (actC_exec w b) (fun _ _ hk => hk.elim)⟩

def seen (r : Int) : Bool := decide (r < 128) || decide (159 < r)
def PS.prints (s : PS) (l : List Int) : PS := { s with out := s.out ++ (l.filter seen).map aPrint }
theorem prints_nil (s : PS) : s.prints [] = s := by simp [PS.prints]
theorem prints_yes (s : PS) (l : List Int) (r : Int) (h : seen r = true) : (s.prints l).tells (aPrint r) = s.prints (l ++ [r]) := by simp [PS.prints, PS.tells, List.filter_append, h]
theorem prints_no (s : PS) (l : List Int) (r : Int) (h : seen r = false) : s.prints l = s.prints (l ++ [r]) := by simp [PS.prints, List.filter_append, h]
theorem prints_len (s : PS) (l : List Int) : (s.prints l).out.length ≤ s.out.length + l.length := by
  simp only [PS.prints, List.length_append, List.length_map]
  have := List.length_filter_le seen l
  omega
theorem take_succ' {l : List Int} {k : Nat} (h : k < l.length) : l.take (k + 1) = l.take k ++ [l.getD k 0] := by
  rw [List.take_succ_eq_append_getElem h, List.getD_eq_getElem?_getD, List.getElem?_eq_getElem h, Option.getD_some]

set_option maxHeartbeats 800000 in
theorem print_any [Inhabited AvoidSet] (g : Nat) (A : Option Addr) (n c : Nat) (l : List Int) (s : PS) (F : Nat → Prop) (w : World) (h : RepP w F g s) (hl : Rd w (Off F) 1 A n (runes l)) (hn : s.out.length + n ≤ 67108864) :
    Calls Tryd.prog 29 #[.pointer (some ⟨g, 0, none⟩), .slice A n c] w (PostP w F g (s.prints l)) := by
  have hll : l.length = n := by have := hl.1; rw [runes_length] at this; omega
  have H0 := Lib.hid h
  have HL := Lib.hid hl
  have HLL := Lib.hid hll
  clear h hl hll
  go_enter Tryd.func29, Tryd.ntmps29
  go_wp2
  go_loopw [8] (fun i wr => ∃ k : Nat, k ≤ n ∧ i = .int .i64 k ∧ LeftP w F g (s.prints (l.take k)) wr) (fun i _ => n - (intOf i).toNat)
  case atStart => exact ⟨0, Nat.zero_le _, rfl, by rw [List.take_zero, prints_nil]; exact LeftP.refl H0.out⟩
  case round =>
    obtain ⟨k, hk, rfl, F', hr, hf, hF⟩ := hrel
    have HF := Lib.hid hf
    have HF' := Lib.hid hF
    have HR := Lib.hid hr
    clear hf hF hr
    by_cases hlt : k < n
    · obtain ⟨ga, oa, u, hA, lta, hu, hc⟩ := (HL.out.fr HF.out (fun _ hi => hi)).at_ hlt
      rw [runes_at (by rw [HLL.out]; exact hlt)] at hu
      have HT := Lib.hid (take_succ' (l := l) (k := k) (by rw [HLL.out]; exact hlt))
      have hlen := prints_len s (l.take k)
      rw [List.length_take] at hlen
      generalize hr0 : l.getD k 0 = r at *
      have HR0 := Lib.hid hr0
      clear hr0
      injection hu with hu
      subst hu
      subst hA
      by_cases h1 : r < 128 ∨ 159 < r
      · have hs : seen r = true := by simp [seen]; omega
        have HS := Lib.hid hs
        clear hs
        have next : ∀ w2, LeftP wr F' g ((s.prints (l.take k)).tells (aPrint r)) w2 → LeftP w F g (s.prints (l.take (k + 1))) w2 := fun w2 hw2 => by
          rw [HT.out, ← prints_yes _ _ _ HS.out]
          exact LeftP.trans HF.out HF'.out hw2
        have NX := Lib.hid next
        clear next
        obtain ⟨m, hm⟩ := HR.out
        have c11 : wr.cell? ⟨g, 11, none⟩ = some (.slice m.oA (s.prints (l.take k)).out.length m.oc) := hm.blk.cell 11
        have f11 : wr.frozen? ⟨g, 11, none⟩ = false := hm.blk.frozen 11
        have lt : g < wr.heap.size := hm.blk.lt
        obtain ⟨_, cs, hos, hoa⟩ := hm.out
        have HM := Lib.hid hm
        clear hm
        rcases (by omega : r < 128 ∨ (128 ≤ r ∧ 159 < r)) with h2 | ⟨h2, h3⟩
        all_goals
          clear h1
          go_wp2_with
            (at_builtin
             refine wpList_append_box wr rfl (.tmp 22) (.tmp 25) _ rfl 35 _ 7 72 Tryd.underlying25 act_info rfl (by omega) rfl rfl hos rfl ?c1 (by omega) (by omega) ?_
             case c1 => simp [Value.oneCell']
             intro A' c' w1 hf1 hs1 hA1
             have d11 : w1.cell? ⟨g, 11, none⟩ = some (.slice m.oA (s.prints (l.take k)).out.length m.oc) := hf1.cell_some c11 (fun hk => Free.own hos (e := 53) (by decide) _ hk _ _ HM.out.blk)
             have e11 : w1.frozen? ⟨g, 11, none⟩ = false := (hf1.frozen (p := ⟨g, 11, none⟩) lt (fun hk => Free.own hos (e := 53) (by decide) _ hk _ _ HM.out.blk)).trans f11)
          refine ⟨⟨k + 1, by omega, by go_num, NX.out _ ?_⟩, by simp [intOf]; omega⟩
          exact HM.out.told hos hoa hf1 hs1 hA1 (aPrint r) (actC_print wr r) (fun _ _ hk => hk.elim)
      · have h2 : 128 ≤ r := by omega
        have h3 : r ≤ 159 := by omega
        have hs : seen r = false := by simp [seen]; omega
        clear h1
        have HS := Lib.hid hs
        clear hs
        go_wp2
        refine ⟨⟨k + 1, by omega, by go_num, ?_⟩, by simp [intOf]; omega⟩
        rw [HT.out, ← prints_no _ _ _ HS.out]
        exact ⟨F', HR.out, HF.out, HF'.out⟩
    · go_wp2
      go_end0
      refine ⟨rfl, ?_⟩
      have e : l.take k = l := List.take_of_length_le (by rw [HLL.out]; omega)
      rw [e] at HR
      exact ⟨F', HR.out, HF.out, HF'.out⟩
end Go.Proofs.YtopaeikddlpecaaDoor
