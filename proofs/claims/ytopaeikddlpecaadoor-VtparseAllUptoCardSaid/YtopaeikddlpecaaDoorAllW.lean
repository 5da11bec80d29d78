/-
  Walk: the law VtparseAll answers true. Conditions: the tables; at most 1048576 bytes.
-/
import Derived.Test.YtopaeikddlpecaaDoorRl
import Derived.Test.YtopaeikddlpecaaDoorSame
import Derived.Test.YtopaeikddlpecaaDoorActs
namespace Go.Proofs.YtopaeikddlpecaaDoor
open Go.RowKit

theorem allaw_any (bs : List Int) (A : Option Addr) (n c : Nat) (w : World) (hT : Tabs w) (hr : Rd w (fun k => k < w.heap.size) 1 A n (byts bs)) (hn : n ≤ 1048576) (hb : Byts bs) :
    Calls Tryd.prog 3 #[.slice A n c] w (TrueP w) := by
  have HT := Lib.hid hT
  have HR := Lib.hid hr
  have HB := Lib.hid hb
  have hbn : bs.length = n := by have := hr.1; rw [byts_length] at this; omega
  have HS := Lib.hid (all_same bs hb)
  have hl := allP_len bs hb
  have HOK := Lib.hid (allP_ok bs hb)
  have CL := Lib.hid (live_any w hT)
  clear hT hr hb
  have hl2 : (allP bs).length ≤ 4194303 := by omega
  go_enter Tryd.func3, Tryd.ntmps3
  go_wp2_with (first
    | (go_at_call 12
       refine CL.out.mono ?_
       rintro e w1 ⟨rfl, hf1⟩
       have CA := Lib.hid (all_any bs _ A n c w1 (HT.out.fr hf1 fun _ _ => noB_no) (HR.out.fr hf1 fun _ _ => noB_no) (by omega) HB.out)
       have HF1 := Lib.hid hf1
       clear hf1)
    | (go_at_call 14
       refine CA.out.mono ?_
       rintro e w2 ⟨A2, c2, rfl, hin, hf2, hc2⟩
       have hf := HF1.out.trans hf2 fun _ _ h => h
       have cr := rall_any bs A n c w2 ((HR.out.fr hf fun _ _ => noB_no).mono fun k hk _ => hk) (by omega) HB.out
       rw [← HS.out] at cr
       have CR := Lib.hid cr
       have HIN := Lib.hid hin
       have HF2 := Lib.hid hf
       clear hin hf hf2 hc2 cr)
    | (go_at_call 15
       refine CR.out.mono ?_
       rintro e w3 ⟨A3, c3, rfl, hin3, hf3, hc3⟩
       have hin2 := HIN.out.fr hf3 fun _ _ => noB_no
       have CS := same_any (allP bs) _ _ A2 A3 _ c2 c3 w3 hin2 hin3 (by omega) (fun p hp => by have := (HOK.out p hp).parL; omega)
       have CSS := Lib.hid CS
       have HF3 := Lib.hid (HF2.out.trans hf3 fun _ _ h => h)
       clear hin3 hf3 hin2 CS hc3)
    | (go_at_call 13
       refine CSS.out.mono ?_
       rintro e w4 ⟨rfl, hf4⟩
       have HF4 := Lib.hid (HF3.out.trans hf4 fun _ _ h => h)
       clear hf4))
  go_ret
  exact ⟨rfl, HF4.out⟩
end Go.Proofs.YtopaeikddlpecaaDoor
