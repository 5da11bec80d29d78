/-
  Walk: the law VtparseNone answers true: every method of a parser that is nil does nothing. Conditions: the tables.
-/
import Derived.Test.YtopaeikddlpecaaDoorLive
namespace Go.Proofs.YtopaeikddlpecaaDoor
open Go.RowKit

theorem nnone_any (w : World) : Calls Tryd.prog 34 #[.pointer none] w fun e w' => e = .returned (.bool true) ∧ w = w' := by
  go_enter Tryd.func34, Tryd.ntmps34
  go_wp2
  go_ret
  exact ⟨rfl, rfl⟩
theorem nreset_any (w : World) : Calls Tryd.prog 22 #[.pointer none] w fun e w' => e = .returned (.tuple #[]) ∧ w = w' := by
  go_enter Tryd.func22, Tryd.ntmps22
  go_wp2_with (go_at_call 34; refine (nnone_any w).mono ?_; rintro e w1 ⟨rfl, rfl⟩)
  go_end0
  exact ⟨rfl, rfl⟩
theorem nput_any (w : World) (B : Option Addr) (n c : Nat) : Calls Tryd.prog 17 #[.pointer none, .slice B n c] w fun e w' => e = .returned (.slice none 0 0) ∧ w = w' := by
  go_enter Tryd.func17, Tryd.ntmps17
  go_wp2_with (go_at_call 34; refine (nnone_any w).mono ?_; rintro e w1 ⟨rfl, rfl⟩)
  go_ret
  exact ⟨rfl, rfl⟩
theorem nground_any (w : World) : Calls Tryd.prog 18 #[.pointer none] w fun e w' => e = .returned (.bool false) ∧ w = w' := by
  go_enter Tryd.func18, Tryd.ntmps18
  go_wp2_with (go_at_call 34; refine (nnone_any w).mono ?_; rintro e w1 ⟨rfl, rfl⟩)
  go_ret
  exact ⟨rfl, rfl⟩

theorem none_any (B : Option Addr) (n c : Nat) (w : World) (hT : Tabs w) : Calls Tryd.prog 9 #[.slice B n c] w (TrueP w) := by
  have CL := Lib.hid (live_any w hT)
  clear hT
  go_enter Tryd.func9, Tryd.ntmps9
  go_wp2_with (first
    | (go_at_call 22; refine (nreset_any w).mono ?_; rintro e w1 ⟨rfl, rfl⟩)
    | (go_at_call 12; refine CL.out.mono ?_; rintro e w1 ⟨rfl, hf⟩; have HF := Lib.hid hf; clear hf)
    | (go_at_call 17; refine (nput_any _ B n c).mono ?_; rintro e w2 ⟨rfl, rfl⟩)
    | (go_at_call 18; refine (nground_any _).mono ?_; rintro e w3 ⟨rfl, rfl⟩))
  go_ret
  exact ⟨rfl, HF.out⟩
end Go.Proofs.YtopaeikddlpecaaDoor
