/-
  Plain law: the bytes of printable runes, put to a parser on the ground, print just these runes. Plain: no program in sight.
-/
import Derived.Test.YtopaeikddlpecaaDoorAll
import Derived.Laws.Cover4
namespace Go.Proofs.YtopaeikddlpecaaDoor
open Go.RowKit

def encL (r : Int) : List Int := (Utf8.encode r).data.toList.map fun b => (b.toNat : Int)
structure Good (r : Int) : Prop where
  low : 32 ≤ r
  del : r ≠ 127
  c1 : ¬ (128 ≤ r ∧ r ≤ 159)
  sur : r < 55296 ∨ 57343 < r
  top : r ≤ 1114111
theorem Good.valid {r : Int} (h : Good r) : Utf8.valid r = true := by
  have h1 := h.low
  have h2 := h.sur
  have h3 := h.top
  simp [Utf8.valid]
  omega
theorem Good.seen {r : Int} (h : Good r) : seen r = true := by
  have h1 := h.c1
  simp [Go.Proofs.YtopaeikddlpecaaDoor.seen]
  omega
theorem u8_nat (n : Nat) (h : n < 256) : (((UInt8.ofNat n).toNat : Nat) : Int) = (n : Int) := by
  rw [UInt8.toNat_ofNat']
  congr 1
  omega

theorem encL_1 {r : Int} (h : Good r) (h1 : r < 128) : encL r = [r] := by
  have hv := h.valid
  have h0 := h.low
  obtain ⟨n, rfl⟩ := Int.eq_ofNat_of_zero_le (show 0 ≤ r by omega)
  unfold encL Utf8.encode
  simp only [hv, if_true, Int.toNat_natCast]
  rw [if_pos (by omega)]
  simp only [List.map_cons, List.map_nil, u8_nat n (by omega)]
theorem encL_2 {r : Int} (h : Good r) (h1 : 128 ≤ r) (h2 : r < 2048) : encL r = [192 + r / 64, 128 + r % 64] := by
  have hv := h.valid
  obtain ⟨n, rfl⟩ := Int.eq_ofNat_of_zero_le (show 0 ≤ r by omega)
  unfold encL Utf8.encode
  simp only [hv, if_true, Int.toNat_natCast]
  rw [if_neg (by omega), if_pos (by omega)]
  simp only [List.map_cons, List.map_nil]
  rw [u8_nat _ (by omega), u8_nat _ (by omega)]
  simp only [Int.natCast_add, Int.natCast_ediv, Int.natCast_emod]
  rfl
theorem encL_3 {r : Int} (h : Good r) (h1 : 2048 ≤ r) (h2 : r < 65536) : encL r = [224 + r / 4096, 128 + r / 64 % 64, 128 + r % 64] := by
  have hv := h.valid
  obtain ⟨n, rfl⟩ := Int.eq_ofNat_of_zero_le (show 0 ≤ r by omega)
  unfold encL Utf8.encode
  simp only [hv, if_true, Int.toNat_natCast]
  rw [if_neg (by omega), if_neg (by omega), if_pos (by omega)]
  simp only [List.map_cons, List.map_nil]
  rw [u8_nat _ (by omega), u8_nat _ (by omega), u8_nat _ (by omega)]
  simp only [Int.natCast_add, Int.natCast_ediv, Int.natCast_emod]
  rfl
theorem encL_4 {r : Int} (h : Good r) (h1 : 65536 ≤ r) : encL r = [240 + r / 262144, 128 + r / 4096 % 64, 128 + r / 64 % 64, 128 + r % 64] := by
  have hv := h.valid
  have h2 := h.top
  obtain ⟨n, rfl⟩ := Int.eq_ofNat_of_zero_le (show 0 ≤ r by omega)
  unfold encL Utf8.encode
  simp only [hv, if_true, Int.toNat_natCast]
  rw [if_neg (by omega), if_neg (by omega), if_neg (by omega)]
  simp only [List.map_cons, List.map_nil]
  rw [u8_nat _ (by omega), u8_nat _ (by omega), u8_nat _ (by omega), u8_nat _ (by omega)]
  simp only [Int.natCast_add, Int.natCast_ediv, Int.natCast_emod]
  rfl

theorem one_high (s : PS) (b : Int) (h0 : s.state = 0) (hb : 128 ≤ b) : s.one b = s.high b := by
  unfold PS.one PS.pre
  rw [if_neg (by omega)]
  unfold PS.sw PS.plain
  rw [if_neg (by omega), if_neg (by omega), if_pos h0, if_pos hb]
theorem decLoop_whole {l : List Int} {r : Int} (hne : l ≠ []) (hf : full l = true) (hd : dec l = (r, (l.length : Int))) : decLoop l = ([r], []) := by
  have hn : decN l = l.length := by simp [decN, hd]
  have hr : decR l = r := by simp [decR, hd]
  rw [decLoop_full l hne hf, hr, hn, List.drop_length, decLoop_nil]
theorem one_begun (s : PS) (l : List Int) (b : Int) (h0 : s.state = 0) (hd : s.dec = l) (hb : 128 ≤ b) (hf : full (l ++ [b]) = false) : s.one b = { s with dec := l ++ [b] } := by
  rw [one_high s b h0 hb]
  unfold PS.high
  rw [hd, decLoop_stop _ (by simp) hf]
  simp [PS.prints]
theorem one_whole (s : PS) (l : List Int) (b r : Int) (h0 : s.state = 0) (hd : s.dec = l) (hb : 128 ≤ b) (hs : seen r = true) (hf : full (l ++ [b]) = true) (hdc : dec (l ++ [b]) = (r, ((l ++ [b]).length : Int))) : s.one b = { s with dec := [], out := s.out ++ [aPrint r] } := by
  rw [one_high s b h0 hb]
  unfold PS.high
  rw [hd, decLoop_whole (by simp) hf hdc]
  simp [PS.prints, hs]

/-- one printable rune -/
theorem run_good (s : PS) (r : Int) (h : Good r) (h0 : s.state = 0) (hd : s.dec = []) : s.run (encL r) = { s with out := s.out ++ [aPrint r] } := by
  have hl := h.low
  have hdel := h.del
  have hc1 := h.c1
  have hsur := h.sur
  have htop := h.top
  have hseen := h.seen
  have e0 : ∀ o, ({ s with dec := [], out := o } : PS) = { s with out := o } := fun o => by
    obtain ⟨_, d, _, _, _⟩ := s
    simp only at hd
    subst hd
    rfl
  rcases (by omega : r < 128 ∨ (128 ≤ r ∧ r < 2048) ∨ (2048 ≤ r ∧ r < 65536) ∨ 65536 ≤ r) with k | ⟨k, k'⟩ | ⟨k, k'⟩ | k
  · rw [encL_1 h k]
    show s.one r = _
    have hfl : s.flush = s := by
      unfold PS.flush PS.prints
      rw [hd, runesOf_nil]
      simp only [List.filter_nil, List.map_nil, List.append_nil]
      exact (e0 s.out).trans rfl
    unfold PS.one PS.pre
    rw [if_pos ⟨h0, k⟩, hfl]
    unfold PS.sw PS.plain
    rw [if_neg (by omega), if_neg (by omega), if_pos h0, if_neg (by omega), if_neg (by omega), if_pos (by omega)]
    simp [PS.prints, hseen]
  · rw [encL_2 h k k']
    show (s.one _).one _ = _
    have e1 : s.one (192 + r / 64) = { s with dec := [192 + r / 64] } := one_begun s [] _ h0 hd (by omega) (by
      show full [192 + r / 64] = false
      unfold full
      rw [if_neg (by simp), if_neg (by simp; omega), if_neg (by simp; omega), if_pos (by simp)])
    have e2 := one_whole { s with dec := [192 + r / 64] } [192 + r / 64] (128 + r % 64) r h0 rfl (by omega) hseen (by
      show full [192 + r / 64, 128 + r % 64] = true
      unfold full
      rw [if_neg (by simp), if_neg (by simp; omega), if_neg (by simp; omega), if_neg (by simp), if_pos (by simp; omega)]) (by
      show dec [192 + r / 64, 128 + r % 64] = (r, 2)
      unfold dec
      have hlo : loB ([192 + r / 64, 128 + r % 64].getD 0 0) = 128 := by unfold loB; rw [if_neg (by simp; omega), if_neg (by simp; omega)]
      have hhi : hiB ([192 + r / 64, 128 + r % 64].getD 0 0) = 191 := by unfold hiB; rw [if_neg (by simp; omega), if_neg (by simp; omega)]
      rw [hlo, hhi]
      rw [if_neg (by simp), if_neg (by simp; omega), if_neg (by simp; omega), if_neg (by simp; omega), if_neg (by simp), if_neg (by simp; omega), if_neg (by simp; omega), if_pos (by simp; omega)]
      simp only [val2, List.getD_cons_zero, List.getD_cons_succ]
      congr 1
      omega)
    rw [e1, e2]
    exact e0 _
  · rw [encL_3 h k k']
    show ((s.one _).one _).one _ = _
    have hlo : 224 + r / 4096 = 224 → 160 ≤ 128 + r / 64 % 64 := by omega
    have hhi : 224 + r / 4096 = 237 → 128 + r / 64 % 64 ≤ 159 := by omega
    have h1 : loB (224 + r / 4096) ≤ 128 + r / 64 % 64 := by unfold loB; repeat' split
                                                             all_goals omega
    have h2 : 128 + r / 64 % 64 ≤ hiB (224 + r / 4096) := by unfold hiB; repeat' split
                                                             all_goals omega
    have e1 : s.one (224 + r / 4096) = { s with dec := [224 + r / 4096] } := one_begun s [] _ h0 hd (by omega) (by
      show full [224 + r / 4096] = false
      unfold full
      rw [if_neg (by simp), if_neg (by simp; omega), if_neg (by simp; omega), if_pos (by simp)])
    have e2 : ({ s with dec := [224 + r / 4096] } : PS).one (128 + r / 64 % 64) = { s with dec := [224 + r / 4096, 128 + r / 64 % 64] } := one_begun { s with dec := [224 + r / 4096] } [224 + r / 4096] _ h0 rfl (by omega) (by
      show full [224 + r / 4096, 128 + r / 64 % 64] = false
      unfold full
      rw [if_neg (by simp), if_neg (by simp; omega), if_neg (by simp; omega), if_neg (by simp), if_neg (by simp; omega), if_neg (by simp; omega), if_neg (by simp; omega), if_pos (by simp)])
    have e3 := one_whole { s with dec := [224 + r / 4096, 128 + r / 64 % 64] } [224 + r / 4096, 128 + r / 64 % 64] (128 + r % 64) r h0 rfl (by omega) hseen (by
      show full [224 + r / 4096, 128 + r / 64 % 64, 128 + r % 64] = true
      unfold full
      rw [if_neg (by simp), if_neg (by simp; omega), if_neg (by simp; omega), if_neg (by simp), if_neg (by simp; omega), if_neg (by simp; omega), if_neg (by simp; omega), if_neg (by simp), if_pos (by simp; omega)]) (by
      show dec [224 + r / 4096, 128 + r / 64 % 64, 128 + r % 64] = (r, 3)
      unfold dec
      rw [if_neg (by simp), if_neg (by simp; omega), if_neg (by simp; omega), if_neg (by simp; omega), if_neg (by simp), if_neg (by simp; omega), if_neg (by simp; omega), if_neg (by simp; omega), if_neg (by simp), if_neg (by simp; omega), if_neg (by simp; omega), if_pos (by simp; omega)]
      simp only [val3, List.getD_cons_zero, List.getD_cons_succ]
      congr 1
      omega)
    rw [e1, e2, e3]
    exact e0 _
  · rw [encL_4 h k]
    show (((s.one _).one _).one _).one _ = _
    have h1 : loB (240 + r / 262144) ≤ 128 + r / 4096 % 64 := by unfold loB; repeat' split
                                                                 all_goals omega
    have h2 : 128 + r / 4096 % 64 ≤ hiB (240 + r / 262144) := by unfold hiB; repeat' split
                                                                 all_goals omega
    have e1 : s.one (240 + r / 262144) = { s with dec := [240 + r / 262144] } := one_begun s [] _ h0 hd (by omega) (by
      show full [240 + r / 262144] = false
      unfold full
      rw [if_neg (by simp), if_neg (by simp; omega), if_neg (by simp; omega), if_pos (by simp)])
    have e2 : ({ s with dec := [240 + r / 262144] } : PS).one (128 + r / 4096 % 64) = { s with dec := [240 + r / 262144, 128 + r / 4096 % 64] } := one_begun { s with dec := [240 + r / 262144] } [240 + r / 262144] _ h0 rfl (by omega) (by
      show full [240 + r / 262144, 128 + r / 4096 % 64] = false
      unfold full
      rw [if_neg (by simp), if_neg (by simp; omega), if_neg (by simp; omega), if_neg (by simp), if_neg (by simp; omega), if_neg (by simp; omega), if_neg (by simp; omega), if_pos (by simp)])
    have e3 : ({ s with dec := [240 + r / 262144, 128 + r / 4096 % 64] } : PS).one (128 + r / 64 % 64) = { s with dec := [240 + r / 262144, 128 + r / 4096 % 64, 128 + r / 64 % 64] } := one_begun { s with dec := [240 + r / 262144, 128 + r / 4096 % 64] } [240 + r / 262144, 128 + r / 4096 % 64] _ h0 rfl (by omega) (by
      show full [240 + r / 262144, 128 + r / 4096 % 64, 128 + r / 64 % 64] = false
      unfold full
      rw [if_neg (by simp), if_neg (by simp; omega), if_neg (by simp; omega), if_neg (by simp), if_neg (by simp; omega), if_neg (by simp; omega), if_neg (by simp; omega), if_neg (by simp), if_neg (by simp; omega), if_neg (by simp; omega), if_neg (by simp; omega), if_pos (by simp)])
    have e4 := one_whole { s with dec := [240 + r / 262144, 128 + r / 4096 % 64, 128 + r / 64 % 64] } [240 + r / 262144, 128 + r / 4096 % 64, 128 + r / 64 % 64] (128 + r % 64) r h0 rfl (by omega) hseen (by
      show full [240 + r / 262144, 128 + r / 4096 % 64, 128 + r / 64 % 64, 128 + r % 64] = true
      unfold full
      rw [if_neg (by simp), if_neg (by simp; omega), if_neg (by simp; omega), if_neg (by simp), if_neg (by simp; omega), if_neg (by simp; omega), if_neg (by simp; omega), if_neg (by simp), if_neg (by simp; omega), if_neg (by simp; omega), if_neg (by simp; omega), if_neg (by simp)]) (by
      show dec [240 + r / 262144, 128 + r / 4096 % 64, 128 + r / 64 % 64, 128 + r % 64] = (r, 4)
      unfold dec
      rw [if_neg (by simp), if_neg (by simp; omega), if_neg (by simp; omega), if_neg (by simp; omega), if_neg (by simp), if_neg (by simp; omega), if_neg (by simp; omega), if_neg (by simp; omega), if_neg (by simp), if_neg (by simp; omega), if_neg (by simp; omega), if_neg (by simp; omega), if_neg (by simp), if_neg (by simp; omega), if_neg (by simp; omega)]
      simp only [val4, List.getD_cons_zero, List.getD_cons_succ]
      congr 1
      omega)
    rw [e1, e2, e3, e4]
    exact e0 _

def textL (l : List Int) : List Int := l.flatMap encL
theorem run_text (s : PS) (l : List Int) (h : ∀ r ∈ l, Good r) (h0 : s.state = 0) (hd : s.dec = []) : s.run (textL l) = { s with out := s.out ++ l.map aPrint } := by
  induction l generalizing s with
  | nil => simp [textL, PS.run]
  | cons r l ih =>
    have e : s.run (textL (r :: l)) = (s.run (encL r)).run (textL l) := by simp [textL, PS.run, List.foldl_append]
    rw [e, run_good s r (h r (by simp)) h0 hd, ih { s with out := s.out ++ [aPrint r] } (fun x hx => h x (by simp [hx])) h0 hd]
    simp
theorem all_text (l : List Int) (h : ∀ r ∈ l, Good r) : allP (textL l) = l.map aPrint := by
  have hr := run_text PS0 l h rfl rfl
  unfold allP PS.tail
  rw [hr]
  have : ({ PS0 with out := PS0.out ++ l.map aPrint } : PS).state = 0 := rfl
  rw [if_pos this]
  simp [PS.clear, PS.flush, PS.prints, PS0, runesOf_nil]
theorem textL_byts (l : List Int) : Byts (textL l) := fun k => by
  rcases Nat.lt_or_ge k (textL l).length with hk | hk
  · have hm : (textL l).getD k 0 ∈ textL l := by
      rw [List.getD_eq_getElem?_getD, List.getElem?_eq_getElem hk, Option.getD_some]
      exact List.getElem_mem hk
    simp only [textL, List.mem_flatMap, encL, List.mem_map] at hm
    obtain ⟨r, _, b, _, e⟩ := hm
    have := b.toNat_lt
    show 0 ≤ (textL l).getD k 0 ∧ _
    unfold textL
    rw [← e]
    omega
  · simp [List.getD_eq_getElem?_getD, List.getElem?_eq_none hk]
/-- the model's string of runes, byte by byte -/
theorem runesBytes_list (l : List Int) : (runesBytes l).data.toList.map (fun b => (b.toNat : Int)) = textL l := by
  have key : ∀ (l : List Int) (s : ByteArray), (l.foldl (fun r n => r ++ Utf8.encode n) s).data.toList.map (fun b => (b.toNat : Int)) = s.data.toList.map (fun b => (b.toNat : Int)) ++ textL l := by
    intro l
    induction l with
    | nil => intro s; simp [textL]
    | cons r l ih =>
      intro s
      rw [List.foldl_cons, ih]
      simp [textL, encL]
  have := key l ByteArray.empty
  simpa [runesBytes] using this
end Go.Proofs.YtopaeikddlpecaaDoor
