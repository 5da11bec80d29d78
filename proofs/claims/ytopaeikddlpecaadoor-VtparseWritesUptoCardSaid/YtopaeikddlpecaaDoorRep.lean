/-
  How the parser of package vtparse lies in memory: actions, the decoder, the parser ('RepA', 'RepD', 'RepP'), and what a store, an append does to it. Conditions: none; plain lemmas.
-/
import Derived.Test.YtopaeikddlpecaaDoorBase
namespace Go.Proofs.YtopaeikddlpecaaDoor
open Go.RowKit

/-! ### actions -/
structure PAct where
  kind : Int
  rune : Int
  fin : Int
  priv : Int
  params : List Int
  inter : ByteArray
  text : ByteArray

def es : ByteArray := ⟨#[]⟩
def act0 : PAct := ⟨0, 0, 0, 0, [], ⟨#[]⟩, ⟨#[]⟩⟩
def PAct.cells (a : PAct) (v : Value) : List Value := [.int .i64 a.kind, .int .i32 a.rune, .int .u8 a.fin, .int .u8 a.priv, v, .string a.inter, .string a.text]
/-- an action's seven cells; its parameters lie in blocks of R -/
def ActC (w : World) (R : Nat → Prop) (p : PAct) (c : List Value) : Prop := ∃ A n k, c = p.cells (.slice A n k) ∧ Rd w R 1 A n (ints p.params) ∧ n ≤ k
def RepActs (w : World) (R : Nat → Prop) (ps : List PAct) (cs : List Value) : Prop :=
  cs.length = ps.length * 7 ∧ ∀ j p, ps[j]? = some p → ActC w R p ((cs.drop (j * 7)).take 7)

section
variable {w w' : World} {R G : Nat → Prop}
theorem ActC.fr {p : PAct} {c : List Value} (h : ActC w R p c) (hf : Fr G w w') (hd : ∀ i, R i → ¬ G i) : ActC w' R p c := by
  obtain ⟨A, n, k, e, hr, hk⟩ := h
  exact ⟨A, n, k, e, hr.fr hf hd, hk⟩
theorem ActC.mono {p : PAct} {c : List Value} (h : ActC w R p c) (hR : ∀ g, g < w.heap.size → R g → G g) : ActC w G p c := by
  obtain ⟨A, n, k, e, hr, hk⟩ := h
  exact ⟨A, n, k, e, hr.mono hR, hk⟩
theorem RepActs.nil (w : World) (R : Nat → Prop) : RepActs w R [] [] := ⟨rfl, fun j p h => by simp at h⟩
theorem RepActs.fr {ps : List PAct} {cs : List Value} (h : RepActs w R ps cs) (hf : Fr G w w') (hd : ∀ i, R i → ¬ G i) : RepActs w' R ps cs :=
  ⟨h.1, fun j p hp => (h.2 j p hp).fr hf hd⟩
theorem RepActs.mono {ps : List PAct} {cs : List Value} (h : RepActs w R ps cs) (hR : ∀ g, g < w.heap.size → R g → G g) : RepActs w G ps cs :=
  ⟨h.1, fun j p hp => (h.2 j p hp).mono hR⟩
theorem RepActs.append {ps qs : List PAct} {cs ds : List Value} (h : RepActs w R ps cs) (k : RepActs w R qs ds) : RepActs w R (ps ++ qs) (cs ++ ds) := by
  refine ⟨by rw [List.length_append, h.1, k.1, List.length_append, Nat.add_mul], fun j p hp => ?_⟩
  rcases Nat.lt_or_ge j ps.length with hj | hj
  · rw [List.getElem?_append_left hj] at hp
    have hl := h.1
    rw [List.drop_append_of_le_length (by omega), List.take_append_of_le_length (by rw [List.length_drop]; omega)]
    exact h.2 j p hp
  · rw [List.getElem?_append_right hj] at hp
    have hl := h.1
    rw [List.drop_append, List.drop_of_length_le (by omega), List.nil_append]
    have e : j * 7 - cs.length = (j - ps.length) * 7 := by omega
    rw [e]
    exact k.2 _ p hp
theorem RepActs.one {p : PAct} {c : List Value} (h : ActC w R p c) : RepActs w R [p] c := by
  have hc : c.length = 7 := by obtain ⟨A, n, k, rfl, _⟩ := h; rfl
  refine ⟨by simpa using hc, fun j q hq => ?_⟩
  obtain rfl : j = 0 := by
    have := (List.getElem?_eq_some_iff.1 hq).1
    simp at this
    omega
  obtain rfl : p = q := by simpa using hq
  simpa [List.take_of_length_le (by omega : c.length ≤ 7)] using h
theorem RepActs.take {ps : List PAct} {cs : List Value} (h : RepActs w R ps cs) (k : Nat) : RepActs w R (ps.take k) (cs.take (k * 7)) := by
  have hl := h.1
  refine ⟨by rw [List.length_take, List.length_take, hl]; omega, fun j p hp => ?_⟩
  have hj := (List.getElem?_eq_some_iff.1 hp).1
  rw [List.length_take] at hj
  rw [List.getElem?_take, if_pos (by omega)] at hp
  rw [List.drop_take, List.take_take, Nat.min_eq_left (by omega)]
  exact h.2 j p hp
end

/-- a slice of actions that is owned (F), its parameters' blocks being R's -/
def Acts (w : World) (F R : Nat → Prop) (A : Option Addr) (n c : Nat) (ps : List PAct) : Prop :=
  n = ps.length ∧ ∃ cs, Sl w F 35 7 A n c cs ∧ RepActs w R ps cs

/-! ### the parser -/
structure PS where
  state : Int
  dec : List Int
  a : PAct
  many : Int
  out : List PAct

structure PM where
  gd : Nat
  pA : Option Addr
  pn : Nat
  pc : Nat
  oA : Option Addr
  oc : Nat

def PS.blk (s : PS) (m : PM) : Array Value :=
  #[.bool true, .int .i64 s.state, .pointer (some ⟨m.gd, 0, none⟩), .int .i64 s.a.kind, .int .i32 s.a.rune, .int .u8 s.a.fin, .int .u8 s.a.priv, .slice m.pA m.pn m.pc, .string s.a.inter, .string s.a.text, .int .i64 s.many, .slice m.oA s.out.length m.oc]

/-- the blocks that are not F's -/
def Off (F : Nat → Prop) : Nat → Prop := fun k => ¬ F k
/-- blocks that no action's parameters may lie in (another parser's, say): a set that the caller names, handed on as an instance -/
structure AvoidSet where
  S : Nat → Prop
def Av [Inhabited AvoidSet] (k : Nat) : Prop := (default : AvoidSet).S k
def OffS [Inhabited AvoidSet] (F : Nat → Prop) : Nat → Prop := fun k => ¬ F k ∧ ¬ Av k

structure RepPM [Inhabited AvoidSet] (w : World) (F : Nat → Prop) (g : Nat) (s : PS) (m : PM) : Prop where
  blk : Blk w g 53 (s.blk m)
  own : F g
  dom : ∀ k, F k → k < w.heap.size
  avd : ∀ k, Av k → k < w.heap.size
  dec : RepD w F m.gd s.dec
  par : Sl w F 3 1 m.pA m.pn m.pc (ints s.a.params)
  out : Acts w F (OffS F) m.oA s.out.length m.oc s.out

def RepP [Inhabited AvoidSet] (w : World) (F : Nat → Prop) (g : Nat) (s : PS) : Prop := ∃ m, RepPM w F g s m

/-- what a method leaves: the parser is s', nothing but its own blocks and new ones has turned -/
def LeftP [Inhabited AvoidSet] (w : World) (F : Nat → Prop) (g : Nat) (s' : PS) (w' : World) : Prop :=
  ∃ F', RepP w' F' g s' ∧ Fr F w w' ∧ ∀ k, F' k → k < w.heap.size → F k

def PostP [Inhabited AvoidSet] (w : World) (F : Nat → Prop) (g : Nat) (s' : PS) (e : Ending) (w' : World) : Prop := e = .returned (.tuple #[]) ∧ LeftP w F g s' w'

/-- F and one block more -/
def Plus (F : Nat → Prop) (A : Option Addr) : Nat → Prop := fun k => F k ∨ Own A k

section
variable {w w' : World} {F G : Nat → Prop} {g : Nat} {s : PS} {m : PM}
theorem LeftP.trans [Inhabited AvoidSet] {w1 w2 : World} {s2 : PS} {F1 : Nat → Prop} (hf : Fr F w w1) (hF : ∀ k, F1 k → k < w.heap.size → F k) (k : LeftP w1 F1 g s2 w2) : LeftP w F g s2 w2 := by
  obtain ⟨F2, hr, hf2, h2⟩ := k
  exact ⟨F2, hr, hf.trans hf2 fun i hi h1 => hF i h1 hi, fun i h hi => hF i (h2 i h (Nat.lt_of_lt_of_le hi hf.size)) hi⟩
theorem LeftP.more [Inhabited AvoidSet] {w1 w2 : World} {s2 : PS} (h : LeftP w F g s2 w1) (hf : Fr NoB w1 w2) (hfr : ∀ {F' : Nat → Prop}, RepP w1 F' g s2 → RepP w2 F' g s2) : LeftP w F g s2 w2 := by
  obtain ⟨F', hr, hf1, h1⟩ := h
  exact ⟨F', hfr hr, hf1.trans hf fun _ _ hk => hk.elim, h1⟩
theorem LeftP.refl [Inhabited AvoidSet] (h : RepP w F g s) : LeftP w F g s w := ⟨F, h, Fr.refl _ _, fun _ h _ => h⟩
theorem PostP.then_ [Inhabited AvoidSet] {w1 w2 : World} {s2 : PS} {F1 : Nat → Prop} {e : Ending} (hf : Fr F w w1) (hF : ∀ k, F1 k → k < w.heap.size → F k) (k : PostP w1 F1 g s2 e w2) : PostP w F g s2 e w2 :=
  ⟨k.1, LeftP.trans hf hF k.2⟩

/-- everything but the parser's own block, carried over a step that writes that block alone -/
theorem RepPM.restore [Inhabited AvoidSet] {s' : PS} (h : RepPM w F g s m) (hf : Fr (· = g) w w') (hb : Blk w' g 53 (s'.blk m)) (hd : s'.dec = s.dec) (hp : s'.a.params = s.a.params) (ho : s'.out = s.out) : RepPM w' F g s' m := by
  obtain ⟨hn, cs, hos, hoa⟩ := h.out
  refine ⟨hb, h.own, fun k hk => Nat.lt_of_lt_of_le (h.dom k hk) hf.size, fun k hk => Nat.lt_of_lt_of_le (h.avd k hk) hf.size, ?_, ?_, ?_⟩
  · rw [hd]
    exact h.dec.carry hf (Free.blk h.blk (by decide)) (Free.blk h.blk (by decide))
  · rw [hp]
    exact h.par.carry hf (Free.blk h.blk (by decide))
  · rw [ho]
    refine ⟨hn, cs, hos.carry hf (Free.blk h.blk (by decide)), hoa.fr hf ?_⟩
    rintro i hi rfl
    exact hi.1 h.own

/-- nothing old has turned -/
theorem RepPM.fr [Inhabited AvoidSet] {X : Nat → Prop} (h : RepPM w F g s m) (hf : Fr X w w') (hX : ∀ k, k < w.heap.size → ¬ X k) : RepPM w' F g s m := by
  have hfree : ∀ e, Free w X e := fun e k hk cur fz hh => hX k (Array.getElem?_eq_some_iff.1 hh).1 hk
  obtain ⟨hn, cs, hos, hoa⟩ := h.out
  refine ⟨h.blk.carry hf (hfree _), h.own, fun k hk => Nat.lt_of_lt_of_le (h.dom k hk) hf.size, fun k hk => Nat.lt_of_lt_of_le (h.avd k hk) hf.size, h.dec.carry hf (hfree _) (hfree _), h.par.carry hf (hfree _), hn, cs, hos.carry hf (hfree _), ?_⟩
  exact (hoa.mono (G := fun k => k < w.heap.size ∧ OffS F k) fun k hk ho => ⟨hk, ho⟩).fr hf (fun i hi => hX i hi.1) |>.mono fun k _ hk => hk.2

theorem RepP.fr [Inhabited AvoidSet] {X : Nat → Prop} (h : RepP w F g s) (hf : Fr X w w') (hX : ∀ k, k < w.heap.size → ¬ X k) : RepP w' F g s := by
  obtain ⟨m, h⟩ := h
  exact ⟨m, h.fr hf hX⟩
theorem LeftP.new [Inhabited AvoidSet] {w1 w2 : World} {s2 : PS} (h : LeftP w F g s2 w1) (hf : Fr NoB w1 w2) : LeftP w F g s2 w2 := h.more hf fun hr => hr.fr hf fun _ _ hk => hk

/-- an action told: behind an append onto the list and the store of it -/
theorem RepPM.told [Inhabited AvoidSet] (h : RepPM w F g s m) {cs ac : List Value} {A' : Option Addr} {c' : Nat} {w1 : World} (hos : Sl w F 35 7 m.oA s.out.length m.oc cs) (hoa : RepActs w (OffS F) s.out cs)
    (hf : Fr (Own m.oA) w w1) (hs1 : Sl w1 (Own A') 35 7 A' (s.out.length + 1) c' (cs ++ ac)) (hA : A' = m.oA ∨ ∃ k, A' = some ⟨k, 0, none⟩ ∧ w.heap.size ≤ k)
    (p : PAct) {R : Nat → Prop} (hp : ActC w R p ac) (hR : ∀ k, k < w.heap.size → R k → OffS F k) :
    LeftP w F g { s with out := s.out ++ [p] } (w1.setCell ⟨g, 11, none⟩ (.slice A' (s.out.length + 1) c')) := by
  have hold : ∀ k, Own A' k → k < w.heap.size → F k := by
    intro k hk hlt
    rcases hA with rfl | ⟨k', rfl, hk'⟩
    · rcases hos.2 with ⟨hn, _⟩ | ⟨g', o, hA', hF, _⟩
      · rw [hn] at hk; cases hk
      · rw [hA'] at hk
        have : g' = k := by injection hk
        exact this ▸ hF
    · have : k' = k := by injection hk
      omega
  have hofF : ∀ k, Own m.oA k → F k := by
    intro k hk
    rcases hos.2 with ⟨hn, _⟩ | ⟨g', o, hA', hF, _⟩
    · rw [hn] at hk; cases hk
    · rw [hA'] at hk
      have : g' = k := by injection hk
      exact this ▸ hF
  have hg1 : Blk w1 g 53 (s.blk m) := h.blk.carry hf (Free.own hos (by decide))
  have hf2 : Fr (· = g) w1 (w1.setCell ⟨g, 11, none⟩ (.slice A' (s.out.length + 1) c')) := (Fr.refl (· = g) w1).setCell (p := ⟨g, 11, none⟩) (fun _ => rfl) _
  have hgA : ∀ k, Own A' k → k ≠ g := by
    rintro k hk rfl
    exact Free.own hs1 (e := 53) (by decide) _ hk _ _ hg1
  have hfr : Fr F w (w1.setCell ⟨g, 11, none⟩ (.slice A' (s.out.length + 1) c')) := (hf.mono fun k _ hk => hofF k hk).trans hf2 (by rintro i _ rfl; exact h.own)
  refine ⟨Plus F A', ⟨{ m with oA := A', oc := c' }, ?_, .inl h.own, ?_, fun k hk => Nat.lt_of_lt_of_le (h.avd k hk) hfr.size, ?_, ?_, ?_⟩, hfr, ?_⟩
  · have := hg1.put 11 (.slice A' (s.out.length + 1) c')
    simpa [PS.blk] using this
  · intro k hk
    rcases hk with hk | hk
    · exact Nat.lt_of_lt_of_le (h.dom k hk) hfr.size
    · rcases hs1.2 with ⟨rfl, _⟩ | ⟨g', o, rfl, _, hat⟩
      · cases hk
      · have : g' = k := by injection hk
        subst this
        exact Nat.lt_of_lt_of_le hat.lt (by simp)
  · exact ((h.dec.carry hf (Free.own hos (by decide)) (Free.own hos (by decide))).carry hf2 (Free.blk hg1 (by decide)) (Free.blk hg1 (by decide))).mono fun k hk => .inl hk
  · exact ((h.par.carry hf (Free.own hos (by decide))).carry hf2 (Free.blk hg1 (by decide))).mono fun k hk => .inl hk
  · refine ⟨rfl, cs ++ ac, ?_, ?_⟩
    · have := (hs1.carry hf2 (Free.blk hg1 (by decide))).mono (G := Plus F A') fun k hk => .inr hk
      simpa using this
    · have hall := hoa.append (RepActs.one (hp.mono (G := OffS F) hR))
      have h2 := (hall.mono (G := fun k => k < w.heap.size ∧ OffS F k) fun k hk ho => ⟨hk, ho⟩).fr hfr fun i hi => hi.2.1
      refine h2.mono fun k _ hk => ⟨fun hn => ?_, hk.2.2⟩
      rcases hn with hn | hn
      · exact hk.2.1 hn
      · exact hk.2.1 (hold k hn hk.1)
  · intro k hk hlt
    rcases hk with hk | hk
    · exact hk
    · exact hold k hk hlt

/-- one field stored -/
theorem RepPM.put [Inhabited AvoidSet] (h : RepPM w F g s m) (s' : PS) (i : Nat) (v : Value) (hb : (s.blk m).setIfInBounds i v = s'.blk m) (hd : s'.dec = s.dec) (hp : s'.a.params = s.a.params) (ho : s'.out = s.out) :
    RepPM (w.setCell ⟨g, i, none⟩ v) F g s' m :=
  h.restore ((Fr.refl (· = g) w).setCell (p := ⟨g, i, none⟩) (fun _ => rfl) v) (by rw [← hb]; exact h.blk.put i v) hd hp ho
theorem LeftP.put1 [Inhabited AvoidSet] (h : RepPM w F g s m) (s' : PS) (i : Nat) (v : Value) (hb : (s.blk m).setIfInBounds i v = s'.blk m) (hd : s'.dec = s.dec) (hp : s'.a.params = s.a.params) (ho : s'.out = s.out) :
    LeftP w F g s' (w.setCell ⟨g, i, none⟩ v) :=
  ⟨F, ⟨m, h.put s' i v hb hd hp ho⟩, (Fr.refl _ w).setCell (p := ⟨g, i, none⟩) (fun _ => h.own) v, fun _ hk _ => hk⟩
end
end Go.Proofs.YtopaeikddlpecaaDoor
