/-
  How the document's parser (lanyardref05.Parser) lies in memory ('RepR'), and what stores and appends do to it. Conditions: none; plain lemmas.
-/
import Derived.Test.YtopaeikddlpecaaDoorRs
import Derived.Test.YtopaeikddlpecaaDoorAll
namespace Go.Proofs.YtopaeikddlpecaaDoor
open Go.RowKit

theorem own_eq {A : Option Addr} {k j : Nat} (h : A = some ⟨k, 0, none⟩) (ho : Own A j) : j = k := by
  subst h
  have : k = j := by injection ho
  exact this.symm

structure RM where
  dA : Option Addr
  dn : Nat
  dc : Nat
  pA : Option Addr
  pn : Nat
  pc : Nat
  oA : Option Addr
  oc : Nat

def RS.blk (r : RS) (m : RM) : Array Value :=
  #[.int .i64 r.state, .slice m.dA m.dn m.dc, .int .u8 r.priv, .slice m.pA m.pn m.pc, .int .i64 r.many, .string r.inter, .string r.text, .int .u8 r.fin, .slice m.oA r.out.length m.oc]

structure RepRM (w : World) (F : Nat → Prop) (g : Nat) (r : RS) (m : RM) : Prop where
  blk : Blk w g 59 (r.blk m)
  own : F g
  dom : ∀ k, F k → k < w.heap.size
  dec : Sl w F 5 1 m.dA m.dn m.dc (byts r.dec)
  par : Sl w F 3 1 m.pA m.pn m.pc (ints r.params)
  out : Acts w F (Off F) m.oA r.out.length m.oc r.out

def RepR (w : World) (F : Nat → Prop) (g : Nat) (r : RS) : Prop := ∃ m, RepRM w F g r m
/-- what a method leaves -/
def LeftR (w : World) (F : Nat → Prop) (g : Nat) (r' : RS) (w' : World) : Prop := ∃ F', RepR w' F' g r' ∧ Fr F w w' ∧ ∀ k, F' k → k < w.heap.size → F k
def PostR (w : World) (F : Nat → Prop) (g : Nat) (r' : RS) (e : Ending) (w' : World) : Prop := e = .returned (.tuple #[]) ∧ LeftR w F g r' w'

section
variable {w w' : World} {F G X : Nat → Prop} {g : Nat} {r r' : RS} {m m' : RM}
theorem LeftR.trans {w1 w2 : World} {F1 : Nat → Prop} (hf : Fr F w w1) (hF : ∀ k, F1 k → k < w.heap.size → F k) (k : LeftR w1 F1 g r w2) : LeftR w F g r w2 := by
  obtain ⟨F2, hr, hf2, h2⟩ := k
  exact ⟨F2, hr, hf.trans hf2 fun i hi h1 => hF i h1 hi, fun i h hi => hF i (h2 i h (Nat.lt_of_lt_of_le hi hf.size)) hi⟩
theorem LeftR.and {w1 w2 : World} (h : LeftR w F g r w1) (k : ∀ F1, RepR w1 F1 g r → LeftR w1 F1 g r' w2) : LeftR w F g r' w2 := by
  obtain ⟨F1, hr, hf, hF⟩ := h
  exact LeftR.trans hf hF (k F1 hr)
theorem LeftR.refl (h : RepR w F g r) : LeftR w F g r w := ⟨F, h, Fr.refl _ _, fun _ h _ => h⟩

/-- nothing of the parser has turned -/
theorem RepRM.fr (h : RepRM w F g r m) (hf : Fr X w w') (hX : ∀ k, F k → ¬ X k) (ho : r.out = [] ∨ ∀ k, k < w.heap.size → ¬ X k) : RepRM w' F g r m := by
  obtain ⟨hn, cs, hos, hoa⟩ := h.out
  refine ⟨h.blk.fr hf (hX g h.own), h.own, fun k hk => Nat.lt_of_lt_of_le (h.dom k hk) hf.size, h.dec.fr hf hX, h.par.fr hf hX, hn, cs, hos.fr hf hX, ?_⟩
  rcases ho with ho | ho
  · refine ⟨hoa.1, fun j p hp => ?_⟩
    rw [ho] at hp
    simp at hp
  · exact ((hoa.mono (G := fun k => k < w.heap.size ∧ Off F k) fun k hk ho => ⟨hk, ho⟩).fr hf (fun i hi => ho i hi.1)).mono fun k _ hk => hk.2
theorem RepR.fr (h : RepR w F g r) (hf : Fr X w w') (hX : ∀ k, k < w.heap.size → ¬ X k) : RepR w' F g r := by
  obtain ⟨m, h⟩ := h
  exact ⟨m, h.fr hf (fun k hk => hX k (h.dom k hk)) (.inr hX)⟩
theorem RepR.off (h : RepR w F g r) (ho : r.out = []) (hf : Fr X w w') (hX : ∀ k, F k → ¬ X k) : RepR w' F g r := by
  obtain ⟨m, h⟩ := h
  exact ⟨m, h.fr hf hX (.inl ho)⟩

/-- the general step: X, blocks of the parser's own, has turned; three slices stand where they did or in new blocks -/
theorem RepRM.turned (h : RepRM w F g r m) (hf : Fr X w w') (hX : ∀ k, X k → F k) (hb : Blk w' g 59 (r'.blk m'))
    (hd : Sl w' (Own m'.dA) 5 1 m'.dA m'.dn m'.dc (byts r'.dec)) (hd1 : ∀ k, Own m'.dA k → k < w.heap.size → F k)
    (hp : Sl w' (Own m'.pA) 3 1 m'.pA m'.pn m'.pc (ints r'.params)) (hp1 : ∀ k, Own m'.pA k → k < w.heap.size → F k)
    {cs : List Value} (ho : Sl w' (Own m'.oA) 35 7 m'.oA r'.out.length m'.oc cs) (ho1 : ∀ k, Own m'.oA k → k < w.heap.size → F k)
    (ha : RepActs w' (fun k => ¬ F k ∧ ¬ Own m'.dA k ∧ ¬ Own m'.pA k ∧ ¬ Own m'.oA k) r'.out cs) : LeftR w F g r' w' := by
  refine ⟨fun k => F k ∨ Own m'.dA k ∨ Own m'.pA k ∨ Own m'.oA k, ⟨m', hb, .inl h.own, ?_, hd.mono fun k hk => .inr (.inl hk), hp.mono fun k hk => .inr (.inr (.inl hk)), rfl, cs, ho.mono fun k hk => .inr (.inr (.inr hk)), ?_⟩, hf.mono fun k _ hk => hX k hk, ?_⟩
  · rintro k (hk | hk | hk | hk)
    · exact Nat.lt_of_lt_of_le (h.dom k hk) hf.size
    · exact hd.inB hk
    · exact hp.inB hk
    · exact ho.inB hk
  · refine ha.mono fun k _ hk => ?_
    rintro (h1 | h1 | h1 | h1)
    · exact hk.1 h1
    · exact hk.2.1 h1
    · exact hk.2.2.1 h1
    · exact hk.2.2.2 h1
  · rintro k (hk | hk | hk | hk) hlt
    · exact hk
    · exact hd1 k hk hlt
    · exact hp1 k hk hlt
    · exact ho1 k hk hlt

/-- what is told already, carried over a step that turns blocks of the parser's own -/
theorem RepRM.kept (h : RepRM w F g r m) (hf : Fr X w w') (hX : ∀ k, X k → F k) (hfree : Free w X 35) {A B : Option Addr} (hA : ∀ k, Own A k → k < w.heap.size → F k) (hB : ∀ k, Own B k → k < w.heap.size → F k) :
    ∃ cs, Sl w' (Own m.oA) 35 7 m.oA r.out.length m.oc cs ∧ (∀ k, Own m.oA k → k < w.heap.size → F k) ∧ RepActs w' (fun k => ¬ F k ∧ ¬ Own A k ∧ ¬ Own B k ∧ ¬ Own m.oA k) r.out cs := by
  obtain ⟨hn, cs, hos, hoa⟩ := h.out
  refine ⟨cs, (hos.carry hf hfree).only, fun k hk _ => hos.inF hk, ?_⟩
  refine ((hoa.mono (G := fun k => k < w.heap.size ∧ Off F k) fun k hk ho => ⟨hk, ho⟩).fr hf fun i hi hx => hi.2 (hX i hx)).mono fun k _ hk => ⟨hk.2, fun ho => hk.2 (hA k ho hk.1), fun ho => hk.2 (hB k ho hk.1), fun ho => hk.2 (hos.inF ho)⟩

/-- fields stored: the three slices stand where they did -/
theorem RepRM.put (h : RepRM w F g r m) (i : Nat) (v : Value) (r' : RS) (hb : (r.blk m).setIfInBounds i v = r'.blk m) (hd : r'.dec = r.dec) (hp : r'.params = r.params) (ho : r'.out = r.out) : RepRM (w.setCell ⟨g, i, none⟩ v) F g r' m := by
  have hf : Fr (· = g) w (w.setCell ⟨g, i, none⟩ v) := (Fr.refl (· = g) w).setCell (p := ⟨g, i, none⟩) (fun _ => rfl) v
  obtain ⟨hn, cs, hos, hoa⟩ := h.out
  refine ⟨by rw [← hb]; exact h.blk.put i v, h.own, fun k hk => Nat.lt_of_lt_of_le (h.dom k hk) hf.size, ?_, ?_, ?_⟩
  · rw [hd]; exact h.dec.carry hf (Free.blk h.blk (by decide))
  · rw [hp]; exact h.par.carry hf (Free.blk h.blk (by decide))
  · rw [ho]
    exact ⟨hn, cs, hos.carry hf (Free.blk h.blk (by decide)), hoa.fr hf (by rintro i hi rfl; exact hi h.own)⟩
theorem RepRM.left (_h : RepRM w F g r m) (hf : Fr F w w') (k : RepRM w' F g r' m') : LeftR w F g r' w' := ⟨F, ⟨m', k⟩, hf, fun _ hk _ => hk⟩
theorem RepRM.put1 (h : RepRM w F g r m) (i : Nat) (v : Value) (r' : RS) (hb : (r.blk m).setIfInBounds i v = r'.blk m) (hd : r'.dec = r.dec) (hp : r'.params = r.params) (ho : r'.out = r.out) : LeftR w F g r' (w.setCell ⟨g, i, none⟩ v) :=
  h.left ((Fr.refl F w).setCell (p := ⟨g, i, none⟩) (fun _ => h.own) v) (h.put i v r' hb hd hp ho)
theorem LeftR.put (h : LeftR w F g r w') (i : Nat) (v : Value) (r' : RS) (hb : ∀ m, (r.blk m).setIfInBounds i v = r'.blk m) (hd : r'.dec = r.dec) (hp : r'.params = r.params) (ho : r'.out = r.out) : LeftR w F g r' (w'.setCell ⟨g, i, none⟩ v) :=
  h.and fun _ ⟨m, hm⟩ => hm.put1 i v r' (hb m) hd hp ho
theorem LeftR.new (h : LeftR w F g r w') {w2 : World} (hf : Fr NoB w' w2) : LeftR w F g r w2 :=
  h.and fun F1 h1 => ⟨F1, h1.fr hf fun _ _ => noB_no, hf.mono fun _ _ h => h.elim, fun _ h _ => h⟩

/-- the parameters stand elsewhere, or have turned where they stand -/
theorem RepRM.parTurned (h : RepRM w F g r m) (r' : RS) {A' : Option Addr} {n' c' : Nat} (hf : Fr (fun k => k = g ∨ Own m.pA k) w w') (hb : Blk w' g 59 (r'.blk { m with pA := A', pn := n', pc := c' }))
    (hp : Sl w' (Own A') 3 1 A' n' c' (ints r'.params)) (hA : ∀ k, Own A' k → k < w.heap.size → F k) (hd : r'.dec = r.dec) (ho : r'.out = r.out) : LeftR w F g r' w' := by
  have hX : ∀ k, (k = g ∨ Own m.pA k) → F k := by
    rintro k (rfl | hk)
    · exact h.own
    · exact h.par.inF hk
  have fr : ∀ e, 59 ≠ e → 3 ≠ e → Free w (fun k => k = g ∨ Own m.pA k) e := by
    rintro e h1 h2 k (rfl | hk)
    · exact Free.blk h.blk h1 k rfl
    · exact Free.own h.par h2 k hk
  obtain ⟨cs, hos, ho1, hoa⟩ := h.kept hf hX (fr _ (by decide) (by decide)) (A := m.dA) (B := A') (fun k hk _ => h.dec.inF hk) hA
  refine h.turned (m' := { m with pA := A', pn := n', pc := c' }) hf hX hb ?_ (fun k hk _ => h.dec.inF hk) hp hA (cs := cs) ?_ ho1 ?_
  · rw [hd]; exact (h.dec.carry hf (fr _ (by decide) (by decide))).only
  · rw [ho]; exact hos
  · rw [ho]; exact hoa
/-- what is held stands elsewhere, or has turned where it stands -/
theorem RepRM.decTurned (h : RepRM w F g r m) (r' : RS) {A' : Option Addr} {n' c' : Nat} (hf : Fr (fun k => k = g ∨ Own m.dA k) w w') (hb : Blk w' g 59 (r'.blk { m with dA := A', dn := n', dc := c' }))
    (hd : Sl w' (Own A') 5 1 A' n' c' (byts r'.dec)) (hA : ∀ k, Own A' k → k < w.heap.size → F k) (hp : r'.params = r.params) (ho : r'.out = r.out) : LeftR w F g r' w' := by
  have hX : ∀ k, (k = g ∨ Own m.dA k) → F k := by
    rintro k (rfl | hk)
    · exact h.own
    · exact h.dec.inF hk
  have fr : ∀ e, 59 ≠ e → 5 ≠ e → Free w (fun k => k = g ∨ Own m.dA k) e := by
    rintro e h1 h2 k (rfl | hk)
    · exact Free.blk h.blk h1 k rfl
    · exact Free.own h.dec h2 k hk
  obtain ⟨cs, hos, ho1, hoa⟩ := h.kept hf hX (fr _ (by decide) (by decide)) (A := A') (B := m.pA) hA (fun k hk _ => h.par.inF hk)
  refine h.turned (m' := { m with dA := A', dn := n', dc := c' }) hf hX hb hd hA ?_ (fun k hk _ => h.par.inF hk) (cs := cs) ?_ ho1 ?_
  · rw [hp]; exact (h.par.carry hf (fr _ (by decide) (by decide))).only
  · rw [ho]; exact hos
  · rw [ho]; exact hoa
/-- an action told: behind an append onto the list and the store of it -/
theorem RepRM.told (h : RepRM w F g r m) {cs ac : List Value} {A' : Option Addr} {c' : Nat} {w1 : World} (hos : Sl w F 35 7 m.oA r.out.length m.oc cs) (hoa : RepActs w (Off F) r.out cs)
    (hf : Fr (Own m.oA) w w1) (hs1 : Sl w1 (Own A') 35 7 A' (r.out.length + 1) c' (cs ++ ac)) (hA : A' = m.oA ∨ ∃ k, A' = some ⟨k, 0, none⟩ ∧ w.heap.size ≤ k)
    (p : PAct) {R : Nat → Prop} (hp : ActC w R p ac) (hR : ∀ k, k < w.heap.size → R k → ¬ F k) :
    LeftR w F g (r.tells p) (w1.setCell ⟨g, 8, none⟩ (.slice A' (r.out.length + 1) c')) := by
  have hold : ∀ k, Own A' k → k < w.heap.size → F k := by
    intro k hk hlt
    rcases hA with rfl | ⟨k', rfl, hk'⟩
    · exact hos.inF hk
    · have : k' = k := by injection hk
      omega
  have hg1 : Blk w1 g 59 (r.blk m) := h.blk.carry hf (Free.own hos (by decide))
  have hf2 : Fr (· = g) w1 (w1.setCell ⟨g, 8, none⟩ (.slice A' (r.out.length + 1) c')) := (Fr.refl (· = g) w1).setCell (p := ⟨g, 8, none⟩) (fun _ => rfl) _
  have hfr : Fr (fun k => k = g ∨ Own m.oA k) w (w1.setCell ⟨g, 8, none⟩ (.slice A' (r.out.length + 1) c')) := (hf.mono fun k _ hk => .inr hk).trans hf2 (by rintro i _ rfl; exact .inl rfl)
  have hX : ∀ k, (k = g ∨ Own m.oA k) → F k := by
    rintro k (rfl | hk)
    · exact h.own
    · exact hos.inF hk
  have fr : ∀ e, 59 ≠ e → 35 ≠ e → Free w (fun k => k = g ∨ Own m.oA k) e := by
    rintro e h1 h2 k (rfl | hk)
    · exact Free.blk h.blk h1 k rfl
    · exact Free.own hos h2 k hk
  refine h.turned (m' := { m with oA := A', oc := c' }) hfr hX ?_ ((h.dec.carry hfr (fr _ (by decide) (by decide))).only) (fun k hk _ => h.dec.inF hk) ((h.par.carry hfr (fr _ (by decide) (by decide))).only) (fun k hk _ => h.par.inF hk) (cs := cs ++ ac) ?_ hold ?_
  · have := hg1.put 8 (.slice A' (r.out.length + 1) c')
    simpa [RS.blk, RS.tells] using this
  · have := hs1.carry hf2 (Free.blk hg1 (by decide))
    simpa [RS.tells] using this
  · have hall := hoa.append (RepActs.one (hp.mono (G := Off F) hR))
    have h2 := (hall.mono (G := fun k => k < w.heap.size ∧ Off F k) fun k hk ho => ⟨hk, ho⟩).fr hfr fun i hi hx => hi.2 (hX i hx)
    exact h2.mono fun k _ hk => ⟨hk.2, fun ho => hk.2 (h.dec.inF ho), fun ho => hk.2 (h.par.inF ho), fun ho => hk.2 (hold k ho hk.1)⟩
end
end Go.Proofs.YtopaeikddlpecaaDoor
