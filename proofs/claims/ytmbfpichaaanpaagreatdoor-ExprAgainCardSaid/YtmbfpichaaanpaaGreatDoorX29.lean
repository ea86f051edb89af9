import Derived.Test.YtmbfpichaaanpaaGreatDoorX28
/-! The reader of expressions: its nodes in memory; what turns. -/
namespace Go.Proofs.YtmbfpichaaanpaaGreatDoor
open Go.RowKit Ut Rx Mt

/-- what turns: the reader's block t, the row of nodes, and what is new -/
structure Fe (w w' : World) (t : Nat) (v v' : Value) : Prop where
  os : w'.os = w.os
  tape : w'.tape = w.tape
  output : w'.output = w.output
  size : w.heap.size ≤ w'.heap.size
  block : ∀ q, q < w.heap.size → q ≠ t → some q ≠ v.ownBlock → w'.heap[q]? = w.heap[q]?
  row : v'.ownBlock = v.ownBlock ∨ ∃ q, v'.ownBlock = some q ∧ w.heap.size ≤ q
theorem Fe.refl (w : World) (g : Nat) (v : Value) : Fe w w g v v := ⟨rfl, rfl, rfl, Nat.le_refl _, fun _ _ _ _ => rfl, Or.inl rfl⟩
theorem Fe.trans {w w1 w2 : World} {g : Nat} {v v1 v2 : Value} (h : Fe w w1 g v v1) (k : Fe w1 w2 g v1 v2) : Fe w w2 g v v2 := by
  refine ⟨k.os.trans h.os, k.tape.trans h.tape, k.output.trans h.output, Nat.le_trans h.size k.size, fun q hq h1 h2 => ?_, ?_⟩
  · have h3 : some q ≠ v1.ownBlock := by
      rcases h.row with e | ⟨q', e, hq'⟩
      · rw [e]; exact h2
      · rw [e]; intro e2; cases e2; omega
    exact (k.block q (Nat.lt_of_lt_of_le hq h.size) h1 h3).trans (h.block q hq h1 h2)
  · rcases k.row with e | ⟨q, e, hq⟩
    · rw [e]; exact h.row
    · exact Or.inr ⟨q, e, Nat.le_trans h.size hq⟩
theorem Fe.of_grown {w w' : World} {g : Nat} (v : Value) (h : w.grownBy w' (some g)) : Fe w w' g v v := ⟨h.os, h.tape, h.output, h.size, fun q hq hg _ => h.block q hq (fun e => hg (Option.some.inj e)), Or.inl rfl⟩
theorem Fe.of_below {w w' : World} (g : Nat) (v : Value) (h : Below w.heap.size w w') : Fe w w' g v v := Fe.of_grown v (grown_below h)
theorem eo_keep {w w' : World} {B e sz n : Nat} {v : Value} {xs : List Value} (h : w.ownsRow B e sz v n xs) (hk : ∀ q, v.ownBlock = some q → w'.heap[q]? = w.heap[q]?) : w'.ownsRow B e sz v n xs :=
  ⟨h.1, h.2.imp id fun ⟨g, cap, cur, e1, e2, e3, r⟩ => ⟨g, cap, cur, e1, e2, (hk g (by rw [e1]; rfl)).trans e3, r⟩⟩

/-! ### what nodes point to -/
def Nest (w : World) (B : Nat) (lv sv : Value) : Prop := ∀ q, sv.ownBlock = some q → B ≤ q ∧ q < w.heap.size ∧ some q ≠ lv.ownBlock
theorem Ms0.keep {w w' : World} {v : Value} {l : List M} (h : Ms0 w v l) (k : ∀ q, v.ownBlock = some q → q < w.heap.size → w'.heap[q]? = w.heap[q]?) : Ms0 w' v l := by
  obtain ⟨A, c, e, hb, hl⟩ := h
  refine ⟨A, c, e, hb, fun hne => ?_⟩
  obtain ⟨bb, off, ea, hc⟩ := hl hne
  refine ⟨bb, off, ea, fun i hi => ?_⟩
  obtain ⟨c0, c1, c2⟩ := hc i hi
  have kk := k bb (by rw [e, ea]; rfl) (World.block_lt_of_cell? w _ c0)
  exact ⟨(World.cell?_of_block (a := ⟨bb, off + i * 3, none⟩) kk).trans c0, (World.cell?_of_block (a := ⟨bb, off + i * 3 + 1, none⟩) kk).trans c1, (World.cell?_of_block (a := ⟨bb, off + i * 3 + 2, none⟩) kk).trans c2⟩
theorem Ws0.keep {w w' : World} {v : Value} {l : List ByteArray} (h : Ws0 w v l) (k : ∀ q, v.ownBlock = some q → q < w.heap.size → w'.heap[q]? = w.heap[q]?) : Ws0 w' v l := by
  obtain ⟨A, c, e, hb, hl⟩ := h
  refine ⟨A, c, e, hb, fun hne => ?_⟩
  obtain ⟨bb, off, ea, hc⟩ := hl hne
  refine ⟨bb, off, ea, fun i hi => ?_⟩
  have c0 := hc i hi
  have kk := k bb (by rw [e, ea]; rfl) (World.block_lt_of_cell? w _ c0)
  exact (World.cell?_of_block (a := ⟨bb, off + i, none⟩) kk).trans c0
abbrev NdV := Ex.Nd × Value × Value
def nodeC (R : List NdV) : List Value := R.flatMap fun x => ndV x.1 x.2.1 x.2.2
theorem nodeC_append (R : List NdV) (x : NdV) : nodeC (R ++ [x]) = nodeC R ++ ndV x.1 x.2.1 x.2.2 := by simp [nodeC]
structure NdIn (w : World) (B : Nat) (lv : Value) (x : NdV) : Prop where
  sel : Ms0 w x.2.1 x.1.sel
  nm : Ws0 w x.2.2 x.1.nm
  ns : Nest w B lv x.2.1
  nn : Nest w B lv x.2.2
  hv : x.1.v < 18446744073709551616
  hw : x.1.wd < 18446744073709551616
  few : x.1.sel.length ≤ 1000000
/-- the reader in block t, its nodes in a row of their own -/
structure Pn (w : World) (B t : Nat) (lv : Value) (R : List NdV) (p : Ex.P) : Prop where
  px : Pq w t lv p
  row : w.ownsRow B 37 8 lv R.length (nodeC R)
  nds : R.map (·.1) = p.l
  sub : ∀ x ∈ R, NdIn w B lv x
  low : t < B
  size : B ≤ w.heap.size
theorem Nest.fe {w w' : World} {B t : Nat} {lv lv' v : Value} (n : Nest w B lv v) (f : Fe w w' t lv lv') : Nest w' B lv' v := fun q hq => by
  obtain ⟨n1, n2, n3⟩ := n q hq
  refine ⟨n1, Nat.lt_of_lt_of_le n2 f.size, ?_⟩
  rcases f.row with e | ⟨q', e, hq'⟩
  · rw [e]; exact n3
  · rw [e]; intro e2; cases e2; omega
theorem NdIn.fe {w w' : World} {B t : Nat} {lv lv' : Value} {x : NdV} (h : NdIn w B lv x) (f : Fe w w' t lv lv') (ht : t < B) : NdIn w' B lv' x :=
  ⟨h.sel.keep fun q hq hl => f.block q hl (by have := (h.ns q hq).1; omega) (h.ns q hq).2.2, h.nm.keep fun q hq hl => f.block q hl (by have := (h.nn q hq).1; omega) (h.nn q hq).2.2, h.ns.fe f, h.nn.fe f, h.hv, h.hw, h.few⟩
theorem Pn.t_ne {w : World} {B t : Nat} {lv : Value} {R : List NdV} {p : Ex.P} (h : Pn w B t lv R p) : some t ≠ lv.ownBlock := fun e => by
  have := (World.ownsRow.lt h.row t e.symm).1
  have := h.low
  omega
/-- a small step: the reader's block alone -/
theorem Pn.small {w w' : World} {B t : Nat} {lv : Value} {R : List NdV} {p p' : Ex.P} (h : Pn w B t lv R p) (g : w.grownBy w' (some t)) (px : Pq w' t lv p') (hl : p'.l = p.l) : Pn w' B t lv R p' ∧ Fe w w' t lv lv := by
  have f := Fe.of_grown lv g
  refine ⟨⟨px, World.ownsRow.kept h.row g (Or.inr (fun e => h.t_ne e.symm)), h.nds.trans hl.symm, fun x hx => (h.sub x hx).fe f h.low, h.low, Nat.le_trans h.size g.size⟩, f⟩
theorem Pn.below {w w' : World} {B t : Nat} {lv : Value} {R : List NdV} {p : Ex.P} (h : Pn w B t lv R p) (b : Below w.heap.size w w') : Pn w' B t lv R p ∧ Fe w w' t lv lv := h.small (grown_below b) (Px.below h.px b) rfl
/-- one node more: the row is pushed, then the reader's cell is turned -/
theorem Pn.pushed {w w4 w5 : World} {B t : Nat} {lv lv' : Value} {R : List NdV} {p : Ex.P} {n : Ex.Nd} {sv nv : Value} (h : Pn w B t lv R p) (b : Below w.heap.size w w4) (gr : w4.grownBy w5 lv.ownBlock)
    (own : w5.ownsRow B 37 8 lv' (R.length + 1) (nodeC R ++ ndV n sv nv)) (hrow : lv'.ownBlock = lv.ownBlock ∨ ∃ q, lv'.ownBlock = some q ∧ w4.heap.size ≤ q) (hx : NdIn w B lv (n, sv, nv)) :
    Pn (w5.setCell ⟨t, 1, none⟩ lv') B t lv' (R ++ [(n, sv, nv)]) (Ex.putP n p) ∧ Fe w (w5.setCell ⟨t, 1, none⟩ lv') t lv lv' := by
  obtain ⟨h4, f4⟩ := h.below b
  have f5 : Fe w4 w5 t lv lv' := ⟨gr.os, gr.tape, gr.output, gr.size, fun q hq _ hn => gr.block q hq hn, hrow⟩
  have g6 := grown_setCell w5 t 1 lv'
  have f6 : Fe w5 (w5.setCell ⟨t, 1, none⟩ lv') t lv' lv' := Fe.of_grown lv' g6
  have f := (f4.trans f5).trans f6
  have px5 := Px.grown h4.px gr h4.t_ne
  have ht5 : some t ≠ lv'.ownBlock := fun e => by have := (World.ownsRow.lt own t e.symm).1; have := h.low; omega
  refine ⟨⟨?_, ?_, ?_, ?_, h.low, Nat.le_trans h.size f.size⟩, f⟩
  · obtain ⟨s, h0, e0⟩ := px5
    exact ⟨s, px_put1 h0, e0⟩
  · rw [nodeC_append, List.length_append]
    exact World.ownsRow.kept own g6 (Or.inr (fun e => ht5 e.symm))
  · rw [List.map_append, h.nds]; rfl
  · intro x hx'
    rcases List.mem_append.1 hx' with h1 | h1
    · exact (h.sub x h1).fe f h.low
    · obtain rfl := List.mem_singleton.1 h1
      exact hx.fe f h.low

theorem own_ws {w : World} {B : Nat} {v : Value} {ns : List ByteArray} (h : w.ownsRow B 9 1 v ns.length (sC ns)) : Ws0 w v ns := by
  rcases row_kinds h with ⟨rfl, h0⟩ | ⟨g, c, rfl, hc⟩
  · obtain rfl := List.eq_nil_of_length_eq_zero h0
    exact ⟨none, 0, rfl, Nat.le_refl _, fun e => absurd rfl e⟩
  · refine ⟨_, c, rfl, hc, fun _ => ⟨g, 0, rfl, fun i hi => ?_⟩⟩
    have := (row_cell h rfl).2.2 i (.string (ns[i]'hi)) (by simp [sC, hi])
    simpa using this
theorem own_nest {w : World} {B B' e sz n : Nat} {lv v : Value} {xs : List Value} (h : w.ownsRow B' e sz v n xs) (hB : B ≤ B') (hl : ∀ q, lv.ownBlock = some q → q < B') : Nest w B lv v := fun q hq => by
  obtain ⟨h1, h2⟩ := World.ownsRow.lt h q hq
  exact ⟨by omega, h2, fun e => by have := hl q e.symm; omega⟩
end Go.Proofs.YtmbfpichaaanpaaGreatDoor
