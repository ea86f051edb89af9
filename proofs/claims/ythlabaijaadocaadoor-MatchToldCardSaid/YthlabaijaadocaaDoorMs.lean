import Derived.Test.YthlabaijaadocaaDoorMr
import Derived.Maps.AppendAt
/-! Parts put together: their worlds. -/
namespace Go.Proofs.YthlabaijaadocaaDoor
open Go.RowKit Ut Rx

def ptrs (ps : List (Nat × Fi)) : List Value := ps.map fun p => .pointer (some ⟨p.1, 0, none⟩)
/-- the worlds of `branch`, `pattern`: w where it begins, wr now; the part is in block pb, its parts' slice is pv -/
structure Pa (kind : Int) (fr : Bool) (w wr : World) (pb r : Nat) (s : ByteArray) (d z : Int) (pv : Value) (ps : List (Nat × Fi)) (l : List Int) : Prop where
  here : At wr r s l d z
  grown : w.grownBy wr (some r)
  tabs : Lib.Utf8Tabs 0 1 wr
  lo : w.heap.size ≤ pb
  part : wr.heap[pb]? = some (.cells #[.int .i64 kind, .slice none 0 0, .bool false, .bool false, pv, .int .i32 0] 108 (0, 0))
  own : wr.ownsRow w.heap.size 83 1 pv ps.length (ptrs ps)
  apart : pv.ownBlock ≠ some pb
  den : ∃ F : Nat → Prop, (∀ k, F k → w.heap.size ≤ k ∧ k < wr.heap.size ∧ k ≠ pb ∧ some k ≠ pv.ownBlock) ∧ ∀ p ∈ ps, Den fr F wr p.1 p.2
  len : ∀ p ∈ ps, Keeps p.2

section
variable {kind : Int} {fr : Bool} {w wr w' : World} {pb r : Nat} {s : ByteArray} {d z z' : Int} {pv : Value} {ps : List (Nat × Fi)} {l l' : List Int}
theorem Pa.ltp (h : Pa kind fr w wr pb r s d z pv ps l) : pb < wr.heap.size := (Array.getElem?_eq_some_iff.1 h.part).1
theorem Pa.call (h : Pa kind fr w wr pb r s d z pv ps l) (hr : 2 ≤ r) (lt : r < w.heap.size) (g : wr.grownBy w' (some r)) (ha : At w' r s l' d z') : Pa kind fr w w' pb r s d z' pv ps l' := by
  have ne : ∀ k, w.heap.size ≤ k → some k ≠ some r := fun k hk e => by have : k = r := Option.some.inj e; omega
  refine ⟨ha, grown_trans h.grown g, tabs_grown h.tabs hr g, h.lo, (g.block _ h.ltp (ne _ h.lo)).trans h.part, ?_, h.apart, ?_, h.len⟩
  · refine h.own.kept g ?_
    cases hv : pv.ownBlock with
    | none => exact Or.inl rfl
    | some k => exact Or.inr (ne k (h.own.lt k hv).1)
  · obtain ⟨F, hF, hD⟩ := h.den
    refine ⟨F, fun k hk => ?_, fun p hp => (hD p hp).move g.size (fun k hk => g.block k (hF k hk).2.1 (ne k (hF k hk).1)) (fun _ h => h)⟩
    obtain ⟨a, b, c⟩ := hF k hk
    exact ⟨a, Nat.lt_of_lt_of_le b g.size, c⟩
theorem Pa.below (h : Pa kind fr w wr pb r s d z pv ps l) (hr : 2 ≤ r) (lt : r < w.heap.size) (b : Below wr.heap.size wr w') : Pa kind fr w w' pb r s d z pv ps l := h.call hr lt (grown_below b) (h.here.below b)
theorem Pa.cell (h : Pa kind fr w wr pb r s d z pv ps l) : wr.cell? ⟨pb, 4, none⟩ = some pv := by unfold World.cell?; rw [h.part]; rfl

/-- a part more to come -/
def More (fr : Bool) (w wr : World) (pb : Nat) (pv : Value) (nb : Nat) (f : Fi) : Prop :=
  ∃ G : Nat → Prop, (∀ k, G k → w.heap.size ≤ k ∧ k < wr.heap.size ∧ k ≠ pb ∧ some k ≠ pv.ownBlock) ∧ Den fr G wr nb f

theorem Pa.appended {w0 w1 : World} {nb : Nat} {f : Fi} {v' : Value} (h : Pa kind fr w wr pb r s d z pv ps l) (hr : 2 ≤ r) (lt : r < w.heap.size) (hm : More fr w wr pb pv nb f) (hk : Keeps f) (e0 : w0 = wr.alloc (.cells #[.pointer (some ⟨nb, 0, none⟩)] 83))
    (own : w1.ownsRow w.heap.size 83 1 v' (ps.length + 1) (ptrs ps ++ [.pointer (some ⟨nb, 0, none⟩)])) (g : w0.grownBy w1 pv.ownBlock) (at_ : v'.ownBlock = pv.ownBlock ∨ v'.ownBlock = some w0.heap.size) :
    w1.cell? ⟨pb, 4, none⟩ = some pv ∧ w1.frozen? ⟨pb, 4, none⟩ = false ∧ Pa kind fr w (w1.setCell ⟨pb, 4, none⟩ v') pb r s d z v' (ps ++ [(nb, f)]) l := by
  have h0 : wr.heap.size < w0.heap.size := by rw [e0]; simp
  have g1 : wr.grownBy w1 pv.ownBlock := by
    have b : Below wr.heap.size wr w0 := by rw [e0]; exact (Below.refl _ _).alloc (Nat.le_refl _) _
    exact grown_trans (grown_below b) g
  have hp1 : w1.heap[pb]? = _ := (g1.block _ h.ltp (fun e => h.apart e.symm)).trans h.part
  have hset : (w1.setCell ⟨pb, 4, none⟩ v').heap[pb]? = some (.cells #[.int .i64 kind, .slice none 0 0, .bool false, .bool false, v', .int .i32 0] 108 (0, 0)) := by
    unfold World.setCell
    simp only [Array.getElem?_modify, ↓reduceIte, hp1, Option.map_some]
    rfl
  have gs : w1.grownBy (w1.setCell ⟨pb, 4, none⟩ v') (some pb) := grown_setCell _ _ _ _
  have hv : v'.ownBlock ≠ some pb := by
    rcases at_ with e | e
    · rw [e]; exact h.apart
    · rw [e]; intro e2
      have : w0.heap.size = pb := Option.some.inj e2
      have := h.ltp; omega
  have rne : some r ≠ pv.ownBlock := fun e => by have := h.own.lt r e.symm; omega
  have keep : ∀ k, k < wr.heap.size → some k ≠ pv.ownBlock → k ≠ pb → (w1.setCell ⟨pb, 4, none⟩ v').heap[k]? = wr.heap[k]? := fun k h1 h2 h3 =>
    (gs.block k (Nat.lt_of_lt_of_le h1 g1.size) (fun e => h3 (Option.some.inj e))).trans (g1.block k h1 h2)
  have hlo := h.lo
  have hgs := h.grown.size
  refine ⟨by unfold World.cell?; rw [hp1]; rfl, by unfold World.frozen?; rw [hp1]; rfl, ?_, ?_, ?_, h.lo, hset, ?_, hv, ?_, ?_⟩
  · obtain ⟨p, hrd, hpos⟩ := h.here
    have kr := keep r hrd.lt rne (by omega)
    have kk : ∀ j, (w1.setCell ⟨pb, 4, none⟩ v').cell? ⟨r, j, none⟩ = wr.cell? ⟨r, j, none⟩ := fun j => World.cell?_of_block (a := ⟨r, j, none⟩) kr
    exact ⟨p, ⟨(kk 0).trans hrd.s, (kk 1).trans hrd.p, (kk 2).trans hrd.d, (kk 3).trans hrd.z, fun j => (World.frozen?_of_block (a := ⟨r, j, none⟩) kr).trans (hrd.free j), Nat.lt_of_lt_of_le hrd.lt (by rw [World.size_setCell]; exact g1.size)⟩, hpos⟩
  · refine ⟨g1.os.trans h.grown.os, g1.tape.trans h.grown.tape, g1.output.trans h.grown.output, by rw [World.size_setCell]; exact Nat.le_trans hgs g1.size, fun k hk hne => ?_⟩
    rw [keep k (Nat.lt_of_lt_of_le hk hgs) (fun e => by have := h.own.lt k e.symm; omega) (by omega)]
    exact h.grown.block k hk hne
  · have ht := h.tabs
    have kk : ∀ {b j u}, b < 2 → wr.cell? ⟨b, j, none⟩ = some u → (w1.setCell ⟨pb, 4, none⟩ v').cell? ⟨b, j, none⟩ = some u := fun {b j u} hb hu =>
      (World.cell?_of_block (a := ⟨b, j, none⟩) (keep b (World.block_lt_of_cell? wr _ hu) (fun e => by have := h.own.lt b e.symm; omega) (by omega))).trans hu
    exact ⟨fun c hc => kk (by omega) (ht.1 c hc), fun i hi => ⟨kk (by omega) (ht.2 i hi).1, kk (by omega) (ht.2 i hi).2⟩⟩
  · have e : ptrs (ps ++ [(nb, f)]) = ptrs ps ++ [.pointer (some ⟨nb, 0, none⟩)] := by unfold ptrs; simp
    rw [e, List.length_append]
    exact own.kept gs (by
      cases hv' : v'.ownBlock with
      | none => exact Or.inl rfl
      | some k => rw [hv'] at hv; exact Or.inr hv)
  · obtain ⟨F, hF, hD⟩ := h.den
    obtain ⟨G, hG, hN⟩ := hm
    have sz : wr.heap.size ≤ (w1.setCell ⟨pb, 4, none⟩ v').heap.size := by rw [World.size_setCell]; exact g1.size
    refine ⟨fun k => F k ∨ G k, fun k hk => ?_, fun p hp => ?_⟩
    · have h5 : w.heap.size ≤ k ∧ k < wr.heap.size ∧ k ≠ pb ∧ some k ≠ pv.ownBlock := by
        rcases hk with hk | hk
        · exact hF k hk
        · exact hG k hk
      refine ⟨h5.1, Nat.lt_of_lt_of_le h5.2.1 sz, h5.2.2.1, ?_⟩
      rcases at_ with e | e
      · rw [e]; exact h5.2.2.2
      · rw [e]; intro e2
        have : k = w0.heap.size := Option.some.inj e2
        omega
    · rcases List.mem_append.1 hp with hp | hp
      · exact (hD p hp).move sz (fun k hk => keep k (hF k hk).2.1 (hF k hk).2.2.2 (hF k hk).2.2.1) (fun _ h => Or.inl h)
      · have e : p = (nb, f) := by simpa using hp
        subst e
        exact hN.move sz (fun k hk => keep k (hG k hk).2.1 (hG k hk).2.2.2 (hG k hk).2.2.1) (fun _ h => Or.inr h)
  · intro p hp
    rcases List.mem_append.1 hp with hp | hp
    · exact h.len p hp
    · have e : p = (nb, f) := by simpa using hp
      subst e; exact hk

theorem Pa.parts (h : Pa kind fr w wr pb r s d z pv ps l) : (∀ k, pv.ownBlock = some k → w.heap.size ≤ k ∧ k < wr.heap.size) ∧ PartAt wr pb kind pv 0 ∧ Parts fr (fun k => w.heap.size ≤ k ∧ k < wr.heap.size) wr pv ps := by
  refine ⟨fun k hk => h.own.lt k hk, ⟨_, _, _, h.part⟩, ⟨?_, fun p hp => ?_, h.len⟩⟩
  · refine ⟨h.own.1, ?_⟩
    rcases h.own.2 with h1 | ⟨g, cap, cur, e1, e2, e3⟩
    · exact Or.inl h1
    · exact Or.inr ⟨g, cap, cur, e1, Nat.zero_le _, e3⟩
  · obtain ⟨F, hF, hD⟩ := h.den
    exact (hD p hp).move (Nat.le_refl _) (fun _ _ => rfl) (fun k hk => ⟨(hF k hk).1, (hF k hk).2.1⟩)
end
theorem Pa.many {w wr : World} {pb r : Nat} {s : ByteArray} {d z : Int} {pv : Value} {ps : List (Nat × Fi)} {l : List Int} (h : Pa 1 true w wr pb r s d z pv ps l) (hlen : ps.length ≤ 4000000) : Den false (fun k => w.heap.size ≤ k ∧ k < wr.heap.size) wr pb (manyF (ps.map (·.2))) :=
  den_many _ pb wr ps pv 0 (fun _ hk => hk.2) ⟨h.lo, h.ltp⟩ h.parts.1 h.parts.2.1 h.parts.2.2 hlen
theorem Pa.alike {w wr : World} {pb r : Nat} {s : ByteArray} {d z : Int} {pv : Value} {ps : List (Nat × Fi)} {l : List Int} (h : Pa 2 false w wr pb r s d z pv ps l) (hlen : ps.length ≤ 4000000) : Den true (fun k => w.heap.size ≤ k ∧ k < wr.heap.size) wr pb (alikeF (ps.map (·.2))) :=
  den_alike _ pb wr ps pv 0 (fun _ hk => hk.2) ⟨h.lo, h.ltp⟩ h.parts.1 h.parts.2.1 h.parts.2.2 hlen
end Go.Proofs.YthlabaijaadocaaDoor
