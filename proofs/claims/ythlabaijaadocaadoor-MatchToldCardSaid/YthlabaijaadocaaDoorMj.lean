import Derived.Test.YthlabaijaadocaaDoorMi
import Derived.Deep.RegionWith
import Derived.BigRegion
/-! A class: its worlds. -/
namespace Go.Proofs.YthlabaijaadocaaDoor
open Go.RowKit Ut Rx

/-- the worlds of `class`: w where it begins, wr now; the part is in the block w.heap.size -/
structure Cl (w wr : World) (r : Nat) (s : ByteArray) (d z : Int) (but : Bool) (v : Value) (acc : List Span) (l : List Int) : Prop where
  here : At wr r s l d z
  grown : w.grownBy wr (some r)
  tabs : Lib.Utf8Tabs 0 1 wr
  part : wr.heap[w.heap.size]? = some (.cells #[.int .i64 0, v, .bool but, .bool false, .slice none 0 0, .int .i32 0] 108 (0, 0))
  own : wr.ownsRow (w.heap.size + 1) 149 2 v acc.length (spC acc)

theorem Cl.call {w wr w' : World} {r : Nat} {s : ByteArray} {d z : Int} {but : Bool} {v : Value} {acc : List Span} {l l' : List Int} (h : Cl w wr r s d z but v acc l) (hr : 2 ≤ r) (lt : r < w.heap.size) (g : wr.grownBy w' (some r)) (ha : At w' r s l' d z) : Cl w w' r s d z but v acc l' := by
  refine ⟨ha, grown_trans h.grown g, tabs_grown h.tabs hr g, ?_, ?_⟩
  · have hp := h.part
    rw [g.block _ (Array.getElem?_eq_some_iff.1 hp).1 (fun e => by have : w.heap.size = r := Option.some.inj e; omega)]
    exact hp
  · refine h.own.kept g ?_
    cases hv : v.ownBlock with
    | none => exact Or.inl rfl
    | some k =>
      have := h.own.lt k hv
      exact Or.inr (fun e => by have : k = r := Option.some.inj e; omega)
theorem Cl.cell {w wr : World} {r : Nat} {s : ByteArray} {d z : Int} {but : Bool} {v : Value} {acc : List Span} {l : List Int} (h : Cl w wr r s d z but v acc l) : wr.cell? ⟨w.heap.size, 1, none⟩ = some v ∧ wr.frozen? ⟨w.heap.size, 1, none⟩ = false := by
  unfold World.cell? World.frozen?
  rw [h.part]
  exact ⟨rfl, rfl⟩

theorem spC_length (s : List Span) : (spC s).length = s.length * 2 := by
  induction s with
  | nil => rfl
  | cons a t ih => show (spC (a :: t)).length = _; unfold spC at *; simp [List.flatMap_cons, ih]; omega
theorem spC_append (a b : List Span) : spC (a ++ b) = spC a ++ spC b := by unfold spC; exact List.flatMap_append
theorem spC_plain (s : List Span) : ∀ u ∈ spC s, u.oneCell' = true := by
  intro u hu
  unfold spC at hu
  obtain ⟨x, _, hx⟩ := List.mem_flatMap.1 hu
  simp at hx
  rcases hx with rfl | rfl <;> rfl
theorem span_cells {w : World} {g : Nat} {sp : List Span} (h : w.heap[g]? = some (.cells (spC sp).toArray 149 (0, 0))) : ∀ j u, (spC sp)[j]? = some u → w.cell? ((⟨g, 0, none⟩ : Addr).add j) = some u := by
  intro j u hu
  have hadd : (⟨g, 0, none⟩ : Addr).add j = ⟨g, j, none⟩ := by unfold Addr.add; split <;> simp_all
  rw [hadd, cell_of_row w g j _ _ (0, 0) h]
  simpa using hu

/-- behind the append -/
theorem Cl.appended {w wr w1 : World} {r : Nat} {s : ByteArray} {d z : Int} {but : Bool} {v v' : Value} {acc sp : List Span} {l : List Int} (h : Cl w wr r s d z but v acc l) (hr : 2 ≤ r) (lt : r < w.heap.size)
    (own : w1.ownsRow (w.heap.size + 1) 149 2 v' (acc.length + sp.length) (spC acc ++ spC sp)) (g : wr.grownBy w1 v.ownBlock) :
    w1.cell? ⟨w.heap.size, 1, none⟩ = some v ∧ w1.frozen? ⟨w.heap.size, 1, none⟩ = false ∧ Cl w (w1.setCell ⟨w.heap.size, 1, none⟩ v') r s d z but v' (acc ++ sp) l := by
  have hne : ∀ k, k ≤ w.heap.size → some k ≠ v.ownBlock := fun k hk e => by have := h.own.lt k e.symm; omega
  have hp := h.part
  have hlt := (Array.getElem?_eq_some_iff.1 hp).1
  have hp1 : w1.heap[w.heap.size]? = _ := (g.block _ hlt (hne _ (Nat.le_refl _))).trans hp
  have hlt1 := (Array.getElem?_eq_some_iff.1 hp1).1
  have hset : (w1.setCell ⟨w.heap.size, 1, none⟩ v').heap[w.heap.size]? = some (.cells #[.int .i64 0, v', .bool but, .bool false, .slice none 0 0, .int .i32 0] 108 (0, 0)) := by
    unfold World.setCell
    simp only [Array.getElem?_modify, ↓reduceIte, hp1, Option.map_some]
    rfl
  have gs : w1.grownBy (w1.setCell ⟨w.heap.size, 1, none⟩ v') (some w.heap.size) := grown_setCell _ _ _ _
  refine ⟨?_, ?_, ?_, ?_, ?_, hset, ?_⟩
  · unfold World.cell?; rw [hp1]; rfl
  · unfold World.frozen?; rw [hp1]; rfl
  · obtain ⟨p, hrd, hpos⟩ := h.here
    have ltr := hrd.lt
    have kk : ∀ j u, wr.cell? ⟨r, j, none⟩ = some u → (w1.setCell ⟨w.heap.size, 1, none⟩ v').cell? ⟨r, j, none⟩ = some u := fun j u hu =>
      gs.cell (g.cell hu (hne r (by omega))) (fun e => by have : r = w.heap.size := Option.some.inj e; omega)
    refine ⟨p, ⟨kk _ _ hrd.s, kk _ _ hrd.p, kk _ _ hrd.d, kk _ _ hrd.z, fun j => ?_, Nat.lt_of_lt_of_le ltr (by rw [World.size_setCell]; exact g.size)⟩, hpos⟩
    rw [World.frozen?_setCell]
    exact (World.frozen?_of_block (a := ⟨r, j, none⟩) (g.block r ltr (hne r (by omega)))).trans (hrd.free j)
  · refine ⟨g.os.trans h.grown.os, g.tape.trans h.grown.tape, g.output.trans h.grown.output, Nat.le_trans h.grown.size (by rw [World.size_setCell]; exact g.size), fun k hk hne' => ?_⟩
    rw [gs.block k (Nat.lt_of_lt_of_le hk (Nat.le_trans h.grown.size g.size)) (fun e => by have : k = w.heap.size := Option.some.inj e; omega),
      g.block k (Nat.lt_of_lt_of_le hk h.grown.size) (hne k (by omega))]
    exact h.grown.block k hk hne'
  · have ht := h.tabs
    have kk : ∀ {b j u}, b < 2 → wr.cell? ⟨b, j, none⟩ = some u → (w1.setCell ⟨w.heap.size, 1, none⟩ v').cell? ⟨b, j, none⟩ = some u := fun hb hu =>
      gs.cell (g.cell hu (hne _ (by simp; omega))) (fun e => by have := Option.some.inj e; simp at this; omega)
    exact ⟨fun c hc => kk (by omega) (ht.1 c hc), fun i hi => ⟨kk (by omega) (ht.2 i hi).1, kk (by omega) (ht.2 i hi).2⟩⟩
  · rw [List.length_append, spC_append]
    exact own.kept gs (by
      cases hv : v'.ownBlock with
      | none => exact Or.inl rfl
      | some k =>
        have := own.lt k hv
        exact Or.inr (fun e => by have : k = w.heap.size := Option.some.inj e; omega))
end Go.Proofs.YthlabaijaadocaaDoor
