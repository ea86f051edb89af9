import Derived.Shelf.SlSortCmp.KitK
import Derived.Deep.QuietTactic
import Derived.Test.YthhbbmebfmfgjaaGreatDoorSrA
/-! The worlds that a sort passes through when its comparison lays blocks: the row holds the elements in some order, all else that was there is as it was. -/
namespace Go.Proofs.YthhbbmebfmfgjaaGreatDoor
open Go.RowKit Go.Sort
namespace Stb

/-- a world behind w: all that was there is as it was -/
structure BW (w : World) where
  world : World
  h : Go.RowKit.Below w.heap.size w world

instance (w : World) : Inhabited (BW w) := ⟨⟨w, Go.RowKit.Below.refl _ _⟩⟩

theorem wp_region_below {P : Program} {id : Nat} {Q : Exit → Act → World → Prop} {a : Act} {w : World} {l : List Oper} (hm : P.follows .mixedOrders = true) (hB : Region.lexB .any l.toArray = true)
    (h : wpQuiet P l.toArray (fun w' => ∃ p : BW w, w' = p.world) (fun a' => ∀ w', (∃ p : BW w, w' = p.world) → Q .normal a' w') l a) : (Code.region id l.toArray true).wp P Q a w :=
  wp_region_quiet (C := fun w' => ∃ p : BW w, w' = p.world) hm hB ⟨⟨_, (Go.RowKit.Below.refl _ _).drew⟩, rfl⟩ (by simpa using h)

theorem Calls.below_of {P : Program} {f : FuncId} {args : Array Value} {w : World} {v : Value} (p : BW w)
    (h : Calls P f args p.world fun e w' => e = .returned v ∧ Go.RowKit.Below p.world.heap.size p.world w') : Calls P f args p.world fun e w'' => e = .returned v ∧ ∃ q : BW w, w'' = q.world :=
  h.mono fun _ w' ⟨he, hq⟩ => ⟨he, ⟨w', p.h.trans (hq.mono p.h.size)⟩, rfl⟩

variable {P : Program} {α : Type} [Inhabited α] {enc : α → List Value} {k : Nat} {w0 W : World} {blk off : Nat} {dk : Array α}

/-- the row at blk holds dk; all else is as in w0 -/
structure SB (enc : α → List Value) (k : Nat) (w0 : World) (blk off : Nat) (dk : Array α) (W : World) : Prop where
  holds : HoldsK enc k W blk off dk
  gb : w0.grownBy W (some blk)
  tag : ∀ c e fr, w0.heap[blk]? = some (.cells c e fr) → ∃ c', W.heap[blk]? = some (.cells c' e fr) ∧ c'.size = c.size

theorem tag_setCell (w : World) (b o : Nat) (u : Value) {c : Array Value} {e : TypeId} {fr : Nat × Nat} (h : w.heap[b]? = some (.cells c e fr)) : ∃ c', (w.setCell ⟨b, o, none⟩ u).heap[b]? = some (.cells c' e fr) ∧ c'.size = c.size := by
  simp only [World.setCell, Array.getElem?_modify, if_true, h, Option.map_some]
  exact ⟨_, rfl, by simp⟩

theorem tag_setCells (b : Nat) : ∀ (vs : List Value) (o : Nat) (w : World) {c : Array Value} {e : TypeId} {fr : Nat × Nat}, w.heap[b]? = some (.cells c e fr) → ∃ c', (w.setCells b o vs).heap[b]? = some (.cells c' e fr) ∧ c'.size = c.size
  | [], _, _, c, _, _, h => ⟨c, h, rfl⟩
  | v :: r, o, w, c, e, fr, h => by
    obtain ⟨c1, h1, s1⟩ := tag_setCell w b o v h
    obtain ⟨c2, h2, s2⟩ := tag_setCells b r (o + 1) _ h1
    exact ⟨c2, h2, s2.trans s1⟩

theorem SB.start (h : HoldsK enc k w0 blk off dk) : SB enc k w0 blk off dk w0 := ⟨h, ⟨rfl, rfl, rfl, Nat.le_refl _, fun _ _ _ => rfl⟩, fun c _e _fr h => ⟨c, h, rfl⟩⟩

theorem SB.behind {W' : World} (h : SB enc k w0 blk off dk W) (hb : blk < w0.heap.size) (b : Go.RowKit.Below W.heap.size W W') : SB enc k w0 blk off dk W' := by
  have hs := h.gb.size
  refine ⟨fun j hj => ?_, ⟨b.os.trans h.gb.os, b.tape.trans h.gb.tape, b.output.trans h.gb.output, Nat.le_trans hs b.size, fun q hq hne => (b.block q (by omega)).trans (h.gb.block q hq hne)⟩, fun c e fr hc => by rw [b.block blk (by omega)]; exact h.tag c e fr hc⟩
  have := h.holds j hj
  rw [b.cell (show blk < W.heap.size by omega), b.frozen (show blk < W.heap.size by omega)]
  exact this

theorem SB.bw (h : SB enc k w0 blk off dk W) (hb : blk < w0.heap.size) (p : BW W) : SB enc k w0 blk off dk p.world := h.behind hb p.h
theorem SB.drew (h : SB enc k w0 blk off dk W) : SB enc k w0 blk off dk W.drew := ⟨h.holds, ⟨h.gb.os, h.gb.tape, h.gb.output, h.gb.size, h.gb.block⟩, h.tag⟩

theorem heap_setCells (b : Nat) : ∀ (vs : List Value) (o : Nat) (w : World) (q : Nat), q ≠ b → (w.setCells b o vs).heap[q]? = w.heap[q]?
  | [], _, _, _, _ => rfl
  | v :: r, o, w, q, h => by rw [World.setCells, heap_setCells b r _ _ _ h]; exact Go.RowKit.Below.heap_setCell _ _ _ _ h

theorem same_setCells (b : Nat) : ∀ (vs : List Value) (o : Nat) (w : World), (w.setCells b o vs).os = w.os ∧ (w.setCells b o vs).tape = w.tape ∧ (w.setCells b o vs).output = w.output
  | [], _, _ => ⟨rfl, rfl, rfl⟩
  | v :: r, o, w => by rw [World.setCells]; exact same_setCells b r _ _

theorem grownBy_setCells {b : Nat} (vs : List Value) (o : Nat) (h : w0.grownBy W (some b)) : w0.grownBy (W.setCells b o vs) (some b) := by
  obtain ⟨e1, e2, e3⟩ := same_setCells b vs o W
  exact ⟨e1.trans h.os, e2.trans h.tape, e3.trans h.output, by rw [size_setCells]; exact h.size, fun q hq hne => (heap_setCells b vs o W q (fun e => hne (by rw [e]))).trans (h.block q hq hne)⟩

theorem SB.swap (h : SB enc k w0 blk off dk W) (hk : ∀ x, (enc x).length = k) (i j : Nat) (hi : i < dk.size) (hj : j < dk.size) :
    SB enc k w0 blk off (swp dk i j) ((W.setCells blk (off + i * k) (enc dk[j]!)).setCells blk (off + j * k) (enc dk[i]!)) := by
  refine ⟨?_, grownBy_setCells _ _ (grownBy_setCells _ _ h.gb), fun c e fr hc => by
    obtain ⟨c1, h1, s1⟩ := h.tag c e fr hc
    obtain ⟨c2, h2, s2⟩ := tag_setCells blk (enc dk[j]!) (off + i * k) W h1
    obtain ⟨c3, h3, s3⟩ := tag_setCells blk (enc dk[i]!) (off + j * k) _ h2
    exact ⟨c3, h3, s3.trans (s2.trans s1)⟩⟩
  have e1 := holds_setCells_c h.holds (i * k) (enc dk[j]!) (by rw [hk, size_flatK]; exact rowK_bnd dk k i hi)
  have e2 := holds_setCells_c e1 (j * k) (enc dk[i]!) (by rw [hk, size_setMany, size_flatK]; exact rowK_bnd dk k j hj)
  rw [setMany_swp enc k hk dk i j hi hj] at e2
  exact e2

/-- What the sort is told of the row and of the comparison, once. -/
structure RowB (P : Program) (enc : α → List Value) (k : Nat) (g : Nat) (cb : Array Value) (cf : α → α → Int) (w0 : World) (blk off size : Nat) : Prop where
  hk : ∀ x, (enc x).length = k
  h1 : ∀ x, ∀ v ∈ enc x, v.oneCell' = true
  hblk : blk < w0.heap.size
  cmp : ∀ (W : World) (dk : Array α), dk.size = size → SB enc k w0 blk off dk W → ∀ x y : α,
    Calls P g (#[.agg (enc x).toArray, .agg (enc y).toArray] ++ cb) W fun e w' => e = .returned (.int .i64 (cf x y)) ∧ Go.RowKit.Below W.heap.size W w'

variable {g : Nat} {cb : Array Value} {cf : α → α → Int} {size : Nat}

theorem SB.load (h : SB enc k w0 blk off dk W) (R : RowB P enc k g cb cf w0 blk off size) (i : Nat) (hi : i < dk.size) :
    Sem.run P (loadCellsFrom ⟨blk, off + i * k, none⟩ 0 k #[]) W = .ok (enc dk[i]!).toArray W :=
  run_loadCellsFrom_list P _ _ _ k (R.hk _) (HoldsK.cells h.holds R.hk hi)

theorem SB.ld (h : SB enc k w0 blk off dk W) (R : RowB P enc k g cb cf w0 blk off size) (i : Nat) (hi : i < dk.size) (p : BW W) :
    Sem.run P (loadCellsFrom ⟨blk, off + i * k, none⟩ 0 k #[]) p.world = .ok (enc dk[i]!).toArray p.world := (h.bw R.hblk p).load R i hi

theorem SB.ld1 (h : SB enc k w0 blk off dk W) (R : RowB P enc k g cb cf w0 blk off size) (i : Nat) (hi : i < dk.size) :
    Sem.run P (loadCellsFrom ⟨blk, off + i * k, none⟩ 0 k #[]) W.drew = .ok (enc dk[i]!).toArray W.drew := h.drew.load R i hi

theorem SB.cmp (h : SB enc k w0 blk off dk W) (R : RowB P enc k g cb cf w0 blk off size) (hs : dk.size = size) (x y : α) (p : BW W) :
    Calls P g (#[.agg (enc x).toArray, .agg (enc y).toArray] ++ cb) p.world fun e w'' => e = .returned (.int .i64 (cf x y)) ∧ ∃ q : BW W, w'' = q.world :=
  Calls.below_of p (R.cmp p.world dk hs (h.bw R.hblk p) x y)

theorem SB.st1 (h : SB enc k w0 blk off dk W) (R : RowB P enc k g cb cf w0 blk off size) (i : Nat) (hi : i < dk.size) (y : α) :
    Sem.run P (storeCells ⟨blk, off + i * k, none⟩ (enc y) 0) W.drew = .ok () (W.drew.setCells blk (off + i * k) (enc y)) :=
  stores_of_holds P h.drew.holds (i * k) _ (by rw [R.hk, size_flatK]; exact rowK_bnd dk k i hi) (R.h1 _)

theorem SB.st2 (h : SB enc k w0 blk off dk W) (R : RowB P enc k g cb cf w0 blk off size) (i j : Nat) (hi : i < dk.size) (hj : j < dk.size) (y x : α) :
    Sem.run P (storeCells ⟨blk, off + j * k, none⟩ (enc x) 0) (W.drew.setCells blk (off + i * k) (enc y)) = .ok () ((W.drew.setCells blk (off + i * k) (enc y)).setCells blk (off + j * k) (enc x)) :=
  stores_of_holds P (holds_setCells_c h.drew.holds (i * k) _ (by rw [R.hk, size_flatK]; exact rowK_bnd dk k i hi)) (j * k) _ (by rw [R.hk, size_setMany, size_flatK]; exact rowK_bnd dk k j hj) (R.h1 _)

theorem SB.swapped (h : SB enc k w0 blk off dk W) (R : RowB P enc k g cb cf w0 blk off size) (i j : Nat) (hi : i < dk.size) (hj : j < dk.size) :
    SB enc k w0 blk off (swp dk i j) ((W.drew.setCells blk (off + i * k) (enc dk[j]!)).setCells blk (off + j * k) (enc dk[i]!)) := h.drew.swap R.hk i j hi hj

end Stb
end Go.Proofs.YthhbbmebfmfgjaaGreatDoor
