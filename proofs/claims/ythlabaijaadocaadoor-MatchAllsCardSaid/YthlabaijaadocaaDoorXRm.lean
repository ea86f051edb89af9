import Derived.Test.YthlabaijaadocaaDoorCards
import Derived.Test.YthlabaijaadocaaDoorTie
import Derived.WalkKit
import Derived.ProofKit
import Derived.OpenShut
import Derived.ShutString
import Derived.ChangeOld
import Derived.Below
import Derived.Carry
import Derived.Deep.DeepHandedRow
import Derived.Lib.LaidTab
import Derived.Lib.SmallJoins
import Derived.Test.YthlabaijaadocaaDoorXB1
import Derived.Deep.Slices
import Derived.Deep.Fields
import Derived.ChangeSame
import Derived.ChangeArms
import Derived.ChangeMaps5
import Derived.Lib.LaidU8T
/-! A world for the witness of each card: the two tables of unicode/utf8 laid. -/
namespace Go.Proofs.YthlabaijaadocaaDoor
open Go.ChangeShapes Go.WideShapes Go.ChangeAt Go.RowKit

theorem ownNone : ownKnob Tryd.prog.godebug = none := by kernel_rfl
theorem laidOutAll : laidOutB Tryd.prog = true := by kernel_rfl
def acceptZ : List Nat := [128, 191, 160, 191, 128, 159, 144, 191, 128, 143, 0, 0, 0, 0, 0, 0, 0, 0, 0, 0, 0, 0, 0, 0, 0, 0, 0, 0, 0, 0, 0, 0]
def putCells (cs : Array Value) : Obj → Obj
  | .cells _ t frozen => .cells cs t frozen
  | o => o
/-- the settled world, the tables holding what their initialisers lay -/
noncomputable def laidWorld (os : Os) : World :=
  { World.holding Tryd.prog os ⟨#[], #[], []⟩ with heap := ((World.holding Tryd.prog os ⟨#[], #[], []⟩).heap.modify 0 (putCells (Go.Pinned.utf8FirstZ.map (fun (n : Nat) => Value.int .u8 n)).toArray)).modify 1 (putCells (acceptZ.map (fun (n : Nat) => Value.int .u8 n)).toArray) }
end Go.Proofs.YthlabaijaadocaaDoor

/-! Arguments that are matchers or labels, read; the two tables of utf8, out of the row's memory. -/
namespace Go.Proofs.YthlabaijaadocaaDoor
open Go.ChangeShapes Go.WideShapes Go.Deep Go.RowKit Mt
namespace Rm
theorem laid_two : Rows.matchNoneRow.laid = [("unicode/utf8.acceptRanges", Lib.acceptData), ("unicode/utf8.first", Lib.firstData)] := by kernel_rfl
theorem tabs_laid {W : World} (hL : laidMet Tryd.prog Rows.matchNoneRow.laid W) : Lib.Utf8Tabs 0 1 W := by
  rw [laid_two] at hL
  exact utf8Tabs_of_readsT (ρ := Tryd.laysValid_ren) (U8Types.of196 Tryd.laysValid) ⟨by kernel_rfl, by kernel_rfl, by kernel_rfl, by kernel_rfl, by kernel_rfl, by kernel_rfl, by kernel_rfl⟩ (Lib.laidMet.reads hL (.tail _ (.head _))) (Lib.laidMet.reads hL (.head _))
theorem tabs_size {W : World} (h : Lib.Utf8Tabs 0 1 W) : 2 ≤ W.heap.size := by
  have h2 := World.block_lt_of_cell? W _ (h.2 0 (by decide)).1
  exact h2

section
variable {H : Type} {enc : TypeId × Value → H} {W : World} {base : Nat} {sp : Nat → Bool} {held : Bool}
/-- a row of structs, read -/
theorem row_of {α : Type} [Inhabited α] (sz : Nat) (hsz : 0 < sz) (K : α → List Value → Prop) {t e : TypeId} (ht : Tryd.prog.underlying t = some (.slice e)) (hC : Tryd.prog.cellsOf e = sz)
    (hel : ∀ n cs y, DataW.trod enc Tryd.prog W base sp held n e cs = some y → cs.length = sz → ∃ x : α, K x cs)
    {fuel : Nat} {cs : List Value} {y : DataW H × List MemPlace} (h : DataW.trod enc Tryd.prog W base sp held fuel t cs = some y) :
    ∃ (A : Option Addr) (l : List α) (cap : Nat), cs = [.slice A l.length cap] ∧ l.length ≤ cap ∧ (l ≠ [] → ∃ b off, A = some ⟨b, off, none⟩ ∧ ∀ i (h : i < l.length), ∃ c, c.length = sz ∧ K (l[i]'h) c ∧ ∀ j u, c[j]? = some u → W.cell? ⟨b, off + i * sz + j, none⟩ = some u) := by
  rcases open_slice ht h with ⟨rfl, _⟩ | ⟨a, len, cap, m, n, D, Pl, rfl, _, hl, hm, hmm, _, hi⟩
  · exact ⟨none, [], 0, rfl, Nat.le_refl _, fun x => absurd rfl x⟩
  · rw [hC] at hi
    have hlm : len ≤ m := by rw [hmm]; split <;> omega
    have hex : ∀ i, ∃ x : α, i < len → ∃ c, c.length = sz ∧ K x c ∧ ∀ j u, c[j]? = some u → W.cell? (a.add (i * sz + j)) = some u := by
      intro i
      by_cases hil : i < len
      · obtain ⟨cs', hc, ht'⟩ := hi i (by omega)
        obtain ⟨_, hcl, hat⟩ := World.cells?_some hc
        obtain ⟨x, hx⟩ := hel _ _ _ ht' hcl
        refine ⟨x, fun _ => ⟨cs', hcl, hx, fun j u hj => ?_⟩⟩
        have hj2 : j < sz := by
          have := (List.getElem?_eq_some_iff.1 hj).1
          omega
        rw [← Go.Deep.add_add, hat j hj2, hj]
      · exact ⟨default, fun h' => absurd h' hil⟩
    obtain ⟨f, hfx⟩ := Classical.axiomOfChoice hex
    refine ⟨some a, (List.range len).map f, cap, by simp, by simpa using hl, fun hne => ?_⟩
    have hpos : 0 < len := by
      rcases Nat.eq_zero_or_pos len with h0 | h0
      · subst h0; exact absurd rfl hne
      · exact h0
    have hspot : a.spot = none := by
      obtain ⟨c, hcl, _, hat⟩ := hfx 0 hpos
      have h0 : 0 < c.length := by omega
      have := hat 0 c[0] (List.getElem?_eq_getElem h0)
      rw [show 0 * sz + 0 = 0 by omega, show a.add 0 = a by simp [Addr.add]] at this
      unfold World.cell? at this
      split at this
      · split at this
        · cases this
        · rename_i hs; simpa using hs
      · cases this
    obtain ⟨b, off, spot⟩ := a
    simp only at hspot
    subst hspot
    refine ⟨b, off, rfl, fun i hi => ?_⟩
    have hil : i < len := by simpa using hi
    obtain ⟨c, hcl, hk, hat⟩ := hfx i hil
    refine ⟨c, hcl, by simpa using hk, fun j u hj => ?_⟩
    have := hat j u hj
    have e : ((⟨b, off, none⟩ : Addr).add (i * sz + j)) = ⟨b, off + i * sz + j, none⟩ := by
      unfold Addr.add
      split <;> simp <;> omega
    rw [e] at this
    exact this

instance : Inhabited M := ⟨⟨0, ⟨#[]⟩, ⟨#[]⟩⟩⟩
instance : Inhabited L := ⟨⟨⟨#[]⟩, ⟨#[]⟩⟩⟩
set_option maxRecDepth 100000 in
theorem label_of {n : Nat} {cs : List Value} {y : DataW H × List MemPlace} (ht : DataW.trod enc Tryd.prog W base sp held n 51 cs = some y) (hl : cs.length = 2) : ∃ x : L, cs = [.string x.n, .string x.v] := by
  obtain ⟨ys, n', hn', hy, hlen, hyl, hf⟩ := DataW.trod_struct Tryd.underlying51 ht
  match cs, hl, hf with
  | [c0, c1], _, hf =>
    match ys, hyl with
    | [y0, y1], _ =>
      obtain ⟨x0, e0, _, m0⟩ := DataW.trod_string (by kernel_rfl) (hf 0 _ rfl)
      obtain ⟨x1, e1, _⟩ := DataW.trod_string (by kernel_rfl) (hf 1 _ rfl)
      have e0' : [c0] = [Value.string x0] := e0
      have e1' : [c1] = [Value.string x1] := e1
      simp only [List.cons.injEq, and_true] at e0' e1'
      subst e0' e1'
      exact ⟨⟨x0, x1⟩, rfl⟩
set_option maxRecDepth 100000 in
theorem matcher_of {n : Nat} {cs : List Value} {y : DataW H × List MemPlace} (ht : DataW.trod enc Tryd.prog W base sp held n 26 cs = some y) (hl : cs.length = 3) : ∃ x : M, cs = [.int .i64 x.k, .string x.n, .string x.v] := by
  obtain ⟨ys, n', hn', hy, hlen, hyl, hf⟩ := DataW.trod_struct Tryd.underlying26 ht
  match cs, hl, hf with
  | [c0, c1, c2], _, hf =>
    match ys, hyl with
    | [y0, y1, y2], _ =>
      obtain ⟨k, e0, _, _⟩ := DataW.trod_int (k := .i64) (by kernel_rfl) (hf 0 _ rfl)
      obtain ⟨x0, e1, _⟩ := DataW.trod_string (by kernel_rfl) (hf 1 _ rfl)
      obtain ⟨x1, e2, _⟩ := DataW.trod_string (by kernel_rfl) (hf 2 _ rfl)
      have e0' : [c0] = [Value.int .i64 k] := e0
      have e1' : [c1] = [Value.string x0] := e1
      have e2' : [c2] = [Value.string x1] := e2
      simp only [List.cons.injEq, and_true] at e0' e1' e2'
      subst e0' e1' e2'
      exact ⟨⟨k, x0, x1⟩, rfl⟩
end

set_option maxRecDepth 100000 in
theorem labels_in {H : Type} {enc : TypeId × Value → H} {W : World} {v : Value} {d : DataW H} {p : List MemPlace} {b : Nat}
    (hv : Value.okWide Tryd.prog W .any b 36 v) (h : DataW.Trod enc Tryd.prog W 0 (fun _ => true) true 36 v d p) : ∃ l : List L, Lb0 W v l := by
  obtain ⟨a0, len0, cap0, rfl⟩ := okWide_slice Tryd.underlying36 hv
  obtain ⟨fuel, hf⟩ := h
  obtain ⟨A, l, cap, e, hl, hC⟩ := row_of 2 (by decide) (fun (x : L) cs => cs = [.string x.n, .string x.v]) (t := 36) (e := 51) Tryd.underlying36 (by kernel_rfl) (fun n cs y h hl => label_of h hl) hf
  simp [Value.cells] at e
  obtain ⟨rfl, rfl, rfl⟩ := e
  refine ⟨l, _, _, rfl, fun hne => ?_⟩
  obtain ⟨b, off, ea, hc⟩ := hC hne
  refine ⟨b, off, ea, fun i hi => ?_⟩
  obtain ⟨c, _, rfl, hat⟩ := hc i hi
  exact ⟨hat 0 _ rfl, hat 1 _ rfl⟩
set_option maxRecDepth 100000 in
theorem matchers_in {H : Type} {enc : TypeId × Value → H} {W : World} {v : Value} {d : DataW H} {p : List MemPlace} {b : Nat}
    (hv : Value.okWide Tryd.prog W .any b 22 v) (h : DataW.Trod enc Tryd.prog W 0 (fun _ => true) true 22 v d p) : ∃ l : List M, Ms0 W v l := by
  obtain ⟨a0, len0, cap0, rfl⟩ := okWide_slice Tryd.underlying22 hv
  obtain ⟨fuel, hf⟩ := h
  obtain ⟨A, l, cap, e, hl, hC⟩ := row_of 3 (by decide) (fun (x : M) cs => cs = [.int .i64 x.k, .string x.n, .string x.v]) (t := 22) (e := 26) Tryd.underlying22 (by kernel_rfl) (fun n cs y h hl => matcher_of h hl) hf
  simp [Value.cells] at e
  obtain ⟨rfl, rfl, rfl⟩ := e
  refine ⟨l, _, _, rfl, hl, fun hne => ?_⟩
  obtain ⟨b, off, ea, hc⟩ := hC hne
  refine ⟨b, off, ea, fun i hi => ?_⟩
  obtain ⟨c, _, rfl, hat⟩ := hc i hi
  exact ⟨hat 0 _ rfl, hat 1 _ rfl, hat 2 _ rfl⟩
set_option maxRecDepth 100000 in
theorem matcher_in {H : Type} {enc : TypeId × Value → H} {W : World} {v : Value} {d : DataW H} {p : List MemPlace} {b : Nat}
    (hv : Value.okWide Tryd.prog W .any b 26 v) (h : DataW.Trod enc Tryd.prog W 0 (fun _ => true) true 26 v d p) : ∃ (k : Int) (n s : ByteArray), v = .agg #[.int .i64 k, .string n, .string s] := by
  obtain ⟨cs, rfl, hsz⟩ := okWide_struct Tryd.underlying26 hv
  obtain ⟨fuel, hf⟩ := h
  obtain ⟨x, e⟩ := matcher_of hf (by have : Tryd.prog.cellsOf 26 = 3 := by kernel_rfl
                                     simp [Value.cells]; omega)
  simp only [Value.cells] at e
  refine ⟨x.k, x.n, x.v, ?_⟩
  congr 1
  exact Array.ext' e
end Rm
end Go.Proofs.YthlabaijaadocaaDoor
