import Derived.Test.YthhbbmebfmfgjaaGreatDoorRowT2
import Derived.Test.YthhbbmebfmfgjaaGreatDoorPuVb
import Derived.Deep.Slices
import Derived.Deep.Fields
import Derived.ChangeSame
import Derived.ChangeArms
import Derived.Lib.LaidU8T
/-! An argument that is a row of elements with labels, read. -/
namespace Go.Proofs.YthhbbmebfmfgjaaGreatDoor
open Go.ChangeShapes Go.WideShapes Go.Deep Go.RowKit Go.Proofs.YthhbbmebfmfgjaaGreatDoorW.PrintWords
namespace RowF
section
variable {H : Type} {enc : TypeId × Value → H} {W : World} {base : Nat} {sp : Nat → Bool} {held : Bool}

theorem row_of {α : Type} [Inhabited α] (d : Kd α) (Q : α → Prop) {t e : TypeId} (ht : Tryz.prog.underlying t = some (.slice e)) (hC : Tryz.prog.cellsOf e = d.sz)
    (hel : ∀ n cs y, DataW.trod enc Tryz.prog W base sp held n e cs = some y → cs.length = d.sz → ∃ x : α, d.K W x cs ∧ Q x)
    {fuel : Nat} {cs : List Value} {y : DataW H × List MemPlace} (h : DataW.trod enc Tryz.prog W base sp held fuel t cs = some y) :
    ∃ (A : Option Addr) (l : List α) (cap : Nat), cs = [.slice A l.length cap] ∧ l.length ≤ cap ∧ d.C W A l.length l ∧ ∀ x ∈ l, Q x := by
  rcases open_slice ht h with ⟨rfl, _⟩ | ⟨a, len, cap, m, n, D, Pl, rfl, _, hl, hm, hmm, _, hi⟩
  · exact ⟨none, [], 0, rfl, Nat.le_refl _, Kd.C_nil _ _, fun x h => by cases h⟩
  · rw [hC] at hi
    have hlm : len ≤ m := by rw [hmm]; split <;> omega
    have hex : ∀ i, ∃ x : α, i < len → Q x ∧ ∃ c, c.length = d.sz ∧ d.K W x c ∧ ∀ j u, c[j]? = some u → W.cell? (a.add (i * d.sz + j)) = some u := by
      intro i
      by_cases hil : i < len
      · obtain ⟨cs', hc, ht'⟩ := hi i (by omega)
        obtain ⟨_, hcl, hat⟩ := World.cells?_some hc
        obtain ⟨x, hx, hq⟩ := hel _ _ _ ht' hcl
        refine ⟨x, fun _ => ⟨hq, cs', hcl, hx, fun j u hj => ?_⟩⟩
        have hj2 : j < d.sz := by
          have := (List.getElem?_eq_some_iff.1 hj).1
          omega
        rw [← Go.Deep.add_add, hat j hj2, hj]
      · exact ⟨default, fun h' => absurd h' hil⟩
    obtain ⟨f, hfx⟩ := Classical.axiomOfChoice hex
    refine ⟨some a, (List.range len).map f, cap, by simp, by simpa using hl, ⟨rfl, ?_, fun _ => ⟨a, rfl, fun j q hj => ?_⟩⟩, fun x hx => ?_⟩
    · have : maxLen ≤ 9223372036854775807 := by decide
      simp; omega
    · obtain ⟨hj1, hj2⟩ := List.getElem?_eq_some_iff.1 hj
      have hjl : j < len := by simpa using hj1
      have e : q = f j := by rw [← hj2]; simp
      subst e
      exact (hfx j hjl).2
    · obtain ⟨i, hi, rfl⟩ := List.mem_map.1 hx
      exact (hfx i (List.mem_range.1 hi)).1

set_option maxRecDepth 100000 in
theorem label_of {n : Nat} {cs : List Value} {y : DataW H × List MemPlace} (ht : DataW.trod enc Tryz.prog W base sp held n 128 cs = some y) (hl : cs.length = 2) : ∃ x : PD.S128, PD.k128.K W x cs ∧ x.f0.size ≤ 9223372036854775807 := by
  obtain ⟨ys, n', hn', hy, hlen, hyl, hf⟩ := DataW.trod_struct Tryz.underlying128 ht
  match cs, hl, hf with
  | [c0, c1], _, hf =>
    match ys, hyl with
    | [y0, y1], _ =>
      obtain ⟨x0, e0, _, m0⟩ := DataW.trod_string (by kernel_rfl) (hf 0 _ rfl)
      obtain ⟨x1, e1, _⟩ := DataW.trod_string (by kernel_rfl) (hf 1 _ rfl)
      have e0' : [c0] = [Value.string x0] := e0
      have e1' : [c1] = [Value.string x1] := e1
      simp only [List.cons.injEq, and_true] at e0' e1'
      subst e0' e1'
      exact ⟨⟨x0, x1⟩, PD.k128_mk W _, m0⟩

instance : Inhabited PD.S128 := ⟨PD.z128⟩
instance : Inhabited PD.S33 := ⟨PD.z33⟩

set_option maxRecDepth 100000 in
theorem elem_of {n : Nat} {cs : List Value} {y : DataW H × List MemPlace} (ht : DataW.trod enc Tryz.prog W base sp held n 33 cs = some y) (hl : cs.length = 2) : ∃ x : PD.S33, PD.k33.K W x cs ∧ ∀ y ∈ x.f0, y.f0.size ≤ 9223372036854775807 := by
  obtain ⟨ys, n', hn', hy, hlen, hyl, hf⟩ := DataW.trod_struct Tryz.underlying33 ht
  match cs, hl, hf with
  | [c0, c1], _, hf =>
    match ys, hyl with
    | [y0, y1], _ =>
      have t0 : DataW.trod enc Tryz.prog W base sp held _ 30 [c0] = some y0 := hf 0 _ rfl
      obtain ⟨A, l, cap, e0, h1, h2, h3⟩ := row_of PD.k128 (fun y => y.f0.size ≤ 9223372036854775807) (t := 30) (e := 128) (by kernel_rfl) (by kernel_rfl) (fun n cs y h hl => label_of h hl) t0
      obtain ⟨x1, e1, _, _⟩ := DataW.trod_int (k := .u64) (by kernel_rfl) (hf 1 _ rfl)
      have e1' : [c1] = [Value.int .u64 x1] := e1
      simp only [List.cons.injEq, and_true] at e0 e1'
      subst e0 e1'
      exact ⟨⟨l, x1⟩, PD.k33_mk W _ h1 h2, h3⟩
end

set_option maxRecDepth 100000 in
theorem elems_of {H : Type} {enc : TypeId × Value → H} {W : World} {v : Value} {d : DataW H} {p : List MemPlace} {b : Nat}
    (hv : Value.okWide Tryz.prog W .any b 22 v) (h : DataW.Trod enc Tryz.prog W 0 (fun _ => true) true 22 v d p) :
    ∃ A cap, ∃ l : List PD.S33, v = .slice A l.length cap ∧ l.length ≤ cap ∧ PD.k33.C W A l.length l ∧ PD.szOk l := by
  obtain ⟨a0, len0, cap0, rfl⟩ := okWide_slice Tryz.underlying22 hv
  obtain ⟨fuel, hf⟩ := h
  obtain ⟨A, l, cap, e, hl, hC, hQ⟩ := row_of PD.k33 (fun x => ∀ y ∈ x.f0, y.f0.size ≤ 9223372036854775807) (t := 22) (e := 33) Tryz.underlying22 (by kernel_rfl) (fun n cs y h hl => elem_of h hl) hf
  simp [Value.cells] at e
  obtain ⟨rfl, rfl, rfl⟩ := e
  exact ⟨_, _, l, rfl, hl, hC, hQ⟩
end RowF
end Go.Proofs.YthhbbmebfmfgjaaGreatDoor

/-! The two tables of utf8, out of the row's memory. -/
namespace Go.Proofs.YthhbbmebfmfgjaaGreatDoor
open Go.RowKit
theorem laid_two : Rows.evalSortsRow.laid = [("unicode/utf8.acceptRanges", Lib.acceptData), ("unicode/utf8.first", Lib.firstData)] := by kernel_rfl
theorem tabs_laid {W : World} (hL : laidMet Tryz.prog Rows.evalSortsRow.laid W) : Lib.Utf8Tabs 1 2 W := by
  rw [laid_two] at hL
  exact utf8Tabs_of_readsT (ρ := Tryz.laysValid_ren) (U8Types.of196 Tryz.laysValid) ⟨by kernel_rfl, by kernel_rfl, by kernel_rfl, by kernel_rfl, by kernel_rfl, by kernel_rfl, by kernel_rfl⟩ (Lib.laidMet.reads hL (.tail _ (.head _))) (Lib.laidMet.reads hL (.head _))
end Go.Proofs.YthhbbmebfmfgjaaGreatDoor
