import Derived.Test.YthhbbmebfmfgjaaGreatDoorRowT2
import Derived.Test.YthhbbmebfmfgjaaGreatDoorPBx0
import Derived.Deep.Slices
import Derived.Deep.Fields
import Derived.ChangeSame
/-! An argument that is a list of points, read. -/
namespace Go.Proofs.YthhbbmebfmfgjaaGreatDoor
open Go.ChangeShapes Go.WideShapes Go.Deep Go.RowKit Go.Proofs.YthhbbmebfmfgjaaGreatDoorW.PrintWords

set_option maxRecDepth 100000 in
theorem point_of {H : Type} {enc : TypeId × Value → H} {W : World} {base : Nat} {sp : Nat → Bool} {held : Bool} {n : Nat} {a : Addr} {cs : List Value} {y : DataW H × List MemPlace}
    (hc : W.cells? base a 3 = some cs) (ht : DataW.trod enc Tryz.prog W base sp held n 44 cs = some y) :
    ∃ x : PB.S44, (word x.f1 = true ∧ -9223372036854775808 ≤ x.f0 ∧ x.f0 ≤ 9223372036854775807) ∧ cs = [.int .i64 x.f0, .int .u64 x.f1, .int .u64 x.f2] ∧ ∀ i, i < 3 → W.cell? (a.add i) = cs[i]? := by
  obtain ⟨ys, n', hn', hy, hlen, hyl, hf⟩ := DataW.trod_struct Tryz.underlying44 ht
  obtain ⟨_, hcl, hat⟩ := World.cells?_some hc
  match cs, hcl, hat, hf with
  | [c0, c1, c2], _, hat, hf =>
    match ys, hyl with
    | [y0, y1, y2], _ =>
      have t0 := hf 0 _ rfl
      have t1 := hf 1 _ rfl
      have t2 := hf 2 _ rfl
      obtain ⟨x0, e0, _, w0⟩ := DataW.trod_int (k := .i64) (by kernel_rfl) t0
      obtain ⟨x1, e1, _, w1⟩ := DataW.trod_int (k := .u64) (by kernel_rfl) t1
      obtain ⟨x2, e2, _, _⟩ := DataW.trod_int (k := .u64) (by kernel_rfl) t2
      have e0' : [c0] = [Value.int .i64 x0] := e0
      have e1' : [c1] = [Value.int .u64 x1] := e1
      have e2' : [c2] = [Value.int .u64 x2] := e2
      simp only [List.cons.injEq, and_true] at e0' e1' e2'
      subst e0' e1' e2'
      refine ⟨⟨x0, x1, x2⟩, ?_, rfl, hat⟩
      obtain ⟨m, rfl, hm⟩ := u64_nat w1
      exact ⟨word_nat hm, Go.bounds_i64 w0⟩

set_option maxRecDepth 100000 in
theorem points_of {H : Type} {enc : TypeId × Value → H} {W : World} {v : Value} {d : DataW H} {p : List MemPlace} {b : Nat}
    (hv : Value.okWide Tryz.prog W .any b 35 v) (h : DataW.Trod enc Tryz.prog W 0 (fun _ => true) true 35 v d p) :
    ∃ A len cap, ∃ l : List PB.S44, v = .slice A l.length cap ∧ l.length = len ∧ l.length ≤ cap ∧ Kd.C PB.k44 W A l.length l ∧ (l.map PB.S44.f1).all word = true ∧ ∀ i : Int, 0 ≤ i → i < l.length → -9223372036854775808 ≤ (PB.rd_T44 l i).f0 ∧ (PB.rd_T44 l i).f0 ≤ 9223372036854775807 := by
  obtain ⟨a0, len0, cap0, rfl⟩ := okWide_slice Tryz.underlying35 hv
  obtain ⟨fuel, hf⟩ := h
  rcases open_slice Tryz.underlying35 hf with ⟨hcs, _⟩ | ⟨a, len, cap, m, n, D, Pl, hcs, _, hl, hm, hmm, _, hi⟩
  · simp [Value.cells] at hcs
    obtain ⟨rfl, rfl, rfl⟩ := hcs
    exact ⟨none, 0, 0, [], rfl, rfl, Nat.le_refl _, Kd.C_nil _ _, rfl, fun i h0 h1 => by simp at h1; omega⟩
  · simp [Value.cells] at hcs
    obtain ⟨rfl, rfl, rfl⟩ := hcs
    have hC : Tryz.prog.cellsOf 44 = 3 := by kernel_rfl
    have hmc : m = cap0 := by simpa using hmm
    have hex : ∀ i, ∃ x : PB.S44, i < len0 → (word x.f1 = true ∧ -9223372036854775808 ≤ x.f0 ∧ x.f0 ≤ 9223372036854775807) ∧ ∀ j u, ([Value.int .i64 x.f0, .int .u64 x.f1, .int .u64 x.f2] : List Value)[j]? = some u → W.cell? (a.add (i * 3 + j)) = some u := by
      intro i
      by_cases h : i < len0
      · obtain ⟨cs', hc, ht⟩ := hi i (by omega)
        rw [hC] at hc
        obtain ⟨x, hw, rfl, hat⟩ := point_of hc ht
        refine ⟨x, fun _ => ⟨hw, fun j u hj => ?_⟩⟩
        have hj3 : j < 3 := by
          have := (List.getElem?_eq_some_iff.1 hj).1
          simpa using this
        rw [← Go.Deep.add_add, hat j hj3, hj]
      · exact ⟨⟨0, 0, 0⟩, fun h' => absurd h' h⟩
    obtain ⟨f, hfx⟩ := Classical.axiomOfChoice hex
    refine ⟨some a, len0, cap0, (List.range len0).map f, by simp, by simp, by simpa using hl, ⟨rfl, ?_, fun _ => ⟨a, rfl, fun j q hj => ?_⟩⟩, ?_, ?_⟩
    · have : maxLen ≤ 9223372036854775807 := by decide
      simp; omega
    · obtain ⟨hj1, hj2⟩ := List.getElem?_eq_some_iff.1 hj
      have hjl : j < len0 := by simpa using hj1
      have e : q = f j := by rw [← hj2]; simp
      subst e
      exact ⟨_, rfl, PB.k44_mk W _, fun i u hu => (hfx j hjl).2 i u hu⟩
    · rw [List.all_eq_true]
      intro z hz
      simp only [List.map_map, List.mem_map, List.mem_range, Function.comp] at hz
      obtain ⟨i, hil, rfl⟩ := hz
      exact (hfx i hil).1.1
    · intro i h0 h1
      have hil : i.toNat < len0 := by simp at h1; omega
      have e : PB.rd_T44 ((List.range len0).map f) i = f i.toNat := by
        unfold PB.rd_T44
        rw [List.getD_eq_getElem?_getD, List.getElem?_map, List.getElem?_range hil]
        rfl
      rw [e]
      exact (hfx i.toNat hil).1.2
end Go.Proofs.YthhbbmebfmfgjaaGreatDoor
