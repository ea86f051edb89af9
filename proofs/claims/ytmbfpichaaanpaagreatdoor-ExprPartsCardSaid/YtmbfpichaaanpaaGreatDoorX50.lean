import Derived.Test.YtmbfpichaaanpaaGreatDoorX21
import Derived.Test.YtmbfpichaaanpaaGreatDoorX49
import Derived.Deep.Slices
import Derived.Deep.Fields
import Derived.ChangeSame
import Derived.ChangeArms
import Derived.ChangeMaps5
import Derived.Lib.LaidU8T
/-! Arguments that are nodes, read; the tables, out of the row's memory. -/
namespace Go.Proofs.YtmbfpichaaanpaaGreatDoor
open Go.ChangeShapes Go.WideShapes Go.Deep Go.RowKit Mt
namespace Rm
theorem tb_of_reads {w : World} {n : String} {g t : Nat} {l : List (List UInt8)} {d : DataW Unit} (hd : d = .agg (l.map fun x => .lit (.string x))) (hg : Tryz.prog.globalNamed n = some g) (hty : (Tryz.prog.globals[g]?).map (·.type) = some t)
    (ht : Tryz.prog.underlying t = some (.array l.length 9)) (hc : Tryz.prog.cellsOf 9 = 1) (h : Lib.VarReads Tryz.prog w n d) : Tb w g l := by
  intro i hi
  obtain ⟨g', t', cs, fuel, p, hg', hty', hvar, hdd⟩ := h
  obtain rfl := Option.some.inj (hg.symm.trans hg')
  obtain rfl := Option.some.inj (hty.symm.trans hty')
  subst hd
  obtain ⟨fuel', d, q, hdi, he⟩ := Lib.array_elem ht hdd i hi
  rw [List.getElem?_map, List.getElem?_eq_getElem hi] at hdi
  simp only [Option.map_some, Option.some.injEq] at hdi
  subst hdi
  rw [hc, Nat.mul_one] at he
  obtain ⟨s, hs, hx⟩ := DataW.trod_string (by kernel_rfl) he
  have hcell := World.var?_cell hg hvar i
  rw [hcell, ← Array.getElem?_toList]
  have e0 := congrArg (·[0]?) hs
  simp only [List.getElem?_take, List.getElem?_drop, List.getElem?_cons_zero, Nat.zero_lt_one, if_true, Nat.add_zero] at e0
  rw [e0]
  simp only [Prod.mk.injEq, DataW.lit.injEq, Lit.string.injEq] at hx
  rw [show l[i] = s.data.toList from by first | exact hx.1 | exact hx.1.1]

section
variable {H : Type} {enc : TypeId × Value → H} {W : World} {base : Nat} {sp : Nat → Bool} {held : Bool}
/-- a row of structs, read -/
theorem row_of {α : Type} [Inhabited α] (sz : Nat) (hsz : 0 < sz) (K : α → List Value → Prop) {t e : TypeId} (ht : Tryz.prog.underlying t = some (.slice e)) (hC : Tryz.prog.cellsOf e = sz)
    (hel : ∀ n cs y, DataW.trod enc Tryz.prog W base sp held n e cs = some y → cs.length = sz → ∃ x : α, K x cs)
    {fuel : Nat} {cs : List Value} {y : DataW H × List MemPlace} (h : DataW.trod enc Tryz.prog W base sp held fuel t cs = some y) :
    ∃ (A : Option Addr) (l : List α) (cap : Nat), cs = [.slice A l.length cap] ∧ l.length ≤ cap ∧ cap ≤ maxLen ∧ (l ≠ [] → ∃ b off, A = some ⟨b, off, none⟩ ∧ ∀ i (h : i < l.length), ∃ c, c.length = sz ∧ K (l[i]'h) c ∧ ∀ j u, c[j]? = some u → W.cell? ⟨b, off + i * sz + j, none⟩ = some u) := by
  rcases open_slice ht h with ⟨rfl, _⟩ | ⟨a, len, cap, m, n, D, Pl, rfl, _, hl, hm, hmm, _, hi⟩
  · exact ⟨none, [], 0, rfl, Nat.le_refl _, Nat.zero_le _, fun x => absurd rfl x⟩
  · rw [hC] at hi
    have hlm : len ≤ m := by rw [hmm]; split <;> omega
    have hex : ∀ i, ∃ x : α, i < len → ∃ c, c.length = sz ∧ K x c ∧ ∀ j u, c[j]? = some u → W.cell? (a.add (i * sz + j)) = some u := by
      intro i
      by_cases hil : i < len
      · obtain ⟨cs', hc, ht'⟩ := hi i (by omega)
        obtain ⟨_, hcl, hat⟩ := World.cells?_some hc
        obtain ⟨x, hx⟩ := hel _ _ _ ht' hcl
        refine ⟨x, fun _ => ⟨cs', hcl, hx, fun j u hj => ?_⟩⟩
        have hj2 : j < sz := by
          have := (List.getElem?_eq_some_iff.1 hj).1
          omega
        rw [← Go.Deep.add_add, hat j hj2, hj]
      · exact ⟨default, fun h' => absurd h' hil⟩
    obtain ⟨f, hfx⟩ := Classical.axiomOfChoice hex
    refine ⟨some a, (List.range len).map f, cap, by simp, by simpa using hl, hm, fun hne => ?_⟩
    have hpos : 0 < len := by
      rcases Nat.eq_zero_or_pos len with h0 | h0
      · subst h0; exact absurd rfl hne
      · exact h0
    have hspot : a.spot = none := by
      obtain ⟨c, hcl, _, hat⟩ := hfx 0 hpos
      have h0 : 0 < c.length := by omega
      have := hat 0 c[0] (List.getElem?_eq_getElem h0)
      rw [show 0 * sz + 0 = 0 by omega, show a.add 0 = a by simp [Addr.add]] at this
      unfold World.cell? at this
      split at this
      · split at this
        · cases this
        · rename_i hs; simpa using hs
      · cases this
    obtain ⟨b, off, spot⟩ := a
    simp only at hspot
    subst hspot
    refine ⟨b, off, rfl, fun i hi => ?_⟩
    have hil : i < len := by simpa using hi
    obtain ⟨c, hcl, hk, hat⟩ := hfx i hil
    refine ⟨c, hcl, by simpa using hk, fun j u hj => ?_⟩
    have := hat j u hj
    have e : ((⟨b, off, none⟩ : Addr).add (i * sz + j)) = ⟨b, off + i * sz + j, none⟩ := by
      unfold Addr.add
      split <;> simp <;> omega
    rw [e] at this
    exact this

instance : Inhabited M := ⟨⟨0, ⟨#[]⟩, ⟨#[]⟩⟩⟩
instance : Inhabited Ex.Nd := ⟨Ex.nd0⟩
set_option maxRecDepth 100000 in
theorem matcher_of {n : Nat} {cs : List Value} {y : DataW H × List MemPlace} (ht : DataW.trod enc Tryz.prog W base sp held n 42 cs = some y) (hl : cs.length = 3) : ∃ x : M, cs = [.int .i64 x.k, .string x.n, .string x.v] := by
  obtain ⟨ys, n', hn', hy, hlen, hyl, hf⟩ := DataW.trod_struct Tryz.underlying42 ht
  match cs, hl, hf with
  | [c0, c1, c2], _, hf =>
    match ys, hyl with
    | [y0, y1, y2], _ =>
      obtain ⟨k, e0, _, _⟩ := DataW.trod_int (k := .i64) (by kernel_rfl) (hf 0 _ rfl)
      obtain ⟨x0, e1, _⟩ := DataW.trod_string (by kernel_rfl) (hf 1 _ rfl)
      obtain ⟨x1, e2, _⟩ := DataW.trod_string (by kernel_rfl) (hf 2 _ rfl)
      have e0' : [c0] = [Value.int .i64 k] := e0
      have e1' : [c1] = [Value.string x0] := e1
      have e2' : [c2] = [Value.string x1] := e2
      simp only [List.cons.injEq, and_true] at e0' e1' e2'
      subst e0' e1' e2'
      exact ⟨⟨k, x0, x1⟩, rfl⟩
set_option maxRecDepth 100000 in
/-- matchers inside a node -/
theorem ms_of {n : Nat} {cs : List Value} {y : DataW H × List MemPlace} (ht : DataW.trod enc Tryz.prog W base sp held n 34 cs = some y) : ∃ (v : Value) (l : List M), cs = [v] ∧ Ms0 W v l ∧ l.length ≤ 9223372036854775807 := by
  obtain ⟨A, l, cap, e, hl, hm, hC⟩ := row_of 3 (by decide) (fun (x : M) cs => cs = [.int .i64 x.k, .string x.n, .string x.v]) (t := 34) (e := 42) Tryz.underlying34 (by kernel_rfl) (fun n cs y h hl => matcher_of h hl) ht
  refine ⟨_, l, e, ⟨A, cap, rfl, hl, fun hne => ?_⟩, by unfold maxLen at hm; omega⟩
  obtain ⟨b, off, ea, hc⟩ := hC hne
  refine ⟨b, off, ea, fun i hi => ?_⟩
  obtain ⟨c, _, rfl, hat⟩ := hc i hi
  exact ⟨hat 0 _ rfl, hat 1 _ rfl, hat 2 _ rfl⟩
set_option maxRecDepth 100000 in
/-- names inside a node -/
theorem ws_of {n : Nat} {cs : List Value} {y : DataW H × List MemPlace} (ht : DataW.trod enc Tryz.prog W base sp held n 35 cs = some y) : ∃ (v : Value) (l : List ByteArray), cs = [v] ∧ Ws0 W v l ∧ l.length ≤ 9223372036854775807 := by
  obtain ⟨A, l, cap, e, hl, hm, hC⟩ := row_of 1 (by decide) (fun (x : ByteArray) cs => cs = [.string x]) (t := 35) (e := 9) Tryz.underlying35 (by kernel_rfl) (fun n cs y h hl => by
    obtain ⟨s, hs, _⟩ := DataW.trod_string (by kernel_rfl) h
    exact ⟨s, hs⟩) ht
  refine ⟨_, l, e, ⟨A, cap, rfl, hl, fun hne => ?_⟩, by unfold maxLen at hm; omega⟩
  obtain ⟨b, off, ea, hc⟩ := hC hne
  refine ⟨b, off, ea, fun i hi => ?_⟩
  obtain ⟨c, _, rfl, hat⟩ := hc i hi
  have := hat 0 _ rfl
  rw [Nat.mul_one, Nat.add_zero] at this
  exact this
theorem u64_in {a : Int} (h : (Lit.int .u64 a).wf = true) : ∃ n : Nat, a = n ∧ n < 18446744073709551616 := by
  have := Go.bounds_u64 h
  obtain ⟨n, rfl⟩ := Int.eq_ofNat_of_zero_le this.1
  exact ⟨n, rfl, by omega⟩
/-- what a node's cells are -/
def NdK (W : World) (n : Ex.Nd) (cs : List Value) : Prop := ∃ sv nv, cs = ndV n sv nv ∧ Ms0 W sv n.sel ∧ Ws0 W nv n.nm ∧ n.v < 18446744073709551616 ∧ n.wd < 18446744073709551616 ∧ n.sel.length ≤ 9223372036854775807 ∧ n.nm.length ≤ 9223372036854775807
set_option maxRecDepth 100000 in
theorem node_of {n : Nat} {cs : List Value} {y : DataW H × List MemPlace} (ht : DataW.trod enc Tryz.prog W base sp held n 37 cs = some y) (hl : cs.length = 8) : ∃ x : Ex.Nd, NdK W x cs := by
  obtain ⟨ys, n', hn', hy, hlen, hyl, hf⟩ := DataW.trod_struct Tryz.underlying37 ht
  match cs, hl, hf with
  | [c0, c1, c2, c3, c4, c5, c6, c7], _, hf =>
    match ys, hyl with
    | [y0, y1, y2, y3, y4, y5, y6, y7], _ =>
      obtain ⟨k, e0, _, _⟩ := DataW.trod_int (k := .i64) (by kernel_rfl) (hf 0 _ rfl)
      obtain ⟨op, e1, _, _⟩ := DataW.trod_int (k := .i64) (by kernel_rfl) (hf 1 _ rfl)
      obtain ⟨v, e2, _, w2⟩ := DataW.trod_int (k := .u64) (by kernel_rfl) (hf 2 _ rfl)
      obtain ⟨wd, e3, _, w3⟩ := DataW.trod_int (k := .u64) (by kernel_rfl) (hf 3 _ rfl)
      obtain ⟨sv, sl, e4, hs, hsl⟩ := ms_of (hf 4 _ rfl)
      obtain ⟨bl, e5, _⟩ := DataW.trod_bool (by kernel_rfl) (hf 5 _ rfl)
      obtain ⟨gb, e6, _⟩ := DataW.trod_bool (by kernel_rfl) (hf 6 _ rfl)
      obtain ⟨nv, nl, e7, hn, hnl⟩ := ws_of (hf 7 _ rfl)
      have e0' : [c0] = [Value.int .i64 k] := e0
      have e1' : [c1] = [Value.int .i64 op] := e1
      have e2' : [c2] = [Value.int .u64 v] := e2
      have e3' : [c3] = [Value.int .u64 wd] := e3
      have e4' : [c4] = [sv] := e4
      have e5' : [c5] = [Value.bool bl] := e5
      have e6' : [c6] = [Value.bool gb] := e6
      have e7' : [c7] = [nv] := e7
      simp only [List.cons.injEq, and_true] at e0' e1' e2' e3' e4' e5' e6' e7'
      obtain ⟨v', rfl, hv⟩ := u64_in w2
      obtain ⟨wd', rfl, hw⟩ := u64_in w3
      subst e0' e1' e2' e3' e4' e5' e6' e7'
      exact ⟨⟨k, op, v', wd', sl, bl, gb, nl⟩, _, _, rfl, hs, hn, hv, hw, hsl, hnl⟩
end
set_option maxRecDepth 100000 in
theorem nodes_in {H : Type} {enc : TypeId × Value → H} {W : World} {v : Value} {d : DataW H} {p : List MemPlace} {b : Nat}
    (hv : Value.okWide Tryz.prog W .any b 22 v) (h : DataW.Trod enc Tryz.prog W 0 (fun _ => true) true 22 v d p) : ∃ l : List Ex.Nd, NdsIn W v l := by
  obtain ⟨a0, len0, cap0, rfl⟩ := okWide_slice Tryz.underlying22 hv
  obtain ⟨fuel, hf⟩ := h
  obtain ⟨A, l, cap, e, hl, hm, hC⟩ := row_of 8 (by decide) (NdK W) (t := 22) (e := 37) Tryz.underlying22 (by kernel_rfl) (fun n cs y h hl => node_of h hl) hf
  simp [Value.cells] at e
  obtain ⟨rfl, rfl, rfl⟩ := e
  refine ⟨l, ⟨_, _, rfl, hl, fun hne => ?_⟩, by unfold maxLen at hm; omega, fun n hn => ?_⟩
  · obtain ⟨b, off, ea, hc⟩ := hC hne
    refine ⟨b, off, ea, fun i hi => ?_⟩
    obtain ⟨c, _, ⟨sv, nv, rfl, hs, hnm, hv, hw, _, _⟩, hat⟩ := hc i hi
    exact ⟨sv, nv, by have := hat 0 _ rfl; rwa [Nat.add_zero] at this, hat 1 _ rfl, hat 2 _ rfl, hat 3 _ rfl, hat 4 _ rfl, hat 5 _ rfl, hat 6 _ rfl, hat 7 _ rfl, hs, hnm, hv, hw⟩
  · obtain ⟨i, hi, rfl⟩ := List.mem_iff_getElem.1 hn
    obtain ⟨b, off, _, hc⟩ := hC (fun e => by rw [e] at hi; simp at hi)
    obtain ⟨c, _, ⟨sv, nv, _, _, _, _, _, h1, h2⟩, _⟩ := hc i hi
    exact ⟨h1, h2⟩
set_option maxRecDepth 100000 in
theorem int_in {H : Type} {enc : TypeId × Value → H} {W : World} {v : Value} {d : DataW H} {p : List MemPlace} {b : Nat}
    (hv : Value.okWide Tryz.prog W .any b 3 v) (h : DataW.Trod enc Tryz.prog W 0 (fun _ => true) true 3 v d p) : ∃ i : Int, v = .int .i64 i ∧ -9223372036854775808 ≤ i ∧ i ≤ 9223372036854775807 := by
  obtain ⟨n, rfl⟩ := okWide_int Tryz.underlying3 hv
  obtain ⟨fuel, hf⟩ := h
  obtain ⟨n', e, _, w⟩ := DataW.trod_int Tryz.underlying3 hf
  simp [Value.cells] at e
  subst e
  have := Go.bounds_i64 w
  exact ⟨n, rfl, by omega, by omega⟩
def wordsD (l : List (List UInt8)) : DataW Unit := .agg (l.map fun x => .lit (.string x))
/-- what each row lays -/
def laidE : List (String × DataW Unit) := [("unicode/utf8.acceptRanges", Lib.acceptData), ("manometer/expr.calls", wordsD Ex.callsT), ("manometer/expr.aggs", wordsD Ex.aggsT), ("manometer/expr.sets", wordsD Ex.setsT), ("manometer/expr.cmps", wordsD Ex.cmpsT), ("manometer/expr.bins", wordsD Ex.binsT), ("unicode/utf8.first", Lib.firstData)]
set_option maxRecDepth 100000 in
theorem wl_laid {W : World} (hL : laidMet Tryz.prog laidE W) : Wl W := by
  have r : ∀ n d, (n, d) ∈ laidE → Lib.VarReads Tryz.prog W n d := fun n d h => Lib.laidMet.reads hL h
  unfold laidE at r
  have hT : Lib.Utf8Tabs 6 7 W := utf8Tabs_of_readsT (ρ := Tryz.laysValid_ren) (U8Types.of196 Tryz.laysValid) ⟨by kernel_rfl, by kernel_rfl, by kernel_rfl, by kernel_rfl, by kernel_rfl, by kernel_rfl, by kernel_rfl⟩ (r _ _ (by simp)) (r _ _ (by simp))
  refine ⟨hT, ⟨?_, ?_, ?_, ?_, ?_⟩, ?_⟩
  · exact tb_of_reads (t := 58) rfl (by kernel_rfl) (by kernel_rfl) (by kernel_rfl) (by kernel_rfl) (r "manometer/expr.calls" (wordsD Ex.callsT) (by simp))
  · exact tb_of_reads (t := 59) rfl (by kernel_rfl) (by kernel_rfl) (by kernel_rfl) (by kernel_rfl) (r "manometer/expr.aggs" (wordsD Ex.aggsT) (by simp))
  · exact tb_of_reads (t := 60) rfl (by kernel_rfl) (by kernel_rfl) (by kernel_rfl) (by kernel_rfl) (r "manometer/expr.sets" (wordsD Ex.setsT) (by simp))
  · exact tb_of_reads (t := 70) rfl (by kernel_rfl) (by kernel_rfl) (by kernel_rfl) (by kernel_rfl) (r "manometer/expr.bins" (wordsD Ex.binsT) (by simp))
  · exact tb_of_reads (t := 59) rfl (by kernel_rfl) (by kernel_rfl) (by kernel_rfl) (by kernel_rfl) (r "manometer/expr.cmps" (wordsD Ex.cmpsT) (by simp))
  · exact World.block_lt_of_cell? W _ (hT.2 0 (by decide)).1
end Rm
end Go.Proofs.YtmbfpichaaanpaaGreatDoor
