import Derived.Test.YtmbfpichaaanpaaGreatDoorX21
import Derived.Test.YtmbfpichaaanpaaGreatDoorX49
import Derived.Deep.Slices
import Derived.Deep.Fields
import Derived.ChangeSame
import Derived.ChangeArms
import Derived.ChangeMaps5
import Derived.Lib.LaidU8T
import Derived.Test.YtmbfpichaaanpaaGreatDoorX48
import Derived.Laws.StructEq
import Derived.Test.YtmbfpichaaanpaaGreatDoorX46
/-! Arguments that are nodes, read; the tables, out of the row's memory. -/
namespace Go.Proofs.YtmbfpichaaanpaaGreatDoor
open Go.ChangeShapes Go.WideShapes Go.Deep Go.RowKit Mt
namespace Rm
theorem tb_of_reads {w : World} {n : String} {g t : Nat} {l : List (List UInt8)} {d : DataW Unit} (hd : d = .agg (l.map fun x => .lit (.string x))) (hg : Tryz.prog.globalNamed n = some g) (hty : (Tryz.prog.globals[g]?).map (·.type) = some t)
    (ht : Tryz.prog.underlying t = some (.array l.length 9)) (hc : Tryz.prog.cellsOf 9 = 1) (h : Lib.VarReads Tryz.prog w n d) : Tb w g l := by
  intro i hi
  obtain ⟨g', t', cs, fuel, p, hg', hty', hvar, hdd⟩ := h
  obtain rfl := Option.some.inj (hg.symm.trans hg')
  obtain rfl := Option.some.inj (hty.symm.trans hty')
  subst hd
  obtain ⟨fuel', d, q, hdi, he⟩ := Lib.array_elem ht hdd i hi
  rw [List.getElem?_map, List.getElem?_eq_getElem hi] at hdi
  simp only [Option.map_some, Option.some.injEq] at hdi
  subst hdi
  rw [hc, Nat.mul_one] at he
  obtain ⟨s, hs, hx⟩ := DataW.trod_string (by kernel_rfl) he
  have hcell := World.var?_cell hg hvar i
  rw [hcell, ← Array.getElem?_toList]
  have e0 := congrArg (·[0]?) hs
  simp only [List.getElem?_take, List.getElem?_drop, List.getElem?_cons_zero, Nat.zero_lt_one, if_true, Nat.add_zero] at e0
  rw [e0]
  simp only [Prod.mk.injEq, DataW.lit.injEq, Lit.string.injEq] at hx
  rw [show l[i] = s.data.toList from by first | exact hx.1 | exact hx.1.1]

section
variable {H : Type} {enc : TypeId × Value → H} {W : World} {base : Nat} {sp : Nat → Bool} {held : Bool}
/-- a row of structs, read -/
theorem row_of {α : Type} [Inhabited α] (sz : Nat) (hsz : 0 < sz) (K : α → List Value → Prop) {t e : TypeId} (ht : Tryz.prog.underlying t = some (.slice e)) (hC : Tryz.prog.cellsOf e = sz)
    (hel : ∀ n cs y, DataW.trod enc Tryz.prog W base sp held n e cs = some y → cs.length = sz → ∃ x : α, K x cs)
    {fuel : Nat} {cs : List Value} {y : DataW H × List MemPlace} (h : DataW.trod enc Tryz.prog W base sp held fuel t cs = some y) :
    ∃ (A : Option Addr) (l : List α) (cap : Nat), cs = [.slice A l.length cap] ∧ l.length ≤ cap ∧ cap ≤ maxLen ∧ (l ≠ [] → ∃ b off, A = some ⟨b, off, none⟩ ∧ ∀ i (h : i < l.length), ∃ c, c.length = sz ∧ K (l[i]'h) c ∧ ∀ j u, c[j]? = some u → W.cell? ⟨b, off + i * sz + j, none⟩ = some u) := by
  rcases open_slice ht h with ⟨rfl, _⟩ | ⟨a, len, cap, m, n, D, Pl, rfl, _, hl, hm, hmm, _, hi⟩
  · exact ⟨none, [], 0, rfl, Nat.le_refl _, Nat.zero_le _, fun x => absurd rfl x⟩
  · rw [hC] at hi
    have hlm : len ≤ m := by rw [hmm]; split <;> omega
    have hex : ∀ i, ∃ x : α, i < len → ∃ c, c.length = sz ∧ K x c ∧ ∀ j u, c[j]? = some u → W.cell? (a.add (i * sz + j)) = some u := by
      intro i
      by_cases hil : i < len
      · obtain ⟨cs', hc, ht'⟩ := hi i (by omega)
        obtain ⟨_, hcl, hat⟩ := World.cells?_some hc
        obtain ⟨x, hx⟩ := hel _ _ _ ht' hcl
        refine ⟨x, fun _ => ⟨cs', hcl, hx, fun j u hj => ?_⟩⟩
        have hj2 : j < sz := by
          have := (List.getElem?_eq_some_iff.1 hj).1
          omega
        rw [← Go.Deep.add_add, hat j hj2, hj]
      · exact ⟨default, fun h' => absurd h' hil⟩
    obtain ⟨f, hfx⟩ := Classical.axiomOfChoice hex
    refine ⟨some a, (List.range len).map f, cap, by simp, by simpa using hl, hm, fun hne => ?_⟩
    have hpos : 0 < len := by
      rcases Nat.eq_zero_or_pos len with h0 | h0
      · subst h0; exact absurd rfl hne
      · exact h0
    have hspot : a.spot = none := by
      obtain ⟨c, hcl, _, hat⟩ := hfx 0 hpos
      have h0 : 0 < c.length := by omega
      have := hat 0 c[0] (List.getElem?_eq_getElem h0)
      rw [show 0 * sz + 0 = 0 by omega, show a.add 0 = a by simp [Addr.add]] at this
      unfold World.cell? at this
      split at this
      · split at this
        · cases this
        · rename_i hs; simpa using hs
      · cases this
    obtain ⟨b, off, spot⟩ := a
    simp only at hspot
    subst hspot
    refine ⟨b, off, rfl, fun i hi => ?_⟩
    have hil : i < len := by simpa using hi
    obtain ⟨c, hcl, hk, hat⟩ := hfx i hil
    refine ⟨c, hcl, by simpa using hk, fun j u hj => ?_⟩
    have := hat j u hj
    have e : ((⟨b, off, none⟩ : Addr).add (i * sz + j)) = ⟨b, off + i * sz + j, none⟩ := by
      unfold Addr.add
      split <;> simp <;> omega
    rw [e] at this
    exact this

instance : Inhabited M := ⟨⟨0, ⟨#[]⟩, ⟨#[]⟩⟩⟩
instance : Inhabited Ex.Nd := ⟨Ex.nd0⟩
set_option maxRecDepth 100000 in
theorem matcher_of {n : Nat} {cs : List Value} {y : DataW H × List MemPlace} (ht : DataW.trod enc Tryz.prog W base sp held n 42 cs = some y) (hl : cs.length = 3) : ∃ x : M, cs = [.int .i64 x.k, .string x.n, .string x.v] := by
  obtain ⟨ys, n', hn', hy, hlen, hyl, hf⟩ := DataW.trod_struct Tryz.underlying42 ht
  match cs, hl, hf with
  | [c0, c1, c2], _, hf =>
    match ys, hyl with
    | [y0, y1, y2], _ =>
      obtain ⟨k, e0, _, _⟩ := DataW.trod_int (k := .i64) (by kernel_rfl) (hf 0 _ rfl)
      obtain ⟨x0, e1, _⟩ := DataW.trod_string (by kernel_rfl) (hf 1 _ rfl)
      obtain ⟨x1, e2, _⟩ := DataW.trod_string (by kernel_rfl) (hf 2 _ rfl)
      have e0' : [c0] = [Value.int .i64 k] := e0
      have e1' : [c1] = [Value.string x0] := e1
      have e2' : [c2] = [Value.string x1] := e2
      simp only [List.cons.injEq, and_true] at e0' e1' e2'
      subst e0' e1' e2'
      exact ⟨⟨k, x0, x1⟩, rfl⟩
set_option maxRecDepth 100000 in
/-- matchers inside a node -/
theorem ms_of {n : Nat} {cs : List Value} {y : DataW H × List MemPlace} (ht : DataW.trod enc Tryz.prog W base sp held n 34 cs = some y) : ∃ (v : Value) (l : List M), cs = [v] ∧ Ms0 W v l ∧ l.length ≤ 9223372036854775807 := by
  obtain ⟨A, l, cap, e, hl, hm, hC⟩ := row_of 3 (by decide) (fun (x : M) cs => cs = [.int .i64 x.k, .string x.n, .string x.v]) (t := 34) (e := 42) Tryz.underlying34 (by kernel_rfl) (fun n cs y h hl => matcher_of h hl) ht
  refine ⟨_, l, e, ⟨A, cap, rfl, hl, fun hne => ?_⟩, by unfold maxLen at hm; omega⟩
  obtain ⟨b, off, ea, hc⟩ := hC hne
  refine ⟨b, off, ea, fun i hi => ?_⟩
  obtain ⟨c, _, rfl, hat⟩ := hc i hi
  exact ⟨hat 0 _ rfl, hat 1 _ rfl, hat 2 _ rfl⟩
set_option maxRecDepth 100000 in
/-- names inside a node -/
theorem ws_of {n : Nat} {cs : List Value} {y : DataW H × List MemPlace} (ht : DataW.trod enc Tryz.prog W base sp held n 35 cs = some y) : ∃ (v : Value) (l : List ByteArray), cs = [v] ∧ Ws0 W v l ∧ l.length ≤ 9223372036854775807 := by
  obtain ⟨A, l, cap, e, hl, hm, hC⟩ := row_of 1 (by decide) (fun (x : ByteArray) cs => cs = [.string x]) (t := 35) (e := 9) Tryz.underlying35 (by kernel_rfl) (fun n cs y h hl => by
    obtain ⟨s, hs, _⟩ := DataW.trod_string (by kernel_rfl) h
    exact ⟨s, hs⟩) ht
  refine ⟨_, l, e, ⟨A, cap, rfl, hl, fun hne => ?_⟩, by unfold maxLen at hm; omega⟩
  obtain ⟨b, off, ea, hc⟩ := hC hne
  refine ⟨b, off, ea, fun i hi => ?_⟩
  obtain ⟨c, _, rfl, hat⟩ := hc i hi
  have := hat 0 _ rfl
  rw [Nat.mul_one, Nat.add_zero] at this
  exact this
theorem u64_in {a : Int} (h : (Lit.int .u64 a).wf = true) : ∃ n : Nat, a = n ∧ n < 18446744073709551616 := by
  have := Go.bounds_u64 h
  obtain ⟨n, rfl⟩ := Int.eq_ofNat_of_zero_le this.1
  exact ⟨n, rfl, by omega⟩
/-- what a node's cells are -/
def NdK (W : World) (n : Ex.Nd) (cs : List Value) : Prop := ∃ sv nv, cs = ndV n sv nv ∧ Ms0 W sv n.sel ∧ Ws0 W nv n.nm ∧ n.v < 18446744073709551616 ∧ n.wd < 18446744073709551616 ∧ n.sel.length ≤ 9223372036854775807 ∧ n.nm.length ≤ 9223372036854775807
set_option maxRecDepth 100000 in
theorem node_of {n : Nat} {cs : List Value} {y : DataW H × List MemPlace} (ht : DataW.trod enc Tryz.prog W base sp held n 37 cs = some y) (hl : cs.length = 8) : ∃ x : Ex.Nd, NdK W x cs := by
  obtain ⟨ys, n', hn', hy, hlen, hyl, hf⟩ := DataW.trod_struct Tryz.underlying37 ht
  match cs, hl, hf with
  | [c0, c1, c2, c3, c4, c5, c6, c7], _, hf =>
    match ys, hyl with
    | [y0, y1, y2, y3, y4, y5, y6, y7], _ =>
      obtain ⟨k, e0, _, _⟩ := DataW.trod_int (k := .i64) (by kernel_rfl) (hf 0 _ rfl)
      obtain ⟨op, e1, _, _⟩ := DataW.trod_int (k := .i64) (by kernel_rfl) (hf 1 _ rfl)
      obtain ⟨v, e2, _, w2⟩ := DataW.trod_int (k := .u64) (by kernel_rfl) (hf 2 _ rfl)
      obtain ⟨wd, e3, _, w3⟩ := DataW.trod_int (k := .u64) (by kernel_rfl) (hf 3 _ rfl)
      obtain ⟨sv, sl, e4, hs, hsl⟩ := ms_of (hf 4 _ rfl)
      obtain ⟨bl, e5, _⟩ := DataW.trod_bool (by kernel_rfl) (hf 5 _ rfl)
      obtain ⟨gb, e6, _⟩ := DataW.trod_bool (by kernel_rfl) (hf 6 _ rfl)
      obtain ⟨nv, nl, e7, hn, hnl⟩ := ws_of (hf 7 _ rfl)
      have e0' : [c0] = [Value.int .i64 k] := e0
      have e1' : [c1] = [Value.int .i64 op] := e1
      have e2' : [c2] = [Value.int .u64 v] := e2
      have e3' : [c3] = [Value.int .u64 wd] := e3
      have e4' : [c4] = [sv] := e4
      have e5' : [c5] = [Value.bool bl] := e5
      have e6' : [c6] = [Value.bool gb] := e6
      have e7' : [c7] = [nv] := e7
      simp only [List.cons.injEq, and_true] at e0' e1' e2' e3' e4' e5' e6' e7'
      obtain ⟨v', rfl, hv⟩ := u64_in w2
      obtain ⟨wd', rfl, hw⟩ := u64_in w3
      subst e0' e1' e2' e3' e4' e5' e6' e7'
      exact ⟨⟨k, op, v', wd', sl, bl, gb, nl⟩, _, _, rfl, hs, hn, hv, hw, hsl, hnl⟩
end
set_option maxRecDepth 100000 in
theorem nodes_in {H : Type} {enc : TypeId × Value → H} {W : World} {v : Value} {d : DataW H} {p : List MemPlace} {b : Nat}
    (hv : Value.okWide Tryz.prog W .any b 22 v) (h : DataW.Trod enc Tryz.prog W 0 (fun _ => true) true 22 v d p) : ∃ l : List Ex.Nd, NdsIn W v l := by
  obtain ⟨a0, len0, cap0, rfl⟩ := okWide_slice Tryz.underlying22 hv
  obtain ⟨fuel, hf⟩ := h
  obtain ⟨A, l, cap, e, hl, hm, hC⟩ := row_of 8 (by decide) (NdK W) (t := 22) (e := 37) Tryz.underlying22 (by kernel_rfl) (fun n cs y h hl => node_of h hl) hf
  simp [Value.cells] at e
  obtain ⟨rfl, rfl, rfl⟩ := e
  refine ⟨l, ⟨_, _, rfl, hl, fun hne => ?_⟩, by unfold maxLen at hm; omega, fun n hn => ?_⟩
  · obtain ⟨b, off, ea, hc⟩ := hC hne
    refine ⟨b, off, ea, fun i hi => ?_⟩
    obtain ⟨c, _, ⟨sv, nv, rfl, hs, hnm, hv, hw, _, _⟩, hat⟩ := hc i hi
    exact ⟨sv, nv, by have := hat 0 _ rfl; rwa [Nat.add_zero] at this, hat 1 _ rfl, hat 2 _ rfl, hat 3 _ rfl, hat 4 _ rfl, hat 5 _ rfl, hat 6 _ rfl, hat 7 _ rfl, hs, hnm, hv, hw⟩
  · obtain ⟨i, hi, rfl⟩ := List.mem_iff_getElem.1 hn
    obtain ⟨b, off, _, hc⟩ := hC (fun e => by rw [e] at hi; simp at hi)
    obtain ⟨c, _, ⟨sv, nv, _, _, _, _, _, h1, h2⟩, _⟩ := hc i hi
    exact ⟨h1, h2⟩
set_option maxRecDepth 100000 in
theorem int_in {H : Type} {enc : TypeId × Value → H} {W : World} {v : Value} {d : DataW H} {p : List MemPlace} {b : Nat}
    (hv : Value.okWide Tryz.prog W .any b 3 v) (h : DataW.Trod enc Tryz.prog W 0 (fun _ => true) true 3 v d p) : ∃ i : Int, v = .int .i64 i ∧ -9223372036854775808 ≤ i ∧ i ≤ 9223372036854775807 := by
  obtain ⟨n, rfl⟩ := okWide_int Tryz.underlying3 hv
  obtain ⟨fuel, hf⟩ := h
  obtain ⟨n', e, _, w⟩ := DataW.trod_int Tryz.underlying3 hf
  simp [Value.cells] at e
  subst e
  have := Go.bounds_i64 w
  exact ⟨n, rfl, by omega, by omega⟩
def wordsD (l : List (List UInt8)) : DataW Unit := .agg (l.map fun x => .lit (.string x))
/-- what each row lays -/
def laidE : List (String × DataW Unit) := [("unicode/utf8.acceptRanges", Lib.acceptData), ("manometer/expr.calls", wordsD Ex.callsT), ("manometer/expr.aggs", wordsD Ex.aggsT), ("manometer/expr.sets", wordsD Ex.setsT), ("manometer/expr.cmps", wordsD Ex.cmpsT), ("manometer/expr.bins", wordsD Ex.binsT), ("unicode/utf8.first", Lib.firstData)]
set_option maxRecDepth 100000 in
theorem wl_laid {W : World} (hL : laidMet Tryz.prog laidE W) : Wl W := by
  have r : ∀ n d, (n, d) ∈ laidE → Lib.VarReads Tryz.prog W n d := fun n d h => Lib.laidMet.reads hL h
  unfold laidE at r
  have hT : Lib.Utf8Tabs 6 7 W := utf8Tabs_of_readsT (ρ := Tryz.laysValid_ren) (U8Types.of196 Tryz.laysValid) ⟨by kernel_rfl, by kernel_rfl, by kernel_rfl, by kernel_rfl, by kernel_rfl, by kernel_rfl, by kernel_rfl⟩ (r _ _ (by simp)) (r _ _ (by simp))
  refine ⟨hT, ⟨?_, ?_, ?_, ?_, ?_⟩, ?_⟩
  · exact tb_of_reads (t := 58) rfl (by kernel_rfl) (by kernel_rfl) (by kernel_rfl) (by kernel_rfl) (r "manometer/expr.calls" (wordsD Ex.callsT) (by simp))
  · exact tb_of_reads (t := 59) rfl (by kernel_rfl) (by kernel_rfl) (by kernel_rfl) (by kernel_rfl) (r "manometer/expr.aggs" (wordsD Ex.aggsT) (by simp))
  · exact tb_of_reads (t := 60) rfl (by kernel_rfl) (by kernel_rfl) (by kernel_rfl) (by kernel_rfl) (r "manometer/expr.sets" (wordsD Ex.setsT) (by simp))
  · exact tb_of_reads (t := 70) rfl (by kernel_rfl) (by kernel_rfl) (by kernel_rfl) (by kernel_rfl) (r "manometer/expr.bins" (wordsD Ex.binsT) (by simp))
  · exact tb_of_reads (t := 59) rfl (by kernel_rfl) (by kernel_rfl) (by kernel_rfl) (by kernel_rfl) (r "manometer/expr.cmps" (wordsD Ex.cmpsT) (by simp))
  · exact World.block_lt_of_cell? W _ (hT.2 0 (by decide)).1
end Rm
end Go.Proofs.YtmbfpichaaanpaaGreatDoor

/-! The reference's sames and words, of equal lists. -/
namespace Go.Proofs.YtmbfpichaaanpaaGreatDoor
open Go.RowKit Ut Rx Mt

theorem bel_drew {B : Nat} {a w : World} (h : Below B a w) (n : Nat) : Below B a (w.drewN n) := h.trans ⟨rfl, rfl, rfl, Nat.le_refl _, fun _ _ => rfl⟩
set_option maxRecDepth 100000 in
set_option maxHeartbeats 4000000 in
theorem samesX_any (l : List M) (va vb : Value) (w : World) (ha : Ms w va l) (hb : Ms w vb l) : Calls Tryz.prog 28 #[va, vb] w (BoB w true) := by
  obtain ⟨A1, c1, rfl, hbig, hc1⟩ := ha
  obtain ⟨A2, c2, rfl, _, hc2⟩ := hb
  have HC1 := Lib.hid hc1
  have HC2 := Lib.hid hc2
  have B0 : Hid (Below w.heap.size w w) := Below.refl _ _
  clear hc1 hc2
  go_enter Tryz.func28, Tryz.ntmps28
  go_wp2_with fail
  go_loopg [13] l.length (fun gk vk wr => ∃ k : Nat, vk = .int .i64 k ∧ k + gk = l.length ∧ Hid (Below w.heap.size w wr))
  case atStart => exact ⟨0, rfl, by omega, B0⟩
  case round =>
    obtain ⟨k, rfl, hk, HB⟩ := hrel
    clear B0
    by_cases hlt : k < l.length
    · obtain ⟨b1, o1, rfl, h1⟩ := HC1.out (fun e => by rw [e] at hlt; simp at hlt)
      obtain ⟨b2, o2, rfl, h2⟩ := HC2.out (fun e => by rw [e] at hlt; simp at hlt)
      obtain ⟨c0', c1', c2'⟩ := h1 k hlt
      obtain ⟨d0', d1', d2'⟩ := h2 k hlt
      have lb1 : b1 < w.heap.size := World.block_lt_of_cell? w _ c0'
      have lb2 : b2 < w.heap.size := World.block_lt_of_cell? w _ d0'
      have c0 := (HB.out.cell (p := ⟨b1, o1 + k * 3, none⟩) lb1).trans c0'
      have c1 := (HB.out.cell (p := ⟨b1, o1 + k * 3 + 1, none⟩) lb1).trans c1'
      have c2 := (HB.out.cell (p := ⟨b1, o1 + k * 3 + 2, none⟩) lb1).trans c2'
      have d0 := (HB.out.cell (p := ⟨b2, o2 + k * 3, none⟩) lb2).trans d0'
      have d1 := (HB.out.cell (p := ⟨b2, o2 + k * 3 + 1, none⟩) lb2).trans d1'
      have d2 := (HB.out.cell (p := ⟨b2, o2 + k * 3 + 2, none⟩) lb2).trans d2'
      have hki : (0 : Int) ≤ k := by omega
      have hkj : (k : Int) < l.length := by omega
      clear h1 h2 c0' c1' c2' d0' d1' d2' HC1 HC2
      generalize (l[k]'hlt) = m1 at *
      obtain ⟨k1, n1, s1⟩ := m1
      simp only at c0 c1 c2 d0 d1 d2
      go_wp2_with fail
      go_quiet (fail)
      all_goals
        go_wp2_with fail
        go_roundg (l.length - (k + 1))
        case measure => omega
        case rel => exact ⟨k + 1, by simp, by omega, bel_drew HB.out _⟩
    · have hkl : k = l.length := by omega
      subst hkl
      go_wp2_with fail
      refine bodyPost_ret (v := .bool true) (by simp [results, Tryz.results28, go_sem]) rfl ⟨rfl, HB.out⟩
set_option maxRecDepth 100000 in
set_option maxHeartbeats 4000000 in
theorem wordsX_any (l : List ByteArray) (va vb : Value) (w : World) (ha : Ws0 w va l) (hb : Ws0 w vb l) (hn : l.length ≤ 1000000) : Calls Tryz.prog 29 #[va, vb] w (BoB w true) := by
  obtain ⟨A1, c1, rfl, _, hc1⟩ := ha
  obtain ⟨A2, c2, rfl, _, hc2⟩ := hb
  have HC1 := Lib.hid hc1
  have HC2 := Lib.hid hc2
  have B0 : Hid (Below w.heap.size w w) := Below.refl _ _
  clear hc1 hc2
  go_enter Tryz.func29, Tryz.ntmps29
  go_wp2_with fail
  go_loopg [13] l.length (fun gk vk wr => ∃ k : Nat, vk = .int .i64 k ∧ k + gk = l.length ∧ Hid (Below w.heap.size w wr))
  case atStart => exact ⟨0, rfl, by omega, B0⟩
  case round =>
    obtain ⟨k, rfl, hk, HB⟩ := hrel
    clear B0
    by_cases hlt : k < l.length
    · obtain ⟨b1, o1, rfl, h1⟩ := HC1.out (fun e => by rw [e] at hlt; simp at hlt)
      obtain ⟨b2, o2, rfl, h2⟩ := HC2.out (fun e => by rw [e] at hlt; simp at hlt)
      have c0' := h1 k hlt
      have d0' := h2 k hlt
      have lb1 : b1 < w.heap.size := World.block_lt_of_cell? w _ c0'
      have lb2 : b2 < w.heap.size := World.block_lt_of_cell? w _ d0'
      have c0 := (HB.out.cell (p := ⟨b1, o1 + k, none⟩) lb1).trans c0'
      have d0 := (HB.out.cell (p := ⟨b2, o2 + k, none⟩) lb2).trans d0'
      have hki : (0 : Int) ≤ k := by omega
      have hkj : (k : Int) < l.length := by omega
      clear h1 h2 c0' d0' HC1 HC2
      generalize (l[k]'hlt) = s1 at *
      go_wp2_with fail
      go_quiet (fail)
      all_goals
        go_wp2_with fail
        go_roundg (l.length - (k + 1))
        case measure => omega
        case rel => exact ⟨k + 1, by simp, by omega, bel_drew HB.out _⟩
    · have hkl : k = l.length := by omega
      subst hkl
      go_wp2_with fail
      refine bodyPost_ret (v := .bool true) (by simp [results, Tryz.results29, go_sem]) rfl ⟨rfl, HB.out⟩
end Go.Proofs.YtmbfpichaaanpaaGreatDoor

/-! The reference's Same, of equal lists. -/
namespace Go.Proofs.YtmbfpichaaanpaaGreatDoor
open Go.RowKit Ut Rx Mt

theorem Ms0.ms2 {w : World} {v : Value} {l : List M} (h : Ms0 w v l) (hl : l.length ≤ 1000000) : Ms w v l := by
  obtain ⟨A, c, e, _, hc⟩ := h
  exact ⟨A, c, e, by omega, hc⟩
set_option maxRecDepth 100000 in
set_option maxHeartbeats 8000000 in
theorem sameX_any (l : List Ex.Nd) (va vb : Value) (w : World) (ha : Es0 w va l) (hb : Es0 w vb l) (hn : l.length ≤ 1000000) (hz : ∀ n ∈ l, n.sel.length ≤ 1000000 ∧ n.nm.length ≤ 1000000) : Calls Tryz.prog 13 #[va, vb] w (BoB w true) := by
  obtain ⟨A1, c1, rfl, _, hc1⟩ := ha
  obtain ⟨A2, c2, rfl, _, hc2⟩ := hb
  have HC1 := Lib.hid hc1
  have HC2 := Lib.hid hc2
  have HZ := Lib.hid hz
  have B0 : Hid (Below w.heap.size w w) := Below.refl _ _
  clear hc1 hc2 hz
  go_enter Tryz.func13, Tryz.ntmps13
  go_wp2_with fail
  go_loopg [15] l.length (fun gk vk wr => ∃ k : Nat, vk = .int .i64 k ∧ k + gk = l.length ∧ Hid (Below w.heap.size w wr))
  case atStart => exact ⟨0, rfl, by omega, B0⟩
  case round =>
    obtain ⟨k, rfl, hk, HB⟩ := hrel
    clear B0
    by_cases hlt : k < l.length
    · obtain ⟨b1, o1, rfl, h1⟩ := HC1.out (fun e => by rw [e] at hlt; simp at hlt)
      obtain ⟨b2, o2, rfl, h2⟩ := HC2.out (fun e => by rw [e] at hlt; simp at hlt)
      obtain ⟨sv1, nv1, n01⟩ := h1 k hlt
      obtain ⟨sv2, nv2, n02⟩ := h2 k hlt
      have n1 := n01.below HB.out
      have n2 := n02.below HB.out
      have hzn := HZ.out _ (List.getElem_mem hlt)
      have hki : (0 : Int) ≤ k := by omega
      have hkj : (k : Int) < l.length := by omega
      clear h1 h2 n01 n02 HC1 HC2
      generalize (l[k]'hlt) = n at *
      obtain ⟨As1, cs1, rfl, _, _⟩ := id n1.sel
      obtain ⟨As2, cs2, rfl, _, _⟩ := id n2.sel
      obtain ⟨An1, cn1, rfl, _, _⟩ := id n1.nm
      obtain ⟨An2, cn2, rfl, _, _⟩ := id n2.nm
      have S1 := Lib.hid n1.sel
      have S2 := Lib.hid n2.sel
      have N1 := Lib.hid n1.nm
      have N2 := Lib.hid n2.nm
      have HZN := Lib.hid hzn
      obtain ⟨e0, e1, e2, e3, e4, e5, e6, e7⟩ : _ ∧ _ ∧ _ ∧ _ ∧ _ ∧ _ ∧ _ ∧ _ := ⟨n1.c0, n1.c1, n1.c2, n1.c3, n1.c4, n1.c5, n1.c6, n1.c7⟩
      have Q2 := Lib.hid n2
      clear n1 n2 hzn
      go_upto_region 6 with fail
      obtain ⟨W1, hW1⟩ : ∃ x, x = bxW wr n (.slice As1 n.sel.length cs1) (.slice An1 n.nm.length cn1) := ⟨_, rfl⟩
      have bx := bx_facts (w := wr) n (.slice As1 n.sel.length cs1) (.slice An1 n.nm.length cn1)
      rw [← hW1] at bx
      have B1 := Lib.hid (HB.out.trans (bx.1.mono HB.out.size))
      have BX := Lib.hid bx.1
      have HN1 := Lib.hid bx.2
      obtain ⟨x1, hx1⟩ : ∃ n, n = wr.heap.size := ⟨_, rfl⟩
      unfold bxW at hW1
      rw [← hW1, ← hx1]
      rw [← hx1] at HN1
      have hx1lt : Hid (x1 < W1.heap.size) := by
        show _ < _
        have : W1.heap.size = wr.heap.size + 1 := by rw [hW1]; simp
        omega
      obtain ⟨f0, f1, f2, f3, f4, f5, f6, f7⟩ : _ ∧ _ ∧ _ ∧ _ ∧ _ ∧ _ ∧ _ ∧ _ := by
        have q := Q2.out.below BX.out
        exact ⟨q.c0, q.c1, q.c2, q.c3, q.c4, q.c5, q.c6, q.c7⟩
      clear hW1 hx1 bx e0 e1 e2 e3 e4 e5 e6 e7
      go_upto_region 7 with fail
      obtain ⟨W2, hW2⟩ : ∃ x, x = bxW W1 n (.slice As2 n.sel.length cs2) (.slice An2 n.nm.length cn2) := ⟨_, rfl⟩
      have bx := bx_facts (w := W1) n (.slice As2 n.sel.length cs2) (.slice An2 n.nm.length cn2)
      rw [← hW2] at bx
      have B2 := Lib.hid (B1.out.trans (bx.1.mono B1.out.size))
      have BY := Lib.hid (BX.out.trans (bx.1.mono BX.out.size))
      have HN1' : Hid (W2.heap[x1]? = some (ndB n (.slice As1 n.sel.length cs1) (.slice An1 n.nm.length cn1))) := (bx.1.block x1 hx1lt.out).trans HN1.out
      obtain ⟨⟨d0, d1, d2, d3, d4, d5, d6, d7⟩, _⟩ := ndB_cells bx.2
      obtain ⟨⟨g0, g1, g2, g3, g4, g5, g6, g7⟩, _⟩ := ndB_cells HN1'.out
      obtain ⟨x2, hx2⟩ : ∃ n, n = W1.heap.size := ⟨_, rfl⟩
      unfold bxW at hW2
      rw [← hW2, ← hx2]
      rw [← hx2] at d0 d1 d2 d3 d4 d5 d6 d7
      clear hW2 hx2 bx f0 f1 f2 f3 f4 f5 f6 f7 HN1 hx1lt
      have SS := Lib.hid (samesX_any n.sel _ _ W2 ((S1.out.below BY.out).ms2 HZN.out.1) ((S2.out.below BY.out).ms2 HZN.out.1))
      have NN := Lib.hid (fun w' (b' : Below W2.heap.size W2 w') => wordsX_any n.nm _ _ w' (((N1.out.below BY.out).below b')) (((N2.out.below BY.out).below b')) HZN.out.2)
      have KK : Hid (∀ w' : World, Below W2.heap.size W2 w' → w'.cell? ⟨x1, 7, none⟩ = some (.slice An1 n.nm.length cn1) ∧ w'.cell? ⟨x2, 7, none⟩ = some (.slice An2 n.nm.length cn2)) := fun w' b' => ⟨(b'.cell (World.block_lt_of_cell? W2 _ g7)).trans g7, (b'.cell (World.block_lt_of_cell? W2 _ d7)).trans d7⟩
      go_wp2_with fail
      refine SS.out.mono ?_
      rintro e w3 ⟨rfl, b3⟩
      obtain ⟨q1, q2⟩ := KK.out w3 b3
      have NN3 := Lib.hid (NN.out w3 b3)
      have B3 := Lib.hid (B2.out.trans (b3.mono B2.out.size))
      go_wp2_with fail
      refine NN3.out.mono ?_
      rintro e w4 ⟨rfl, b4⟩
      have B4 := Lib.hid (B3.out.trans (b4.mono B3.out.size))
      go_wp2_with fail
      go_roundg (l.length - (k + 1))
      case measure => omega
      case rel => exact ⟨k + 1, by simp, by omega, B4⟩
    · have hkl : k = l.length := by omega
      subst hkl
      go_wp2_with fail
      refine bodyPost_ret (v := .bool true) (by simp [results, Tryz.results13, go_sem]) rfl ⟨rfl, HB.out⟩
end Go.Proofs.YtmbfpichaaanpaaGreatDoor

/-! Right matchers are got again of their text, plainly. -/
namespace Go.Proofs.YtmbfpichaaanpaaGreatDoor
open Ut Rx Mt

theorem unq_quo : ∀ (v rest : List UInt8), unqF (quoGo v ++ rest) = .ok (v, rest)
  | [], rest => by
    show unqF (34 :: rest) = _
    exact unq_34 rfl
  | c :: t, rest => by
    have ih := unq_quo t rest
    unfold quoGo
    by_cases h1 : (c == 34 || c == 92) = true
    · rw [if_pos h1]
      show unqF (92 :: c :: (quoGo t ++ rest)) = _
      rw [unq_esc (by decide) (by decide) (by decide) h1, ih, consF]
    · rw [if_neg h1]
      simp only [Bool.or_eq_true, not_or] at h1
      by_cases h2 : (c == 10) = true
      · rw [if_pos h2]
        show unqF (92 :: 110 :: (quoGo t ++ rest)) = _
        rw [unq_n (by decide) (by decide) (by decide) (by decide) (by decide), ih]
        have : c = 10 := by simpa using h2
        subst this; rfl
      · rw [if_neg h2]
        show unqF (c :: (quoGo t ++ rest)) = _
        rw [unq_one h1.1 h2 h1.2, ih, consF]
theorem unquote_quote (v rest : List UInt8) : unquoteF (quoteF v ++ rest) = .ok (v, rest) := unq_quo v rest

/-- a name's letters -/
theorem named_letters {l : List UInt8} (h : namedF l = true) : l ≠ [] ∧ (∀ b ∈ l, letU b = true) ∧ headDig l = false := by
  unfold namedF at h
  simp only [Bool.and_eq_true, decide_eq_true_eq, List.all_eq_true] at h
  obtain ⟨⟨⟨h1, _⟩, h3⟩, h4⟩ := h
  refine ⟨fun e => by subst e; simp at h1, h3, ?_⟩
  cases l with
  | nil => rfl
  | cons c t =>
    simp only [List.getD_cons_zero] at h4
    unfold headDig digU
    unfold firB at h4
    simp only [Bool.or_eq_true, Bool.and_eq_true, decide_eq_true_eq] at h4
    simp only [Bool.and_eq_false_iff, decide_eq_false_iff_not]
    omega
theorem take_letters : ∀ (l r : List UInt8), (∀ b ∈ l, letU b = true) → (∀ c ∈ r.head?, letU c = false) → (l ++ r).takeWhile letU = l ∧ (l ++ r).dropWhile letU = r
  | [], r, _, hr => by
    cases r with
    | nil => exact ⟨rfl, rfl⟩
    | cons c t =>
      have hc := hr c rfl
      simp [hc]
  | b :: t, r, h, hr => by
    have hb := h b (by simp)
    obtain ⟨h1, h2⟩ := take_letters t r (fun x hx => h x (List.mem_cons_of_mem _ hx)) hr
    simp only [List.cons_append, List.takeWhile_cons, List.dropWhile_cons, hb, if_true]
    exact ⟨by rw [h1], h2⟩
theorem letU_vals {c : UInt8} (h : letU c = true) : c ≠ 32 ∧ c ≠ 125 ∧ c ≠ 123 ∧ c ≠ 44 := by
  refine ⟨?_, ?_, ?_, ?_⟩ <;> (rintro rfl; revert h; decide)
theorem bare_let {c : UInt8} {t : List UInt8} (h : letU c = true) : bareF (c :: t) = c :: t := bare_no (letU_vals h).1
theorem eat1_no {p c : UInt8} {t : List UInt8} (h : c ≠ p) : eatF [p] (c :: t) = none := eat_no (by simpa using h)
theorem eat1_yes (p : UInt8) (t : List UInt8) : eatF [p] (p :: t) = some t := eat_yes rfl

theorem sign_at {k : Int} (h1 : 1 ≤ k) (h4 : k ≤ 4) (z : List UInt8) : signP (signT k ++ 34 :: z) = (k, 34 :: z) ∧ bareF (signT k ++ 34 :: z) = signT k ++ 34 :: z ∧ (∀ c ∈ (signT k ++ 34 :: z).head?, letU c = false) := by
  have hk : k = 1 ∨ k = 2 ∨ k = 3 ∨ k = 4 := by omega
  rcases hk with rfl | rfl | rfl | rfl
  all_goals
    refine ⟨rfl, rfl, ?_⟩
    intro c hc
    cases hc
    decide

/-- a matcher that is printed is read -/
theorem one_told {m : M} {rest : List UInt8} (hn : namedF (by_ m.n) = true) (h1 : 1 ≤ m.k) (h4 : m.k ≤ 4) (hr : bareF rest = rest) :
    oneP (by_ m.n ++ signT m.k ++ quoteF (by_ m.v) ++ rest) = some (m, rest) := by
  obtain ⟨hne, hl, _⟩ := named_letters hn
  obtain ⟨s1, s2, s3⟩ := sign_at h1 h4 (quoGo (by_ m.v) ++ rest)
  have e : by_ m.n ++ signT m.k ++ quoteF (by_ m.v) ++ rest = by_ m.n ++ (signT m.k ++ 34 :: (quoGo (by_ m.v) ++ rest)) := by simp [quoteF]
  rw [e]
  obtain ⟨t1, t2⟩ := take_letters (by_ m.n) _ hl s3
  have b : bareF (34 :: (quoGo (by_ m.v) ++ rest)) = 34 :: (quoGo (by_ m.v) ++ rest) := rfl
  unfold oneP
  rw [t1, t2, s2, s1]
  simp only
  rw [b, show unquoteF (34 :: (quoGo (by_ m.v) ++ rest)) = .ok (by_ m.v, rest) from unquote_quote (by_ m.v) rest]
  simp only
  rw [if_neg (by rintro (h | h); · exact hne h
                 · omega), hr]
theorem braces_told : ∀ (l : List M) (n : Nat), l.length + 1 ≤ n → (∀ m ∈ l, namedF (by_ m.n) = true ∧ 1 ≤ m.k ∧ m.k ≤ 4) → allP n (braGo true l) = some (l, [])
  | l, 0, hn, _ => by omega
  | [], n + 1, _, _ => rfl
  | m :: t, n + 1, hn, h => by
    obtain ⟨hm, h1, h4⟩ := h m (by simp)
    have ht : ∀ m ∈ t, namedF (by_ m.n) = true ∧ 1 ≤ m.k ∧ m.k ≤ 4 := fun x hx => h x (List.mem_cons_of_mem _ hx)
    have ih := braces_told t n (by simpa using hn) ht
    obtain ⟨hne, hl, _⟩ := named_letters hm
    have hbra : braGo true (m :: t) = by_ m.n ++ signT m.k ++ quoteF (by_ m.v) ++ braGo false t := by simp [braGo]
    have hr : bareF (braGo false t) = braGo false t := by cases t <;> rfl
    have e1 : eatF [125] (braGo true (m :: t)) = none := by
      rw [hbra]
      cases hq : by_ m.n with
      | nil => exact absurd hq hne
      | cons c u =>
        rw [hq] at hl
        exact eat1_no (letU_vals (hl c (by simp))).2.1
    rw [allP, e1]
    simp only
    rw [hbra, one_told hm h1 h4 hr]
    simp only
    cases t with
    | nil =>
      show (match eatF [44] [125] with
        | some r2 => consO m (allP n (bareF r2))
        | none => if ([125] : List UInt8).head? = some 125 then consO m (allP n [125]) else none) = _
      rw [show eatF [44] ([125] : List UInt8) = none from rfl]
      simp only [List.head?_cons, if_true]
      rw [show allP n [125] = some ([], []) from ih]; rfl
    | cons m2 t2 =>
      have hb2 : braGo false (m2 :: t2) = 44 :: 32 :: braGo true (m2 :: t2) := by simp [braGo]
      rw [hb2, eat1_yes]
      simp only
      have hb3 : bareF (32 :: braGo true (m2 :: t2)) = braGo true (m2 :: t2) := by
        rw [bare_yes rfl]
        obtain ⟨hm2, _, _⟩ := ht m2 (by simp)
        obtain ⟨hne2, hl2, _⟩ := named_letters hm2
        have : braGo true (m2 :: t2) = by_ m2.n ++ (signT m2.k ++ quoteF (by_ m2.v) ++ braGo false t2) := by simp [braGo]
        rw [this]
        cases hq : by_ m2.n with
        | nil => exact absurd hq hne2
        | cons c u =>
          rw [hq] at hl2
          exact bare_let (hl2 c (by simp))
      rw [hb3, ih]; rfl

theorem braGo_pos : ∀ (l : List M), (∀ m ∈ l, by_ m.n ≠ []) → l.length + 1 ≤ (braGo true l).length
  | [], _ => by simp [braGo]
  | m :: t, h => by
    have h1 := List.length_pos_iff.2 (h m (by simp))
    have h2 : t.length + 1 ≤ (braGo false t).length := by
      cases t with
      | nil => simp [braGo]
      | cons m2 t2 =>
        have := braGo_pos (m2 :: t2) fun x hx => h x (List.mem_cons_of_mem _ hx)
        have hb2 : braGo false (m2 :: t2) = 44 :: 32 :: braGo true (m2 :: t2) := by simp [braGo]
        rw [hb2]
        simp only [List.length_cons] at *
        omega
    have hbra : braGo true (m :: t) = by_ m.n ++ signT m.k ++ quoteF (by_ m.v) ++ braGo false t := by simp [braGo]
    rw [hbra]
    simp only [List.length_append, List.length_cons] at *
    omega

theorem checkF_named {k : Int} {n v : ByteArray} (h : checkF ⟨k, n, v⟩ = 0) : namedF (by_ n) = true := by
  cases hn : namedF (by_ n) with
  | true => rfl
  | false =>
    exfalso
    obtain ⟨h1, h4, _⟩ := checkF_ok h
    unfold checkF at h
    rw [if_neg (by simp; omega), hn] at h
    simp at h

theorem told {l : List M} (hr : rightF l = 0) : parseP (printF l) = .ok l := by
  have hall : ∀ m ∈ l, namedF (by_ m.n) = true ∧ 1 ≤ m.k ∧ m.k ≤ 4 := fun m hm => by
    have h := right_ok hr m hm
    obtain ⟨k, n, v⟩ := m
    obtain ⟨h1, h4, _⟩ := checkF_ok h
    exact ⟨checkF_named h, h1, h4⟩
  have bodyB : ∀ (nm : List UInt8) (t : List M), (∀ m ∈ t, namedF (by_ m.n) = true ∧ 1 ≤ m.k ∧ m.k ≤ 4) → rightF (baseP nm ++ t) = 0 → bodyP nm (bracesF t) = .ok (baseP nm ++ t) := fun nm t ht h0 => by
    have hb : bareF (braGo true t) = braGo true t := by
      cases t with
      | nil => rfl
      | cons m u =>
        obtain ⟨hm, _, _⟩ := ht m (by simp)
        obtain ⟨hne, hl, _⟩ := named_letters hm
        have : braGo true (m :: u) = by_ m.n ++ (signT m.k ++ quoteF (by_ m.v) ++ braGo false u) := by simp [braGo]
        rw [this]
        cases hq : by_ m.n with
        | nil => exact absurd hq hne
        | cons c z =>
          rw [hq] at hl
          exact bare_let (hl c (by simp))
    unfold bodyP bracesF
    rw [eat1_yes]
    simp only
    rw [hb, braces_told t _ (by have := braGo_pos t (fun m hm => (named_letters (ht m hm).1).1); omega) ht]
    simp only
    unfold tailP
    rw [if_pos (show bareF [] = [] from rfl), if_pos h0]
  have whole : printF l = bracesF l → parseP (printF l) = .ok l := fun e => by
    rw [e]
    unfold parseP
    have b0 : bareF (bracesF l) = bracesF l := rfl
    have t0 : (bracesF l).takeWhile letU = [] := rfl
    have d0 : (bracesF l).dropWhile letU = bracesF l := rfl
    rw [b0, t0, d0, b0, if_neg (by decide)]
    have := bodyB [] l hall (by show rightF ([] ++ l) = 0; exact hr)
    exact this
  cases l with
  | nil => exact whole rfl
  | cons m t =>
    by_cases hh : headB m = true
    · have hh2 := hh
      unfold headB at hh2
      simp only [Bool.and_eq_true, decide_eq_true_eq] at hh2
      obtain ⟨⟨hk, hn⟩, hv⟩ := hh2
      obtain ⟨hne, hl, hd⟩ := named_letters hv
      have ht : ∀ m ∈ t, namedF (by_ m.n) = true ∧ 1 ≤ m.k ∧ m.k ≤ 4 := fun x hx => hall x (List.mem_cons_of_mem _ hx)
      have hm : baseP (by_ m.v) = [m] := by
        unfold baseP
        rw [if_neg hne]
        obtain ⟨k, n, v⟩ := m
        simp only at hk hn
        subst hk
        rw [show n = ⟨nameL.toArray⟩ from by_inj (by rw [hn])]
      have fir : ∀ r, bareF (by_ m.v ++ r) = by_ m.v ++ r := fun r => by
        cases hq : by_ m.v with
        | nil => exact absurd hq hne
        | cons c z => rw [hq] at hl; exact bare_let (hl c (by simp))
      have go : ∀ r, (∀ c ∈ r.head?, letU c = false) → parseP (by_ m.v ++ r) = bodyP (by_ m.v) (bareF r) := fun r hr' => by
        obtain ⟨t1, t2⟩ := take_letters (by_ m.v) r hl hr'
        unfold parseP
        rw [fir, t1, t2, hd]
        rfl
      by_cases h0 : t = []
      · subst h0
        have e : printF [m] = by_ m.v ++ [] := by unfold printF; simp [hh]
        rw [e, go [] (by simp)]
        unfold bodyP
        rw [show eatF [123] (bareF []) = none from rfl]
        simp only
        rw [if_neg hne, hm]
        unfold tailP
        rw [if_pos (show bareF (bareF []) = [] from rfl), if_pos hr]
      · have e : printF (m :: t) = by_ m.v ++ bracesF t := by unfold printF; simp [hh, h0]
        rw [e, go (bracesF t) (by intro c hc; cases hc; decide)]
        have := bodyB (by_ m.v) t ht (by rw [hm]; exact hr)
        rw [hm] at this
        exact this
    · exact whole (by unfold printF; simp only; rw [if_neg hh])
end Go.Proofs.YtmbfpichaaanpaaGreatDoor

/-! What is printed is read: selectors. No program in sight. -/
namespace Go.Proofs.YtmbfpichaaanpaaGreatDoor
open Ut Rx Mt Go.Lib

/-- matchers that are right -/
theorem right_all {l : List M} (hr : rightF l = 0) : ∀ m ∈ l, namedF (by_ m.n) = true ∧ 1 ≤ m.k ∧ m.k ≤ 4 := fun m hm => by
  have h := right_ok hr m hm
  obtain ⟨k, n, v⟩ := m
  obtain ⟨h1, h4, _⟩ := checkF_ok h
  exact ⟨checkF_named h, h1, h4⟩
theorem told_braces {l : List M} (hr : rightF l = 0) : parseP (bracesF l) = .ok l := by
  have hall := right_all hr
  have hb : bareF (braGo true l) = braGo true l := by
    cases l with
    | nil => rfl
    | cons m u =>
      obtain ⟨hm, _, _⟩ := hall m (by simp)
      obtain ⟨hne, hl, _⟩ := named_letters hm
      have : braGo true (m :: u) = by_ m.n ++ (signT m.k ++ quoteF (by_ m.v) ++ braGo false u) := by simp [braGo]
      rw [this]
      cases hq : by_ m.n with
      | nil => exact absurd hq hne
      | cons c z =>
        rw [hq] at hl
        exact bare_let (hl c (by simp))
  unfold parseP
  have b0 : bareF (bracesF l) = bracesF l := rfl
  have t0 : (bracesF l).takeWhile letU = [] := rfl
  have d0 : (bracesF l).dropWhile letU = bracesF l := rfl
  rw [b0, t0, d0, b0, if_neg (by decide)]
  unfold bodyP bracesF
  rw [eat1_yes]
  simp only
  rw [hb, braces_told l _ (by have := braGo_pos l (fun m hm => (named_letters (hall m hm).1).1); omega) hall]
  simp only
  unfold tailP
  rw [if_pos (show bareF [] = [] from rfl), if_pos (show rightF (baseP [] ++ l) = 0 from hr)]
  rfl

/-! ### the end of braces -/
theorem scan_one {n : Nat} {c : UInt8} {t : List UInt8} (h1 : c ≠ 125) (h2 : c ≠ 34) : Ex.scanF (n + 1) (c :: t) = (Ex.scanF n t).map (· + 1) := by
  rw [Ex.scanF, if_neg h1, if_neg h2]
theorem scan_some : ∀ (a t : List UInt8) (n k : Nat), (∀ c ∈ a, c ≠ 125 ∧ c ≠ 34) → Ex.scanF n t = some k → Ex.scanF (n + a.length) (a ++ t) = some (k + a.length)
  | [], t, n, k, _, h => h
  | c :: a, t, n, k, ha, h => by
    have ih := scan_some a t n k (fun x hx => ha x (List.mem_cons_of_mem _ hx)) h
    have hc := ha c (List.mem_cons_self ..)
    rw [List.length_cons, show n + (a.length + 1) = (n + a.length) + 1 from by omega, List.cons_append, scan_one hc.1 hc.2, ih]
    simp only [Option.map_some, Option.some.injEq]
    omega
theorem scan_quote {n k : Nat} {v t : List UInt8} (h : Ex.scanF n t = some k) : Ex.scanF (n + 1) (quoteF v ++ t) = some (k + (quoteF v).length) := by
  have e : quoteF v ++ t = 34 :: (quoGo v ++ t) := rfl
  rw [e, Ex.scanF, if_neg (by decide), if_pos rfl, unq_quo v t]
  simp only
  rw [h]
  simp only [Option.map_some, Option.some.injEq, List.length_cons, List.length_append]
  show k + ((quoGo v).length + t.length + 1 - t.length) = k + ((quoGo v).length + 1)
  omega
theorem scan_mono : ∀ (n : Nat) (t : List UInt8) (k : Nat), Ex.scanF n t = some k → Ex.scanF (n + 1) t = some k
  | 0, t, k, h => by rw [Ex.scanF] at h; cases h
  | n + 1, [], k, h => by rw [Ex.scanF] at h; cases h
  | n + 1, c :: t, k, h => by
    rw [Ex.scanF] at h ⊢
    split at h
    · rename_i h1; rw [if_pos h1]; exact h
    · rename_i h1
      rw [if_neg h1]
      split at h
      · rename_i h2
        rw [if_pos h2]
        cases hu : unqF t with
        | ok x =>
          rw [hu] at h
          obtain ⟨y, hy, e⟩ := Option.map_eq_some_iff.1 h
          simp only
          rw [scan_mono n _ y hy]
          simp only [Option.map_some, Option.some.injEq]
          exact e
        | error x => rw [hu] at h; cases h
      · rename_i h2
        rw [if_neg h2]
        obtain ⟨y, hy, e⟩ := Option.map_eq_some_iff.1 h
        rw [scan_mono n _ y hy]
        simp only [Option.map_some, Option.some.injEq]
        exact e
theorem scan_le {n m k : Nat} {t : List UInt8} (h : n ≤ m) (hs : Ex.scanF n t = some k) : Ex.scanF m t = some k := by
  induction m with
  | zero => obtain rfl : n = 0 := by omega
            exact hs
  | succ m ih =>
    by_cases e : n = m + 1
    · subst e; exact hs
    · exact scan_mono m t k (ih (by omega))
theorem letU_scan {c : UInt8} (h : letU c = true) : c ≠ 125 ∧ c ≠ 34 := by
  refine ⟨?_, ?_⟩ <;> (rintro rfl; revert h; decide)
theorem signT_scan (k : Int) : ∀ c ∈ signT k, c ≠ 125 ∧ c ≠ 34 := by
  unfold signT
  intro c hc
  repeat' (split at hc)
  all_goals
    simp only [List.mem_cons, List.not_mem_nil, or_false] at hc
    first
      | (rcases hc with rfl | rfl <;> decide)
      | (subst hc; decide)
theorem scan_bra : ∀ (l : List M) (b : Bool) (rest : List UInt8), (∀ m ∈ l, namedF (by_ m.n) = true) → ∃ n, n ≤ (braGo b l).length ∧ Ex.scanF n (braGo b l ++ rest) = some (braGo b l).length
  | [], b, rest, _ => ⟨1, by simp [braGo], by
    rw [show braGo b [] ++ rest = 125 :: rest from by cases b <;> rfl, Ex.scanF, if_pos rfl]
    cases b <;> rfl⟩
  | m :: t, b, rest, h => by
    obtain ⟨n, hn, hs⟩ := scan_bra t false rest (fun x hx => h x (List.mem_cons_of_mem _ hx))
    obtain ⟨hne, hl, _⟩ := named_letters (h m (List.mem_cons_self ..))
    have hq := scan_quote (v := by_ m.v) hs
    have hpre : ∀ c ∈ (if b then ([] : List UInt8) else [44, 32]) ++ (by_ m.n ++ signT m.k), c ≠ 125 ∧ c ≠ 34 := by
      intro c hc
      rcases List.mem_append.1 hc with hc | hc
      · cases b
        · simp only [Bool.false_eq_true, if_false, List.mem_cons, List.not_mem_nil, or_false] at hc
          rcases hc with rfl | rfl <;> decide
        · simp at hc
      · rcases List.mem_append.1 hc with hc | hc
        · exact letU_scan (hl c hc)
        · exact signT_scan m.k c hc
    have := scan_some _ _ _ _ hpre hq
    have e : (if b then ([] : List UInt8) else [44, 32]) ++ (by_ m.n ++ signT m.k) ++ (quoteF (by_ m.v) ++ (braGo false t ++ rest)) = braGo b (m :: t) ++ rest := by
      simp [braGo]
    have e2 : braGo b (m :: t) = (if b then ([] : List UInt8) else [44, 32]) ++ (by_ m.n ++ signT m.k) ++ (quoteF (by_ m.v) ++ braGo false t) := by simp [braGo]
    rw [e] at this
    refine ⟨n + 1 + ((if b then ([] : List UInt8) else [44, 32]) ++ (by_ m.n ++ signT m.k)).length, ?_, ?_⟩
    · rw [e2]
      have h1 : 1 ≤ (quoteF (by_ m.v)).length := by show 1 ≤ (34 :: quoGo (by_ m.v)).length; simp
      generalize (if b then ([] : List UInt8) else [44, 32]) ++ (by_ m.n ++ signT m.k) = pr
      simp only [List.length_append]
      omega
    · rw [this, e2]
      generalize (if b then ([] : List UInt8) else [44, 32]) ++ (by_ m.n ++ signT m.k) = pr
      simp only [List.length_append, Option.some.injEq]
      omega
/-- braces of a printed text -/
theorem braces_back (p : Ex.P) (l : List M) (rest : List UInt8) (hp : p.s = bracesF l ++ rest) (h : ∀ m ∈ l, namedF (by_ m.n) = true) : Ex.bracesE p = (bracesF l, { p with s := rest }) := by
  obtain ⟨n, hn, hs⟩ := scan_bra l true rest h
  have hd : p.s.drop 1 = braGo true l ++ rest := by rw [hp]; rfl
  have hl : p.s.length = 1 + (braGo true l).length + rest.length := by rw [hp, List.length_append]; show (braGo true l).length + 1 + _ = _; omega
  have hb : (bracesF l).length = (braGo true l).length + 1 := rfl
  unfold Ex.bracesE
  rw [hd, scan_le (by omega) hs]
  simp only
  rw [hp, ← hb, List.take_left, List.drop_left]
end Go.Proofs.YtmbfpichaaanpaaGreatDoor

/-! What is printed is read: numbers. No program in sight. -/
namespace Go.Proofs.YtmbfpichaaanpaaGreatDoor
open Ut Rx Mt Go.Lib

theorem dig_chr {d : Nat} (h : d < 10) : Ex.digC (UInt8.ofNat (48 + d)) = true ∧ (UInt8.ofNat (48 + d)).toNat - 48 = d ∧ (UInt8.ofNat (48 + d) = 48 ↔ d = 0) := by
  match d, h with
  | 0, _ => exact ⟨rfl, rfl, by decide⟩
  | 1, _ => exact ⟨rfl, rfl, by decide⟩
  | 2, _ => exact ⟨rfl, rfl, by decide⟩
  | 3, _ => exact ⟨rfl, rfl, by decide⟩
  | 4, _ => exact ⟨rfl, rfl, by decide⟩
  | 5, _ => exact ⟨rfl, rfl, by decide⟩
  | 6, _ => exact ⟨rfl, rfl, by decide⟩
  | 7, _ => exact ⟨rfl, rfl, by decide⟩
  | 8, _ => exact ⟨rfl, rfl, by decide⟩
  | 9, _ => exact ⟨rfl, rfl, by decide⟩
theorem who_dig {most n k d : Nat} {t : List UInt8} (h : d < 10) (hm : 10 * n + d ≤ most) : Ex.whoGo most n k (UInt8.ofNat (48 + d) :: t) = Ex.whoGo most (10 * n + d) (k + 1) t := by
  obtain ⟨h1, h2, _⟩ := dig_chr h
  rw [who_cons, if_pos h1, h2, if_neg (by omega)]
theorem who_digits (most : Nat) : ∀ (f n k : Nat) (rest : List UInt8), n ≤ most → n < 10 ^ (f + 1) → Ex.whoGo most 0 k (Ex.digGo f n ++ rest) = Ex.whoGo most n (k + (Ex.digGo f n).length) rest
  | 0, n, k, rest, hm, hn => by
    have hn' : n < 10 := by simpa using hn
    rw [digGo_lt hn', List.singleton_append, who_dig hn' (by omega)]
    simp
  | f + 1, n, k, rest, hm, hn => by
    by_cases h10 : n < 10
    · rw [digGo_lt h10, List.singleton_append, who_dig h10 (by omega)]
      simp
    · rw [digGo_ge (by omega), List.append_assoc, List.singleton_append, who_digits most f (n / 10) k _ (by omega) (by rw [Nat.pow_succ] at hn; omega), who_dig (Nat.mod_lt _ (by decide)) (by omega)]
      rw [show 10 * (n / 10) + n % 10 = n from by omega, List.length_append, List.length_singleton]
      rfl
theorem dig_head : ∀ (f n : Nat), n ≠ 0 → n < 10 ^ (f + 1) → (Ex.digGo f n).head? ≠ some 48
  | 0, n, h0, hn => by
    have hn' : n < 10 := by simpa using hn
    rw [digGo_lt hn']
    intro e
    have := ((dig_chr hn').2.2).1 (Option.some.inj e)
    omega
  | f + 1, n, h0, hn => by
    by_cases h10 : n < 10
    · rw [digGo_lt h10]
      intro e
      have := ((dig_chr h10).2.2).1 (Option.some.inj e)
      omega
    · rw [digGo_ge (by omega)]
      have ih := dig_head f (n / 10) (by omega) (by rw [Nat.pow_succ] at hn; omega)
      cases hd : Ex.digGo f (n / 10) with
      | nil => have := congrArg List.length hd; cases f <;> simp [Ex.digGo] at hd <;> split at hd <;> simp at hd
      | cons c t =>
        rw [hd] at ih
        exact ih
theorem dig_first : ∀ (f n : Nat), ∃ c t, Ex.digGo f n = c :: t ∧ Ex.digC c = true
  | 0, n => ⟨_, [], rfl, (dig_chr (Nat.mod_lt n (by decide))).1⟩
  | f + 1, n => by
    by_cases h10 : n < 10
    · exact ⟨_, [], digGo_lt h10, (dig_chr h10).1⟩
    · obtain ⟨c, t, h, hc⟩ := dig_first f (n / 10)
      exact ⟨c, t ++ [UInt8.ofNat (48 + n % 10)], by rw [digGo_ge (by omega), h]; rfl, hc⟩
theorem who_stop (most n k : Nat) {rest : List UInt8} (h : ∀ c, rest.head? = some c → Ex.digC c = false) : Ex.whoGo most n k rest = some (n, k, rest) := by
  cases rest with
  | nil => rw [who_nil]
  | cons c t => rw [who_cons, if_neg (by rw [h c rfl]; decide)]
/-- a whole number is read back -/
theorem whole_back {most n : Nat} {p : Ex.P} {rest : List UInt8} (hs : bareF p.s = Ex.digF n ++ rest) (hm : n ≤ most) (hn : n < 10 ^ 21) (hr : ∀ c, rest.head? = some c → Ex.digC c = false) : Ex.wholeP most p = (n, { p with s := rest }) := by
  have h1 := who_digits most 20 n 0 rest hm hn
  rw [Nat.zero_add, who_stop most n _ hr] at h1
  obtain ⟨c, t, hc, _⟩ := dig_first 20 n
  have hk : (Ex.digGo 20 n).length ≠ 0 := by rw [hc]; simp
  unfold Ex.wholeP
  rw [hs]
  unfold Ex.digF
  rw [h1]
  simp only [Prod.mk.injEq, true_and]
  have hb : (p.bad || decide ((Ex.digGo 20 n).length = 0) || (decide (1 < (Ex.digGo 20 n).length) && decide ((Ex.digGo 20 n ++ rest).head? = some 48))) = p.bad := by
    rw [decide_eq_false hk, Bool.or_false]
    by_cases h0 : n = 0
    · subst h0
      rw [digGo_lt (by decide)]
      simp
    · have := dig_head 20 n h0 hn
      rw [decide_eq_false (show ¬ (Ex.digGo 20 n ++ rest).head? = some 48 from by rw [hc] at this ⊢; exact this)]
      simp
  rw [hb]
theorem hex_chr {d : Nat} (h : d < 16) : Ex.hexV (Ex.hexD d) = some d := by
  match d, h with
  | 0, _ => rfl
  | 1, _ => rfl
  | 2, _ => rfl
  | 3, _ => rfl
  | 4, _ => rfl
  | 5, _ => rfl
  | 6, _ => rfl
  | 7, _ => rfl
  | 8, _ => rfl
  | 9, _ => rfl
  | 10, _ => rfl
  | 11, _ => rfl
  | 12, _ => rfl
  | 13, _ => rfl
  | 14, _ => rfl
  | 15, _ => rfl
  | n + 16, h => omega
theorem hex_digits : ∀ (k m v : Nat) (rest : List UInt8), k ≤ 16 → v < 16 ^ k → Ex.hexGo (m + k) 0 (Ex.hexF k v ++ rest) = Ex.hexGo m v rest
  | 0, m, v, rest, _, hv => by
    obtain rfl : v = 0 := by simpa using hv
    rfl
  | k + 1, m, v, rest, hk, hv => by
    have hv' : v / 16 < 16 ^ k := by rw [Nat.pow_succ] at hv; omega
    have hlim : 16 ^ k * 16 ≤ 18446744073709551616 := by
      have := Nat.pow_le_pow_right (show 0 < 16 by decide) hk
      rw [Nat.pow_succ] at this
      exact Nat.le_trans this (by decide)
    rw [show m + (k + 1) = (m + 1) + k from by omega, hexF_succ, List.append_assoc, hex_digits k (m + 1) (v / 16) _ (by omega) hv', List.singleton_append, hexGo_cons, hex_chr (Nat.mod_lt _ (by decide))]
    simp only
    rw [show 16 * (v / 16) + v % 16 = v from by omega, Nat.mod_eq_of_lt (by rw [Nat.pow_succ] at hv; omega)]
/-- a value is read back by its sixteen digits -/
theorem bits_back {p : Ex.P} {v : Nat} {rest : List UInt8} (hs : p.s = Ex.hexF 16 v ++ rest) (hv : v < 18446744073709551616) : Ex.bitsP p = (v, { p with s := rest }) := by
  have h := hex_digits 16 0 v rest (Nat.le_refl _) (by simpa using hv)
  rw [Nat.zero_add, hexGo_zero] at h
  unfold Ex.bitsP
  rw [hs, h]
  simp
end Go.Proofs.YtmbfpichaaanpaaGreatDoor

/-! What is printed is read: signs and their strengths. No program in sight. -/
namespace Go.Proofs.YtmbfpichaaanpaaGreatDoor
open Ut Rx Mt Go.Lib

theorem hasP_bare (t : List UInt8) (p : Ex.P) : Ex.hasP t p = Ex.hasP t (Ex.bareP p) := by
  unfold Ex.hasP Ex.bareP
  simp only [bare_bare]
theorem peekW_bare (s : List UInt8) : Ex.peekW (bareF s) = Ex.peekW s := by
  unfold Ex.peekW
  rw [bare_bare]
theorem isP_bare (t : List UInt8) (p : Ex.P) : Ex.isP t p = Ex.isP t (Ex.bareP p) := by
  unfold Ex.isP Ex.bareP
  simp only [bare_bare, peekW_bare]
theorem tryP_bare (x : Int × List UInt8) (l : List (Int × List UInt8)) (p : Ex.P) : Ex.tryP (x :: l) p = Ex.tryP (x :: l) (Ex.bareP p) := by
  unfold Ex.tryP
  rw [hasP_bare]
theorem signE_bare (k : Int) (p : Ex.P) : Ex.signE k p = Ex.signE k (Ex.bareP p) := by
  unfold Ex.signE
  rw [isP_bare [111, 114] p, isP_bare [97, 110, 100] p, hasP_bare [43] p, show Ex.tryP Ex.cmpOrd p = Ex.tryP Ex.cmpOrd (Ex.bareP p) from tryP_bare _ _ p, show Ex.tryP Ex.binOrd p = Ex.tryP Ex.binOrd (Ex.bareP p) from tryP_bare _ _ p]
theorem bareP_twice (p : Ex.P) : Ex.bareP (Ex.bareP p) = Ex.bareP p := by
  unfold Ex.bareP
  simp only [bare_bare]

/-- nothing, or what ends a part -/
def EndS (s : List UInt8) : Prop := bareF s = [] ∨ ∃ t, bareF s = 41 :: t ∨ bareF s = 44 :: t
theorem sign_end {k : Nat} (hk : k ≤ 4) {p : Ex.P} (h : EndS p.s) : Ex.signE (k : Int) p = (none, Ex.bareP p) := by
  rw [signE_bare]
  obtain ⟨s, l, b, e⟩ := p
  unfold Ex.bareP
  simp only
  rcases h with h | ⟨t, h | h⟩ <;> (simp only at h; rw [h]; match k, hk with
    | 0, _ => rfl
    | 1, _ => rfl
    | 2, _ => rfl
    | 3, _ => rfl
    | 4, _ => rfl)

/-! ### what the reader comes to, with fuel enough -/
def Trm (of : Int → Nat) (p q : Ex.P) : Prop := ∃ n, Ex.parE of n .term p = some q
def Lvl (of : Int → Nat) (k : Nat) (p q : Ex.P) : Prop := ∃ n, Ex.parE of n (.level k) p = some q
def Lop (of : Int → Nat) (k : Nat) (p q : Ex.P) : Prop := ∃ n, Ex.parE of n (.loop k) p = some q
def Sub (of : Int → Nat) (k : Nat) (p q : Ex.P) : Prop := ∃ n, Ex.parE of n (if k = 4 then .term else .level (k + 1)) p = some q
variable {of : Int → Nat}
theorem lop_stop {k : Nat} {p q : Ex.P} (hb : p.bad = false) (hs : Ex.signE k p = (none, q)) : Lop of k p q := ⟨1, by
  rw [Ex.parE, if_neg (by rw [hb]; decide), hs]⟩
theorem lop_step {k : Nat} {p q r z : Ex.P} {x : Ex.Nd} (hb : p.bad = false) (hs : Ex.signE k p = (some x, q)) (h1 : Sub of k q r) (h2 : Lop of k (Ex.putP x r) z) : Lop of k p z := by
  obtain ⟨n, h1⟩ := h1
  obtain ⟨m, h2⟩ := h2
  refine ⟨max n m + 1, ?_⟩
  rw [Ex.parE, if_neg (by rw [hb]; decide), hs]
  simp only
  rw [par_mono (Nat.le_max_left n m) h1, Option.bind_some, par_mono (Nat.le_max_right n m) h2]
theorem lvl_mk {k : Nat} {p r q : Ex.P} (h1 : Sub of k p r) (h2 : Lop of k r q) : Lvl of k p q := by
  obtain ⟨n, h1⟩ := h1
  obtain ⟨m, h2⟩ := h2
  refine ⟨max n m + 1, ?_⟩
  rw [Ex.parE, par_mono (Nat.le_max_left n m) h1, Option.bind_some, par_mono (Nat.le_max_right n m) h2]
theorem bad_bare {p q : Ex.P} (h : Ex.bareP q = Ex.bareP p) : q.bad = p.bad := by
  have := congrArg Ex.P.bad h
  exact this
theorem end_bare {p q : Ex.P} (h : Ex.bareP q = Ex.bareP p) (he : EndS p.s) : EndS q.s := by
  have : bareF q.s = bareF p.s := congrArg Ex.P.s h
  unfold EndS
  rw [this]
  exact he
theorem lvl_down {k : Nat} {p q0 : Ex.P} (hb : q0.bad = false) : ∀ m, k + m ≤ 4 → (∀ j : Nat, k ≤ j → j < k + m → Ex.signE j (Ex.bareP q0) = (none, Ex.bareP q0)) → (∃ q, Lvl of (k + m) p q ∧ Ex.bareP q = Ex.bareP q0) → ∃ q, Lvl of k p q ∧ Ex.bareP q = Ex.bareP q0 := by
  intro m
  induction m generalizing k with
  | zero => intro _ _ h; exact h
  | succ m ih =>
    intro hk hs h
    obtain ⟨q, h1, h2⟩ := ih (k := k + 1) (by omega) (fun j hj hl => hs j (by omega) (by omega)) (by rw [show k + 1 + m = k + (m + 1) from by omega]; exact h)
    have hsub : Sub of k p q := by
      obtain ⟨n, h1⟩ := h1
      exact ⟨n, by rw [if_neg (by omega)]; exact h1⟩
    refine ⟨Ex.bareP q0, lvl_mk hsub (lop_stop ((bad_bare h2).trans hb) ?_), bareP_twice q0⟩
    rw [signE_bare, h2]
    exact hs k (Nat.le_refl _) (by omega)
theorem lvl_term {k : Nat} {p p1 : Ex.P} (hk : k ≤ 4) (ht : Trm of p p1) (hb : p1.bad = false) (hs : ∀ j : Nat, k ≤ j → j ≤ 4 → Ex.signE j (Ex.bareP p1) = (none, Ex.bareP p1)) : ∃ q, Lvl of k p q ∧ Ex.bareP q = Ex.bareP p1 := by
  refine lvl_down hb (4 - k) (by omega) (fun j hj hl => hs j hj (by omega)) ?_
  rw [show k + (4 - k) = 4 from by omega]
  refine ⟨Ex.bareP p1, lvl_mk (r := p1) ?_ (lop_stop hb ?_), bareP_twice p1⟩
  · obtain ⟨n, ht⟩ := ht
    exact ⟨n, by rw [if_pos rfl]; exact ht⟩
  · rw [signE_bare]
    exact hs 4 hk (Nat.le_refl _)
/-- a part that ends: every strength comes to it -/
theorem lvl_full {p p1 : Ex.P} (ht : Trm of p p1) (hb : p1.bad = false) (he : EndS p1.s) : ∃ q, Lvl of 0 p q ∧ Ex.bareP q = Ex.bareP p1 :=
  lvl_term (by omega) ht hb fun j _ hj => by rw [← signE_bare]; exact sign_end hj he
theorem sub_term {k : Nat} {p p1 : Ex.P} (hk : k ≤ 4) (ht : Trm of p p1) (hb : p1.bad = false) (hs : ∀ j : Nat, k < j → j ≤ 4 → Ex.signE j (Ex.bareP p1) = (none, Ex.bareP p1)) : ∃ q, Sub of k p q ∧ Ex.bareP q = Ex.bareP p1 := by
  by_cases h4 : k = 4
  · subst h4
    obtain ⟨n, ht⟩ := ht
    exact ⟨p1, ⟨n, by rw [if_pos rfl]; exact ht⟩, rfl⟩
  · obtain ⟨q, ⟨n, h1⟩, h2⟩ := lvl_term (k := k + 1) (by omega) ht hb (fun j hj hl => hs j (by omega) hl)
    exact ⟨q, ⟨n, by rw [if_neg h4]; exact h1⟩, h2⟩
theorem bare_putP {x : Ex.Nd} {p q : Ex.P} (h : Ex.bareP q = Ex.bareP p) : Ex.bareP (Ex.putP x q) = Ex.bareP (Ex.putP x p) := by
  have h1 : bareF q.s = bareF p.s := congrArg Ex.P.s h
  have h2 : q.l = p.l := show (Ex.bareP q).l = (Ex.bareP p).l from by rw [h]
  have h3 : q.bad = p.bad := bad_bare h
  have h4 : q.e = p.e := show (Ex.bareP q).e = (Ex.bareP p).e from by rw [h]
  unfold Ex.bareP Ex.putP
  simp only [h1, h2, h3, h4]
/-- two parts and a sign of strength k between them -/
theorem lvl_pair {k : Nat} {p p1 p2 p3 : Ex.P} {x : Ex.Nd} (hk : k ≤ 4) (ht : Trm of p p1) (hb : p1.bad = false) (hm : ∀ j : Nat, k < j → j ≤ 4 → Ex.signE j (Ex.bareP p1) = (none, Ex.bareP p1)) (hs : Ex.signE k (Ex.bareP p1) = (some x, p2)) (ht2 : Trm of p2 p3) (hb3 : p3.bad = false) (he : EndS p3.s) :
    ∃ q, Lvl of 0 p q ∧ Ex.bareP q = Ex.bareP (Ex.putP x p3) := by
  obtain ⟨r1, h1, e1⟩ := sub_term hk ht hb hm
  obtain ⟨r2, h2, e2⟩ := sub_term hk ht2 hb3 (fun j _ hj => by rw [← signE_bare]; exact sign_end hj he)
  have e3 := bare_putP (x := x) e2
  have hz : Lop of k (Ex.putP x r2) (Ex.bareP (Ex.putP x r2)) := lop_stop (show r2.bad = false from (bad_bare e2).trans hb3) (sign_end hk (show EndS r2.s from end_bare e2 he))
  have hl : Lvl of k p (Ex.bareP (Ex.putP x r2)) := lvl_mk h1 (lop_step ((bad_bare e1).trans hb) (by rw [signE_bare, e1]; exact hs) h2 hz)
  refine lvl_down (k := 0) (q0 := Ex.putP x p3) hb3 k (by omega) (fun j _ hj => ?_) ⟨_, by rw [Nat.zero_add]; exact hl, by rw [bareP_twice, e3]⟩
  rw [← signE_bare]
  exact sign_end (by omega) (show EndS p3.s from he)

/-! ### the signs -/
/-- a sign o of node x before r -/
structure SgN (x : Ex.Nd) (o r : List UInt8) : Prop where
  bare : ∀ t, bareF (o ++ t) = o ++ t
  head : ∀ t, (o ++ t).head? ≠ some 123 ∧ (o ++ t).head? ≠ some 91
  sign : ∃ k : Nat, k ≤ 4 ∧ ∀ l b e, (∀ j : Nat, k < j → j ≤ 4 → Ex.signE j ⟨o ++ 32 :: r, l, b, e⟩ = (none, ⟨o ++ 32 :: r, l, b, e⟩)) ∧ ∃ s2, bareF s2 = bareF r ∧ Ex.signE k ⟨o ++ 32 :: r, l, b, e⟩ = (some x, ⟨s2, l, b, e⟩)
theorem cmp_head {c : UInt8} (h : c ≠ 123 ∧ c ≠ 91) (t u : List UInt8) : ((c :: t) ++ u).head? ≠ some 123 ∧ ((c :: t) ++ u).head? ≠ some 91 :=
  ⟨fun e => h.1 (Option.some.inj e), fun e => h.2 (Option.some.inj e)⟩
theorem above {P : Nat → Prop} {k : Nat} (h : ∀ j, j ≤ 4 → k < j → P j) : ∀ j, k < j → j ≤ 4 → P j := fun j a b => h j b a
theorem sg_bin {o : Int} (h0 : 0 ≤ o) (h5 : o < 5) (r : List UInt8) : SgN (ndE 5 o false) (Ex.nthT Ex.binsT o) r := by
  obtain rfl | rfl | rfl | rfl | rfl : o = 0 ∨ o = 1 ∨ o = 2 ∨ o = 3 ∨ o = 4 := by omega
  · exact ⟨fun t => rfl, fun t => cmp_head (c := 43) (by decide) _ t, 3, by decide, fun l b e => ⟨above fun
      | 4, _, _ => rfl
      | 0, _, h | 1, _, h | 2, _, h | 3, _, h => absurd h (by decide), 32 :: r, rfl, rfl⟩⟩
  · exact ⟨fun t => rfl, fun t => cmp_head (c := 45) (by decide) _ t, 3, by decide, fun l b e => ⟨above fun
      | 4, _, _ => rfl
      | 0, _, h | 1, _, h | 2, _, h | 3, _, h => absurd h (by decide), 32 :: r, rfl, rfl⟩⟩
  · exact ⟨fun t => rfl, fun t => cmp_head (c := 42) (by decide) _ t, 4, by decide, fun l b e => ⟨above fun j h1 h2 => absurd h1 (by omega), 32 :: r, rfl, rfl⟩⟩
  · exact ⟨fun t => rfl, fun t => cmp_head (c := 47) (by decide) _ t, 4, by decide, fun l b e => ⟨above fun j h1 h2 => absurd h1 (by omega), 32 :: r, rfl, rfl⟩⟩
  · exact ⟨fun t => rfl, fun t => cmp_head (c := 37) (by decide) _ t, 4, by decide, fun l b e => ⟨above fun j h1 h2 => absurd h1 (by omega), 32 :: r, rfl, rfl⟩⟩
theorem sg_set {o : Int} (h0 : 0 ≤ o) (h3 : o < 3) (r : List UInt8) : SgN (ndE 7 o false) (Ex.nthT Ex.setsT o) r := by
  obtain rfl | rfl | rfl : o = 0 ∨ o = 1 ∨ o = 2 := by omega
  · exact ⟨fun t => rfl, fun t => cmp_head (c := 97) (by decide) _ t, 1, by decide, fun l b e => ⟨above fun
      | 4, _, _ | 3, _, _ | 2, _, _ => rfl
      | 0, _, h | 1, _, h => absurd h (by decide), 32 :: r, rfl, rfl⟩⟩
  · exact ⟨fun t => rfl, fun t => cmp_head (c := 111) (by decide) _ t, 0, by decide, fun l b e => ⟨above fun
      | 4, _, _ | 3, _, _ | 2, _, _ | 1, _, _ => rfl
      | 0, _, h => absurd h (by decide), 32 :: r, rfl, rfl⟩⟩
  · exact ⟨fun t => rfl, fun t => cmp_head (c := 117) (by decide) _ t, 1, by decide, fun l b e => ⟨above fun
      | 4, _, _ | 3, _, _ | 2, _, _ => rfl
      | 0, _, h | 1, _, h => absurd h (by decide), 32 :: r, rfl, rfl⟩⟩
theorem isP_no {t : List UInt8} {p : Ex.P} (h : Ex.peekW p.s ≠ t) : Ex.isP t p = (false, Ex.bareP p) := by
  unfold Ex.isP
  rw [if_neg h]
theorem cmp_yes (c : Int) (o r : List UInt8) (l : List Ex.Nd) (b : Bool) (e : Int) (h : Ex.tryP Ex.cmpOrd ⟨o ++ [32, 98, 111, 111, 108] ++ 32 :: r, l, b, e⟩ = (some c, ⟨32 :: 98 :: 111 :: 111 :: 108 :: 32 :: r, l, b, e⟩)) :
    Ex.signE 2 ⟨o ++ [32, 98, 111, 111, 108] ++ 32 :: r, l, b, e⟩ = (some (ndE 6 c true), ⟨32 :: r, l, b, e⟩) := by
  unfold Ex.signE
  rw [if_neg (by decide), if_neg (by decide), if_pos rfl, h]
  rfl
theorem cmp_no (c : Int) (o r : List UInt8) (l : List Ex.Nd) (b : Bool) (e : Int) (hr : Ex.peekW r ≠ Ex.boolT) (h : Ex.tryP Ex.cmpOrd ⟨o ++ 32 :: r, l, b, e⟩ = (some c, ⟨32 :: r, l, b, e⟩)) :
    Ex.signE 2 ⟨o ++ 32 :: r, l, b, e⟩ = (some (ndE 6 c false), ⟨bareF r, l, b, e⟩) := by
  unfold Ex.signE
  rw [if_neg (by decide), if_neg (by decide), if_pos rfl, h]
  simp only
  rw [isP_no (show Ex.peekW (32 :: r) ≠ Ex.boolT from by rw [← peekW_bare, show bareF (32 :: r) = bareF r from rfl, peekW_bare]; exact hr)]
  rfl
theorem sg_cmp {o : Int} (h0 : 0 ≤ o) (h6 : o < 6) (bl : Bool) {r : List UInt8} (hr : bl = false → Ex.peekW r ≠ Ex.boolT) : SgN (ndE 6 o bl) (Ex.nthT Ex.cmpsT o ++ (if bl then [32, 98, 111, 111, 108] else [])) r := by
  cases bl with
  | true =>
    obtain rfl | rfl | rfl | rfl | rfl | rfl : o = 0 ∨ o = 1 ∨ o = 2 ∨ o = 3 ∨ o = 4 ∨ o = 5 := by omega
    all_goals
      exact ⟨fun t => rfl, fun t => cmp_head (by decide) _ t, 2, by decide, fun l b e => ⟨above fun
      | 4, _, _ | 3, _, _ => rfl
      | 0, _, h | 1, _, h | 2, _, h => absurd h (by decide), 32 :: r, rfl, cmp_yes _ _ r l b e rfl⟩⟩
  | false =>
    have hr := hr rfl
    obtain rfl | rfl | rfl | rfl | rfl | rfl : o = 0 ∨ o = 1 ∨ o = 2 ∨ o = 3 ∨ o = 4 ∨ o = 5 := by omega
    all_goals
      exact ⟨fun t => rfl, fun t => cmp_head (by decide) _ t, 2, by decide, fun l b e => ⟨above fun
      | 4, _, _ | 3, _, _ => rfl
      | 0, _, h | 1, _, h | 2, _, h => absurd h (by decide), bareF r, bare_bare r, cmp_no _ _ r l b e hr rfl⟩⟩
end Go.Proofs.YtmbfpichaaanpaaGreatDoor

/-! What is printed is read: selectors in an expression, names, groups. No program in sight. -/
namespace Go.Proofs.YtmbfpichaaanpaaGreatDoor
open Ut Rx Mt Go.Lib

theorem word_of {v r : List UInt8} (hl : ∀ b ∈ v, letU b = true) (hr : ∀ c ∈ r.head?, letU c = false) : Ex.wordF (v ++ r) = v := (take_letters v r hl hr).1
theorem peek_word {v r : List UInt8} (hv : namedF v = true) (hr : ∀ c ∈ r.head?, letU c = false) : bareF (v ++ r) = v ++ r ∧ Ex.peekW (v ++ r) = v := by
  obtain ⟨hne, hl, hd⟩ := named_letters hv
  have hb : bareF (v ++ r) = v ++ r := by
    cases v with
    | nil => exact absurd rfl hne
    | cons c z => exact bare_let (hl c (by simp))
  refine ⟨hb, ?_⟩
  unfold Ex.peekW
  rw [hb, word_of hl hr, hd]
  rfl
theorem head_named {m : M} (h : headB m = true) : namedF (by_ m.v) = true := by
  unfold headB at h
  simp only [Bool.and_eq_true] at h
  exact h.2
/-- the text of a right selector -/
theorem sel_form (l : List M) : Ex.selT l = bracesF l ∨ ∃ m t, l = m :: t ∧ namedF (by_ m.v) = true ∧ Ex.reservedE (by_ m.v) = false ∧ Ex.selT l = printF l ∧ printF l = by_ m.v ++ (if t = [] then [] else bracesF t) := by
  have hform : ∀ (m : M) (t : List M), headB m = true → printF (m :: t) = by_ m.v ++ (if t = [] then [] else bracesF t) := fun m t hh => by
    rw [printF_at, if_pos hh]
    split
    · rw [List.append_nil]
    · rfl
  have hword : ∀ (m : M) (t : List M), headB m = true → Ex.wordF (printF (m :: t)) = by_ m.v := fun m t hh => by
    rw [hform m t hh]
    refine word_of (named_letters (head_named hh)).2.1 fun c hc => ?_
    split at hc
    · cases hc
    · obtain rfl : (123 : UInt8) = c := Option.some.inj hc
      decide
  rw [selT_eq]
  by_cases h : Ex.wordF (printF l) = [] ∨ Ex.reservedE (Ex.wordF (printF l)) = false
  · rw [if_pos h]
    cases l with
    | nil => exact Or.inl rfl
    | cons m t =>
      by_cases hh : headB m = true
      · rw [hword m t hh] at h
        have hn := head_named hh
        exact Or.inr ⟨m, t, rfl, hn, h.resolve_left (named_letters hn).1, rfl, hform m t hh⟩
      · left
        rw [printF_at, if_neg hh]
  · rw [if_neg h]
    have h1 : Ex.wordF (printF l) ≠ [] := fun e => h (Or.inl e)
    obtain ⟨m, t, rfl, hh⟩ := print_word h1
    left
    simp only
    split
    · rename_i ht
      subst ht
      rfl
    · rename_i ht
      rw [hword m t hh, hform m t hh, if_neg ht]
      cases t with
      | nil => exact absurd rfl ht
      | cons x u =>
        have e : by_ m.v ++ bracesF (x :: u) = (by_ m.v ++ [123]) ++ braGo true (x :: u) := by simp [bracesF]
        rw [e, show (by_ m.v).length + 1 = (by_ m.v ++ [123]).length from by simp, List.drop_left]
        simp [bracesF, braGo, oneM]
theorem selW_back {l : List M} (hr : rightF l = 0) {p : Ex.P} {rest : List UInt8} (hs : bareF p.s = Ex.selT l ++ rest) (h1 : ∀ c ∈ rest.head?, letU c = false) (h2 : (bareF rest).head? ≠ some 123) :
    ∃ w s2, Ex.selW p = (w, { p with s := s2 }) ∧ w ≠ [] ∧ parseP w = .ok l ∧ bareF s2 = bareF rest := by
  have hall := right_all hr
  rcases sel_form l with h | ⟨m, t, rfl, hn, _, hp, hf⟩
  · rw [h] at hs
    have hw : Ex.peekW p.s = [] := by rw [← peekW_bare, hs]; rfl
    have hp1 : bareF ((bareF p.s).drop (Ex.peekW p.s).length) = bracesF l ++ rest := by rw [hw, hs]; rfl
    have hb := braces_back { p with s := bareF ((bareF p.s).drop (Ex.peekW p.s).length) } l rest hp1 (fun m hm => (hall m hm).1)
    refine ⟨bracesF l, rest, ?_, by unfold bracesF; simp, told_braces hr, rfl⟩
    unfold Ex.selW
    simp only
    rw [if_pos (by rw [hp1]; rfl), hb, hw]
    rfl
  · have ht := told hr
    rw [hp, hf] at hs
    rw [hf] at ht
    by_cases h0 : t = []
    · subst h0
      rw [if_pos rfl, List.append_nil] at hs ht
      have hw : Ex.peekW p.s = by_ m.v := by rw [← peekW_bare, hs]; exact (peek_word hn h1).2
      have hp1 : bareF ((bareF p.s).drop (Ex.peekW p.s).length) = bareF rest := by rw [hw, hs, List.drop_left]
      refine ⟨by_ m.v, bareF rest, ?_, (named_letters hn).1, ht, bare_bare rest⟩
      unfold Ex.selW
      simp only
      rw [hp1, if_neg h2, hw]
    · rw [if_neg h0] at hs ht
      rw [List.append_assoc] at hs
      have hw : Ex.peekW p.s = by_ m.v := by
        rw [← peekW_bare, hs]
        refine (peek_word hn fun c hc => ?_).2
        obtain rfl : (123 : UInt8) = c := Option.some.inj hc
        decide
      have hp1 : bareF ((bareF p.s).drop (Ex.peekW p.s).length) = bracesF t ++ rest := by rw [hw, hs, List.drop_left]; rfl
      have hb := braces_back { p with s := bareF ((bareF p.s).drop (Ex.peekW p.s).length) } t rest hp1 (fun m hm => (hall m (List.mem_cons_of_mem _ hm)).1)
      refine ⟨by_ m.v ++ bracesF t, rest, ?_, by unfold bracesF; simp, ht, rfl⟩
      unfold Ex.selW
      simp only
      rw [if_pos (by rw [hp1]; rfl), hb, hw]
theorem eat_miss {c : UInt8} {s : List UInt8} (h : s.head? ≠ some c) : eatF [c] s = none := by
  cases s with
  | nil => exact eat_no (by simp)
  | cons d t => exact eat1_no fun e => h (by rw [e]; rfl)
theorem selE_one {l : List M} (hr : rightF l = 0) {p : Ex.P} {rest : List UInt8} (hs : bareF p.s = Ex.selT l ++ rest) (h1 : ∀ c ∈ rest.head?, letU c = false) (h2 : (bareF rest).head? ≠ some 123) (h3 : (bareF rest).head? ≠ some 91) :
    Ex.selE p = Ex.putP { Ex.nd0 with k := 1, sel := l } { p with s := bareF rest } := by
  obtain ⟨w, s2, hw, hne, hp, hs2⟩ := selW_back hr hs h1 h2
  have he : w.isEmpty = false := by cases w with
    | nil => exact absurd rfl hne
    | cons => rfl
  unfold Ex.selE
  simp only [hw, he, Bool.or_false, hp]
  have hh : Ex.hasP [91] { p with s := s2 } = (false, { p with s := bareF rest }) := by
    unfold Ex.hasP
    simp only [hs2]
    rw [eat_miss h3]
    simp only
    unfold Ex.bareP
    rw [hs2]
  rw [hh]
  rfl
theorem selE_two {l : List M} (hr : rightF l = 0) {p : Ex.P} {rest : List UInt8} {n : Nat} (hs : bareF p.s = Ex.selT l ++ (91 :: (Ex.digF n ++ 93 :: rest))) (hn : n ≤ 9223372036854775807) :
    Ex.selE p = Ex.putP { Ex.nd0 with k := 2, wd := n, sel := l } { p with s := rest } := by
  obtain ⟨w, s2, hw, hne, hp, hs2⟩ := selW_back hr hs (fun c hc => by
    obtain rfl : (91 : UInt8) = c := Option.some.inj hc
    decide) (by rw [bare_no (by decide)]; intro e; exact absurd (Option.some.inj e) (by decide))
  have he : w.isEmpty = false := by cases w with
    | nil => exact absurd rfl hne
    | cons => rfl
  rw [bare_no (by decide)] at hs2
  have hh : Ex.hasP [91] { p with s := s2 } = (true, { p with s := Ex.digF n ++ 93 :: rest }) := by
    unfold Ex.hasP
    simp only [hs2]
    rw [eat1_yes]
  have hd : bareF (Ex.digF n ++ 93 :: rest) = Ex.digF n ++ 93 :: rest := by
    obtain ⟨c, t, hc, hcd⟩ := dig_first 20 n
    unfold Ex.digF
    rw [hc]
    exact bare_no (by rintro rfl; revert hcd; decide)
  have hq : Ex.wholeP 9223372036854775807 { p with s := Ex.digF n ++ 93 :: rest } = (n, { p with s := 93 :: rest }) := whole_back (p := { p with s := Ex.digF n ++ 93 :: rest }) hd hn (Nat.lt_of_le_of_lt hn (by decide)) (fun c hc => by
    obtain rfl : (93 : UInt8) = c := Option.some.inj hc
    decide)
  unfold Ex.selE
  simp only [hw, he, Bool.or_false, hp, hh, if_true, hq]
  have hm : Ex.mustP [93] { p with s := 93 :: rest } = { p with s := rest } := by
    unfold Ex.mustP
    rw [bare_no (by decide), eat1_yes]
  rw [hm]
  rfl

/-! ### names and groups -/
theorem by_back (s : ByteArray) : (⟨(by_ s).toArray⟩ : ByteArray) = s := by
  obtain ⟨⟨l⟩⟩ := s
  rfl
theorem must_eat (c : UInt8) (p : Ex.P) (t : List UInt8) (h : bareF p.s = c :: t) : Ex.mustP [c] p = { p with s := t } := by
  unfold Ex.mustP
  rw [h, eat1_yes]
theorem names_back : ∀ (l : List ByteArray) (first : Bool) (acc : List ByteArray) (p : Ex.P) (rest : List UInt8), (∀ s ∈ l, namedF (by_ s) = true) → p.bad = false → bareF p.s = (if first = false ∧ l ≠ [] then [44, 32] else []) ++ (Ex.joinC l ++ 41 :: rest) →
    Ex.namesGo (l.length + 1) first acc p = some (acc ++ l, { p with s := 41 :: rest })
  | [], first, acc, p, rest, _, hb, hs => by
    have hs : bareF p.s = 41 :: rest := by rw [hs]; simp [Ex.joinC]
    rw [List.length_nil, Nat.zero_add, Ex.namesGo, if_neg (by rw [hb]; decide)]
    have hx : Ex.nextP 41 p = (true, { p with s := 41 :: rest }) := by
      unfold Ex.nextP Ex.bareP
      rw [hs]
      rfl
    rw [hx, if_pos rfl, List.append_nil]
  | s :: t, first, acc, p, rest, hn, hb, hs => by
    have hsn := hn s (List.mem_cons_self ..)
    obtain ⟨hne, hl, _⟩ := named_letters hsn
    -- what stands behind the name
    obtain ⟨z, hz, hz1, hz2⟩ : ∃ z, Ex.joinC (s :: t) ++ 41 :: rest = by_ s ++ z ∧ (∀ c ∈ z.head?, letU c = false) ∧ bareF z = (if false = false ∧ t ≠ [] then [44, 32] else []) ++ (Ex.joinC t ++ 41 :: rest) := by
      cases t with
      | nil => exact ⟨41 :: rest, rfl, fun c hc => by
          obtain rfl : (41 : UInt8) = c := Option.some.inj hc
          decide, rfl⟩
      | cons a u => exact ⟨[44, 32] ++ (Ex.joinC (a :: u) ++ 41 :: rest), by rw [joinC_cons _ _ (by simp)]; simp, fun c hc => by
          obtain rfl : (44 : UInt8) = c := Option.some.inj hc
          decide, by rw [if_pos ⟨rfl, by simp⟩]; rfl⟩
    rw [hz] at hs
    obtain ⟨c, v, hcv⟩ : ∃ c v, by_ s = c :: v := by
      cases h : by_ s with
      | nil => exact absurd h hne
      | cons c v => exact ⟨c, v, rfl⟩
    have hc := hl c (by rw [hcv]; exact List.mem_cons_self ..)
    have hw := peek_word hsn hz1
    rw [List.length_cons, Ex.namesGo, if_neg (by rw [hb]; decide)]
    have hx : (Ex.nextP 41 p).1 = false := by
      unfold Ex.nextP
      simp only [decide_eq_false_iff_not]
      rw [hs]
      cases first
      · rw [if_pos ⟨rfl, by simp⟩]
        intro e
        exact absurd (Option.some.inj e) (by decide)
      · rw [if_neg (fun h => absurd h.1 (by decide)), hcv]
        intro e
        have e : c = 41 := Option.some.inj e
        subst e
        revert hc
        decide
    have h1 : ∃ s1, (if first = true then Ex.bareP p else Ex.mustP [44] (Ex.bareP p)) = { p with s := s1 } ∧ bareF s1 = by_ s ++ z := by
      cases first
      · rw [if_neg (by decide)]
        rw [if_pos ⟨rfl, by simp⟩] at hs
        refine ⟨32 :: (by_ s ++ z), must_eat 44 (Ex.bareP p) _ (show bareF (bareF p.s) = _ from by rw [bare_bare, hs]; rfl), ?_⟩
        rw [bare_yes rfl, hw.1]
      · rw [if_pos rfl]
        rw [if_neg (fun h => absurd h.1 (by decide)), List.nil_append] at hs
        exact ⟨by_ s ++ z, by unfold Ex.bareP; rw [hs], hw.1⟩
    obtain ⟨s1, hp1, hs1⟩ := h1
    have hpk : Ex.peekW s1 = by_ s := by rw [← peekW_bare, hs1]; exact hw.2
    rw [hx, if_neg (by decide)]
    simp only [hp1, hpk, hs1]
    have he : (by_ s).isEmpty = false := by rw [hcv]; rfl
    rw [by_back, List.drop_left, he, Bool.or_false]
    rw [names_back t false (acc ++ [s]) { p with s := z } rest (fun x hx => hn x (List.mem_cons_of_mem _ hx)) hb hz2]
    simp
theorem names_mono1 : ∀ (n : Nat) (first : Bool) (acc : List ByteArray) (p : Ex.P) (r : List ByteArray × Ex.P), Ex.namesGo n first acc p = some r → Ex.namesGo (n + 1) first acc p = some r
  | 0, _, _, _, _, h => by rw [Ex.namesGo] at h; cases h
  | n + 1, first, acc, p, r, h => by
    rw [Ex.namesGo] at h ⊢
    split at h
    · rename_i h1; rw [if_pos h1]; exact h
    · rename_i h1
      rw [if_neg h1]
      split at h
      · rename_i h2; rw [if_pos h2]; exact h
      · rename_i h2
        rw [if_neg h2]
        exact names_mono1 n _ _ _ _ h
theorem names_mono {n m : Nat} (h : n ≤ m) {first : Bool} {acc : List ByteArray} {p : Ex.P} {r : List ByteArray × Ex.P} (hr : Ex.namesGo n first acc p = some r) : Ex.namesGo m first acc p = some r := by
  induction m with
  | zero => obtain rfl : n = 0 := by omega
            exact hr
  | succ m ih =>
    by_cases e : n = m + 1
    · subst e; exact hr
    · exact names_mono1 m _ _ _ _ (ih (by omega))
theorem joinC_ge : ∀ l : List ByteArray, (∀ s ∈ l, namedF (by_ s) = true) → l.length ≤ (Ex.joinC l).length
  | [], _ => Nat.le_refl _
  | [s], h => by
    exact List.length_pos_iff.2 (named_letters (h s (List.mem_cons_self ..))).1
  | s :: a :: t, h => by
    have := joinC_ge (a :: t) (fun x hx => h x (List.mem_cons_of_mem _ hx))
    rw [joinC_cons _ _ (by simp)]
    simp only [List.length_append, List.length_cons, List.length_nil] at *
    omega
theorem bare_len (s : List UInt8) : (bareF s).length ≤ s.length := (List.dropWhile_sublist _).length_le
theorem namesP_back {l : List ByteArray} {p : Ex.P} {rest : List UInt8} (hn : ∀ s ∈ l, namedF (by_ s) = true) (hb : p.bad = false) (hs : bareF p.s = 40 :: (Ex.joinC l ++ 41 :: rest)) : Ex.namesP p = some (l, { p with s := rest }) := by
  have hm := must_eat 40 p _ hs
  have hbare : bareF (Ex.joinC l ++ 41 :: rest) = Ex.joinC l ++ 41 :: rest := by
    cases l with
    | nil => rfl
    | cons s t =>
      have hsn := hn s (List.mem_cons_self ..)
      obtain ⟨hne, hl, _⟩ := named_letters hsn
      obtain ⟨z, hz⟩ : ∃ z, Ex.joinC (s :: t) = by_ s ++ z := by
        cases t with
        | nil => exact ⟨[], by simp [Ex.joinC]⟩
        | cons a u => exact ⟨_, by rw [joinC_cons _ _ (by simp), List.append_assoc]⟩
      rw [hz]
      cases h : by_ s with
      | nil => exact absurd h hne
      | cons c v => exact bare_let (hl c (by rw [h]; exact List.mem_cons_self ..))
  have h1 := names_back l true [] { p with s := Ex.joinC l ++ 41 :: rest } rest hn hb (by rw [if_neg (fun h => absurd h.1 (by decide))]; exact hbare)
  have hlen : l.length + 1 ≤ p.s.length + 3 := by
    have a := joinC_ge l hn
    have b := bare_len p.s
    rw [hs] at b
    simp only [List.length_cons, List.length_append] at b
    omega
  unfold Ex.namesP
  rw [hm, names_mono hlen h1, Option.map_some, List.nil_append]
  rw [must_eat 41 _ rest rfl]
end Go.Proofs.YtmbfpichaaanpaaGreatDoor

/-! What is printed is read: a part by its first byte. No program in sight. -/
namespace Go.Proofs.YtmbfpichaaanpaaGreatDoor
open Ut Rx Mt Go.Lib

/-! ### right nodes -/
theorem nd_facts {n : Ex.Nd} (h : Ex.aloneE n = 0) : (n.k ≠ 0 → n.v = 0) ∧ (n.k ≠ 2 → n.wd = 0) ∧ (n.k ≠ 1 → n.k ≠ 2 → n.sel = []) ∧ (n.k ≠ 6 → n.bl = false) ∧ (n.k ≠ 8 → n.gb = false ∧ n.nm = []) ∧ (Ex.opsE n.k = 0 → n.op = 0) := by
  have ha := Ex.alone_arg h
  unfold Ex.argE Ex.plainE at ha
  simp only [Bool.or_eq_false_iff, Bool.and_eq_false_iff, Bool.not_eq_false', Bool.and_eq_true, Bool.or_eq_true, decide_eq_true_eq, decide_eq_false_iff_not, Bool.not_eq_true', List.isEmpty_iff] at ha
  obtain ⟨⟨_, h4⟩, ⟨⟨⟨h5, h6⟩, h7⟩, h8⟩, h9⟩ := ha
  exact ⟨fun hk => h5.resolve_left hk, fun hk => h6.resolve_left hk, fun h1 h2 => h7.resolve_left (fun e => e.elim h1 h2), fun hk => h8.resolve_left hk, fun hk => h9.resolve_left hk, fun he => h4.resolve_left (fun e => e he)⟩
theorem nd_sel {n : Ex.Nd} (h : Ex.aloneE n = 0) (hk : n.k = 1 ∨ n.k = 2) : rightF n.sel = 0 ∧ (n.k = 2 → n.wd ≤ 9223372036854775807) := by
  have ha := Ex.alone_arg h
  unfold Ex.aloneE at h
  rw [ha, if_neg (by decide)] at h
  split at h
  · cases h
  · rename_i h2
    exact ⟨h, fun e => by
      by_cases hw : 9223372036854775808 ≤ n.wd
      · exact absurd ⟨e, Or.inr hw⟩ h2
      · omega⟩
theorem namesE_ok : ∀ l : List ByteArray, Ex.namesE l = 0 → ∀ s ∈ l, namedF (by_ s) = true
  | [], _ => fun s hs => by cases hs
  | a :: t, h => by
    rw [Ex.namesE] at h
    split at h
    · rename_i ha
      intro s hs
      rcases List.mem_cons.1 hs with rfl | hs
      · exact ha
      · exact namesE_ok t h s hs
    · cases h
theorem nd_names {n : Ex.Nd} (h : Ex.aloneE n = 0) (hk : n.k = 8) : ∀ s ∈ n.nm, namedF (by_ s) = true := by
  have ha := Ex.alone_arg h
  unfold Ex.aloneE at h
  rw [ha, if_neg (by decide), if_neg (by omega), if_neg (by omega)] at h
  split at h
  · cases h
  · exact namesE_ok n.nm h

/-! ### names of functions -/
structure Wd (w : List UInt8) : Prop where
  named : namedF w = true
  nbool : w ≠ Ex.boolT
  head : ∃ c t, w = c :: t ∧ c ≠ 45 ∧ Ex.digC c = false ∧ c ≠ 35 ∧ c ≠ 40
theorem call_facts {o : Int} (h0 : 0 ≤ o) (h : o < 15) : Wd (Ex.nthT Ex.callsT o) ∧ Ex.placeE Ex.callsT (Ex.nthT Ex.callsT o) = o ∧ Ex.placeE Ex.aggsT (Ex.nthT Ex.callsT o) = -1 := by
  obtain rfl | rfl | rfl | rfl | rfl | rfl | rfl | rfl | rfl | rfl | rfl | rfl | rfl | rfl | rfl : o = 0 ∨ o = 1 ∨ o = 2 ∨ o = 3 ∨ o = 4 ∨ o = 5 ∨ o = 6 ∨ o = 7 ∨ o = 8 ∨ o = 9 ∨ o = 10 ∨ o = 11 ∨ o = 12 ∨ o = 13 ∨ o = 14 := by omega
  all_goals exact ⟨⟨by decide, by decide, _, _, rfl, by decide, by decide, by decide, by decide⟩, by decide, by decide⟩
theorem agg_facts {o : Int} (h0 : 0 ≤ o) (h : o < 6) : Wd (Ex.nthT Ex.aggsT o) ∧ Ex.placeE Ex.aggsT (Ex.nthT Ex.aggsT o) = o := by
  obtain rfl | rfl | rfl | rfl | rfl | rfl : o = 0 ∨ o = 1 ∨ o = 2 ∨ o = 3 ∨ o = 4 ∨ o = 5 := by omega
  all_goals exact ⟨⟨by decide, by decide, _, _, rfl, by decide, by decide, by decide, by decide⟩, by decide⟩
theorem peek_drop {w X : List UInt8} (hw : Wd w) (hX : ∀ c ∈ X.head?, letU c = false) : bareF (w ++ X) = w ++ X ∧ Ex.peekW (w ++ X) = w ∧ (w ++ X).drop (Ex.peekW (w ++ X)).length = X := by
  obtain ⟨h1, h2⟩ := peek_word hw.named hX
  exact ⟨h1, h2, by rw [h2, List.drop_left]⟩
theorem callAt_of {w X : List UInt8} (hw : Wd w) (hX : ∀ c ∈ X.head?, letU c = false) : Ex.callAt (w ++ X) = ((decide (0 ≤ Ex.placeE Ex.callsT w) || decide (0 ≤ Ex.placeE Ex.aggsT w)) && (decide ((bareF X).head? = some 40) || (decide (0 ≤ Ex.placeE Ex.aggsT w) && (decide (Ex.peekW X = Ex.byT) || decide (Ex.peekW X = Ex.withoutT))))) := by
  obtain ⟨h1, h2, h3⟩ := peek_drop hw hX
  rw [h2] at h3
  unfold Ex.callAt
  simp only [h1, h2, h3]
theorem head40 (X : List UInt8) : ∀ c ∈ (40 :: X : List UInt8).head?, letU c = false := fun c hc => by
  obtain rfl : (40 : UInt8) = c := Option.some.inj hc
  decide
theorem head32 (X : List UInt8) : ∀ c ∈ (32 :: X : List UInt8).head?, letU c = false := fun c hc => by
  obtain rfl : (32 : UInt8) = c := Option.some.inj hc
  decide
/-- groups behind a name -/
theorem group_form (n : Ex.Nd) (X : List UInt8) : (n.gb = true ∧ n.nm = [] ∧ Ex.groupT n ++ 40 :: X = 40 :: X) ∨
    (n.gb = true ∧ n.nm ≠ [] ∧ Ex.groupT n ++ 40 :: X = 32 :: 98 :: 121 :: 32 :: 40 :: (Ex.joinC n.nm ++ 41 :: 32 :: 40 :: X)) ∨
    (n.gb = false ∧ Ex.groupT n ++ 40 :: X = 32 :: 119 :: 105 :: 116 :: 104 :: 111 :: 117 :: 116 :: 32 :: 40 :: (Ex.joinC n.nm ++ 41 :: 32 :: 40 :: X)) := by
  unfold Ex.groupT
  cases hg : n.gb
  · right; right
    refine ⟨rfl, ?_⟩
    rw [if_neg (by simp)]
    simp
  · by_cases hm : n.nm = []
    · left
      refine ⟨rfl, hm, ?_⟩
      rw [if_pos ⟨rfl, hm⟩]
      rfl
    · right; left
      refine ⟨rfl, hm, ?_⟩
      rw [if_neg (fun h => hm h.2)]
      simp
theorem group_head (n : Ex.Nd) (X : List UInt8) : ∀ c ∈ (Ex.groupT n ++ 40 :: X).head?, letU c = false := by
  rcases group_form n X with ⟨_, _, h⟩ | ⟨_, _, h⟩ | ⟨_, h⟩ <;> rw [h]
  · exact head40 _
  · exact head32 _
  · exact head32 _
theorem group_call (n : Ex.Nd) (X : List UInt8) : (decide ((bareF (Ex.groupT n ++ 40 :: X)).head? = some 40) || (decide (Ex.peekW (Ex.groupT n ++ 40 :: X) = Ex.byT) || decide (Ex.peekW (Ex.groupT n ++ 40 :: X) = Ex.withoutT))) = true := by
  rcases group_form n X with ⟨_, _, h⟩ | ⟨_, _, h⟩ | ⟨_, h⟩ <;> rw [h] <;> rfl
theorem byP_back {n : Ex.Nd} {X : List UInt8} {p : Ex.P} (hn : ∀ s ∈ n.nm, namedF (by_ s) = true) (hb : p.bad = false) (hs : p.s = Ex.groupT n ++ 40 :: X) (o : Int) :
    ∃ s2, bareF s2 = 40 :: X ∧ Ex.byP o p = some ({ Ex.nd0 with k := 8, op := o, gb := n.gb, nm := n.nm }, { p with s := s2 }) := by
  unfold Ex.byP
  rcases group_form n X with ⟨hg, hm, h⟩ | ⟨hg, hm, h⟩ | ⟨hg, h⟩ <;> rw [h] at hs
  · have h1 : Ex.isP Ex.byT p = (false, { p with s := 40 :: X }) := by
      rw [isP_no (by rw [hs]; show ([] : List UInt8) ≠ _; decide)]
      unfold Ex.bareP
      rw [hs]
      rfl
    have h2 : Ex.isP Ex.withoutT { p with s := 40 :: X } = (false, { p with s := 40 :: X }) := by
      rw [isP_no (by show ([] : List UInt8) ≠ _; decide)]
      rfl
    rw [h1]
    simp only
    rw [h2, if_neg Bool.false_ne_true, if_neg Bool.false_ne_true, hg, hm]
    exact ⟨40 :: X, rfl, rfl⟩
  · have h1 : Ex.isP Ex.byT p = (true, { p with s := 32 :: 40 :: (Ex.joinC n.nm ++ 41 :: 32 :: 40 :: X) }) := by
      unfold Ex.isP
      have hpk : Ex.peekW (32 :: 98 :: 121 :: 32 :: 40 :: (Ex.joinC n.nm ++ 41 :: 32 :: 40 :: X)) = Ex.byT := rfl
      rw [hs, if_pos hpk]
      rfl
    have h3 := namesP_back (l := n.nm) (p := { p with s := 32 :: 40 :: (Ex.joinC n.nm ++ 41 :: 32 :: 40 :: X) }) (rest := 32 :: 40 :: X) hn hb rfl
    rw [h1, if_pos rfl]
    simp only
    rw [h3, hg]
    exact ⟨32 :: 40 :: X, rfl, rfl⟩
  · have h1 : Ex.isP Ex.byT p = (false, { p with s := 119 :: 105 :: 116 :: 104 :: 111 :: 117 :: 116 :: 32 :: 40 :: (Ex.joinC n.nm ++ 41 :: 32 :: 40 :: X) }) := by
      rw [isP_no (by rw [hs]; show Ex.withoutT ≠ _; decide)]
      unfold Ex.bareP
      rw [hs]
      rfl
    have h2 : Ex.isP Ex.withoutT { p with s := 119 :: 105 :: 116 :: 104 :: 111 :: 117 :: 116 :: 32 :: 40 :: (Ex.joinC n.nm ++ 41 :: 32 :: 40 :: X) } = (true, { p with s := 32 :: 40 :: (Ex.joinC n.nm ++ 41 :: 32 :: 40 :: X) }) := by
      unfold Ex.isP
      have hpk : Ex.peekW (119 :: 105 :: 116 :: 104 :: 111 :: 117 :: 116 :: 32 :: 40 :: (Ex.joinC n.nm ++ 41 :: 32 :: 40 :: X)) = Ex.withoutT := rfl
      rw [if_pos hpk]
      rfl
    have h3 := namesP_back (l := n.nm) (p := { p with s := 32 :: 40 :: (Ex.joinC n.nm ++ 41 :: 32 :: 40 :: X) }) (rest := 32 :: 40 :: X) hn hb rfl
    rw [h1]
    simp only
    rw [h2, if_neg Bool.false_ne_true, if_pos rfl]
    simp only
    rw [h3, hg]
    exact ⟨32 :: 40 :: X, rfl, rfl⟩

/-! ### a part by its first byte -/
variable {of : Int → Nat}
theorem term_paren {p q : Ex.P} {X : List UInt8} (hs : bareF p.s = 40 :: X) (hb : p.bad = false) (h : Lvl of 0 { p with s := X } q) : Trm of p (Ex.mustP [41] q) := by
  obtain ⟨n, h⟩ := h
  refine ⟨n + 1, ?_⟩
  rw [Ex.parE, hs]
  simp only
  rw [if_neg (by rw [hb]; decide), if_neg (by decide), if_neg (by decide), if_neg (by decide), if_pos trivial, h]
  rfl
theorem term_min {p q : Ex.P} {X : List UInt8} (hs : bareF p.s = 45 :: X) (hb : p.bad = false) (h : Trm of { p with s := X } q) : Trm of p (Ex.putP { Ex.nd0 with k := 4 } q) := by
  obtain ⟨n, h⟩ := h
  refine ⟨n + 1, ?_⟩
  rw [Ex.parE, hs]
  simp only
  rw [if_neg (by rw [hb]; decide), if_pos trivial, h]
  rfl
theorem term_num {p : Ex.P} {c : UInt8} {t : List UInt8} (hs : bareF p.s = c :: t) (hb : p.bad = false) (hc : Ex.digC c = true) : Trm of p (Ex.putP { Ex.nd0 with v := of ((Ex.wholeP 9007199254740992 (Ex.bareP p)).1 : Int) } (Ex.wholeP 9007199254740992 (Ex.bareP p)).2) := by
  refine ⟨1, ?_⟩
  rw [Ex.parE, hs]
  simp only
  rw [if_neg (by rw [hb]; decide), if_neg (by rintro rfl; revert hc; decide), if_pos hc]
theorem term_hex {p : Ex.P} {t : List UInt8} (hs : bareF p.s = 35 :: t) (hb : p.bad = false) : Trm of p (Ex.putP { Ex.nd0 with v := (Ex.bitsP { p with s := t }).1 } (Ex.bitsP { p with s := t }).2) := by
  refine ⟨1, ?_⟩
  rw [Ex.parE, hs]
  simp only
  rw [if_neg (by rw [hb]; decide), if_neg (by decide), if_neg (by decide), if_pos trivial]
theorem term_sel {p : Ex.P} {c : UInt8} {t : List UInt8} (hs : bareF p.s = c :: t) (hb : p.bad = false) (h1 : c ≠ 45) (h2 : Ex.digC c = false) (h3 : c ≠ 35) (h4 : c ≠ 40) (hc : Ex.callAt (c :: t) = false) : Trm of p (Ex.selE (Ex.bareP p)) := by
  refine ⟨1, ?_⟩
  rw [Ex.parE, hs]
  simp only
  rw [if_neg (by rw [hb]; decide), if_neg h1, h2, if_neg (by decide), if_neg h3, if_neg h4, hc, if_neg (by decide)]
theorem term_call {p q : Ex.P} {X : List UInt8} {o : Int} (h0 : 0 ≤ o) (ho : o < 15) (hs : bareF p.s = Ex.nthT Ex.callsT o ++ 40 :: X) (hb : p.bad = false) (h : Lvl of 0 { p with s := X } q) : Trm of p (Ex.putP { Ex.nd0 with k := 3, op := o } (Ex.mustP [41] q)) := by
  obtain ⟨hw, hp, ha⟩ := call_facts h0 ho
  have hc := callAt_of hw (head40 X)
  obtain ⟨_, e2, e3⟩ := peek_drop hw (head40 X)
  rw [e2] at e3
  obtain ⟨c, t, hct, h1, h2, h3, h4⟩ := hw.head
  have hcat : Ex.callAt (Ex.nthT Ex.callsT o ++ 40 :: X) = true := by
    rw [hc, hp, decide_eq_true h0, show bareF (40 :: X) = 40 :: X from rfl]
    simp
  obtain ⟨n, h⟩ := h
  refine ⟨n + 1, ?_⟩
  have hm := must_eat 40 { p with s := 40 :: X } X rfl
  rw [Ex.parE, hs]
  rw [hct, List.cons_append] at e2 e3 hcat ⊢
  rw [hct] at hp ha
  simp only
  rw [if_neg (by rw [hb]; decide), if_neg h1, h2, if_neg (by decide), if_neg h3, if_neg h4, hcat, if_pos rfl, e2, e3, ha, if_neg (by decide), hm, hp, h]
  rfl
theorem term_agg {p q : Ex.P} {X : List UInt8} {n : Ex.Nd} {o : Int} (h0 : 0 ≤ o) (ho : o < 5) (hn : ∀ s ∈ n.nm, namedF (by_ s) = true) (hs : bareF p.s = Ex.nthT Ex.aggsT o ++ (Ex.groupT n ++ 40 :: X)) (hb : p.bad = false) (h : Lvl of 0 { p with s := X } q) : Trm of p (Ex.putP { Ex.nd0 with k := 8, op := o, gb := n.gb, nm := n.nm } (Ex.mustP [41] q)) := by
  obtain ⟨hw, hp⟩ := agg_facts h0 (show o < 6 by omega)
  have hc := callAt_of hw (group_head n X)
  obtain ⟨_, e2, e3⟩ := peek_drop hw (group_head n X)
  rw [e2] at e3
  obtain ⟨c, t, hct, h1, h2, h3, h4⟩ := hw.head
  have hcat : Ex.callAt (Ex.nthT Ex.aggsT o ++ (Ex.groupT n ++ 40 :: X)) = true := by
    rw [hc, hp, decide_eq_true h0, Bool.or_true, Bool.true_and, Bool.true_and]
    exact group_call n X
  obtain ⟨s2, hs2, hby⟩ := byP_back (p := { p with s := Ex.groupT n ++ 40 :: X }) hn hb rfl o
  obtain ⟨m, h⟩ := h
  refine ⟨m + 1, ?_⟩
  have hm := must_eat 40 { p with s := s2 } X hs2
  rw [Ex.parE, hs]
  rw [hct, List.cons_append] at e2 e3 hcat ⊢
  rw [hct] at hp
  simp only
  rw [if_neg (by rw [hb]; decide), if_neg h1, h2, if_neg (by decide), if_neg h3, if_neg h4, hcat, if_pos rfl, e2, e3, hp, if_pos h0, hby]
  simp only [Option.bind_some]
  rw [hm, h]
  simp only [Option.bind_some]
  rw [if_neg (by omega)]
theorem term_quant {p q q2 : Ex.P} {X : List UInt8} {n : Ex.Nd} (hn : ∀ s ∈ n.nm, namedF (by_ s) = true) (hs : bareF p.s = Ex.nthT Ex.aggsT 5 ++ (Ex.groupT n ++ 40 :: X)) (hb : p.bad = false) (h : Lvl of 0 { p with s := X } q) (hq : Lvl of 0 (Ex.mustP [44] q) q2) : Trm of p (Ex.putP { Ex.nd0 with k := 8, op := 5, gb := n.gb, nm := n.nm } (Ex.mustP [41] q2)) := by
  obtain ⟨hw, hp⟩ := agg_facts (o := 5) (by decide) (by decide)
  have hc := callAt_of hw (group_head n X)
  obtain ⟨_, e2, e3⟩ := peek_drop hw (group_head n X)
  rw [e2] at e3
  obtain ⟨c, t, hct, h1, h2, h3, h4⟩ := hw.head
  have hcat : Ex.callAt (Ex.nthT Ex.aggsT 5 ++ (Ex.groupT n ++ 40 :: X)) = true := by
    rw [hc, hp, decide_eq_true (show (0 : Int) ≤ 5 by decide), Bool.or_true, Bool.true_and, Bool.true_and]
    exact group_call n X
  obtain ⟨s2, hs2, hby⟩ := byP_back (p := { p with s := Ex.groupT n ++ 40 :: X }) hn hb rfl 5
  obtain ⟨m, h⟩ := h
  obtain ⟨m2, hq⟩ := hq
  refine ⟨max m m2 + 1, ?_⟩
  have hm := must_eat 40 { p with s := s2 } X hs2
  rw [Ex.parE, hs]
  rw [hct, List.cons_append] at e2 e3 hcat ⊢
  rw [hct] at hp
  simp only
  rw [if_neg (by rw [hb]; decide), if_neg h1, h2, if_neg (by decide), if_neg h3, if_neg h4, hcat, if_pos rfl, e2, e3, hp, if_pos (by decide), hby]
  simp only [Option.bind_some]
  rw [hm, par_mono (Nat.le_max_left m m2) h]
  simp only [Option.bind_some]
  rw [if_pos trivial, par_mono (Nat.le_max_right m m2) hq]
  rfl
end Go.Proofs.YtmbfpichaaanpaaGreatDoor
