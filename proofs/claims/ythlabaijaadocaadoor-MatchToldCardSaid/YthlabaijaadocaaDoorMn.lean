import Derived.Test.YthlabaijaadocaaDoorMm
/-! What a part's matches lead to: one of spans. -/
namespace Go.Proofs.YthlabaijaadocaaDoor
open Go.RowKit Ut Rx

def Bls (w : World) (v : Value) (xs : List Bool) : Prop := w.ownsRow 0 4 1 v xs.length (xs.map Value.bool)
def Rns (w : World) (v : Value) (l : List Int) : Prop := w.ownsRow 0 21 1 v l.length (l.map (Value.int .i32))
theorem Bls.below {w w' : World} {v : Value} {xs : List Bool} (h : Bls w v xs) (b : Below w.heap.size w w') : Bls w' v xs := h.kept (row := none) ⟨b.os, b.tape, b.output, b.size, fun k hk _ => b.block k hk⟩ (by cases v.ownBlock <;> simp)
theorem Rns.below {w w' : World} {v : Value} {xs : List Int} (h : Rns w v xs) (b : Below w.heap.size w w') : Rns w' v xs := h.kept (row := none) ⟨b.os, b.tape, b.output, b.size, fun k hk _ => b.block k hk⟩ (by cases v.ownBlock <;> simp)
/-- what `ends` hands back: new (fr), or what came -/
def EndsPost (fr : Bool) (w : World) (fv : Value) (out : List Bool) (e : Ending) (w' : World) : Prop :=
  ∃ rv, e = .returned rv ∧ Bls w' rv out ∧ ((fr = false ∧ rv = fv) ∨ ∀ k, rv.ownBlock = some k → w.heap.size ≤ k) ∧ Below w.heap.size w w'
/-- the part in block b leads where f says, in every world that is as w is where F says -/
def Den (fr : Bool) (F : Nat → Prop) (w : World) (b : Nat) (f : Fi) : Prop :=
  ∀ w', w.heap.size ≤ w'.heap.size → (∀ k, F k → w'.heap[k]? = w.heap[k]?) → ∀ l lv v fv, Rns w' lv l → Bls w' fv v → v.length = l.length + 1 → l.length ≤ 1000000 →
    Calls Tryd.prog 81 #[.pointer (some ⟨b, 0, none⟩), lv, fv] w' (EndsPost fr w' fv (f l v))

theorem infoBo : (Tryd.prog.info? 4).map (fun i => (i.zero, i.size, i.bytes)) = some (some (.bool false), 1, 1) := by kernel_rfl
/-- n false cells -/
def bz (n : Nat) : Array Value := madeCells (Value.bool false).cells n
theorem run_mk (n : Nat) (hn : n ≤ 4000000) (w : World) : (Instr.makeSlice 129 (.int .i64 (n : Int)) (.int .i64 (n : Int))).run Tryd.prog w = .ok (.slice (some ⟨w.heap.size, 0, none⟩) n n) (w.alloc (.cells (bz n) 4)) := by
  obtain ⟨i0, hi, hz0, hz1, hz2⟩ := info_parts infoBo
  have := run_make (P := Tryd.prog) w 129 4 i0 (.bool false) Tryd.underlying129 hi hz0 .i64 .i64 n n (by omega) (Int.le_refl _) (by rw [hz2]; omega) (by omega)
  rw [this, hz1]
  simp [bz]
theorem bz_list (n : Nat) : (bz n).toList = List.replicate n (.bool false) := by
  unfold bz
  apply List.ext_getElem
  · simp [madeCells]
  · intro i h1 h2
    have e : ∀ j : Nat, j % 1 = 0 := fun j => Nat.mod_one j
    simp [madeCells, Value.cells, e]
theorem mk_row (n : Nat) (hn : n ≤ 4000000) (w : World) : (w.alloc (.cells (bz n) 4)).ownsRow 0 4 1 (.slice (some ⟨w.heap.size, 0, none⟩) n n) n ((List.replicate n false).map Value.bool) := by
  refine ⟨by simp, Or.inr ⟨w.heap.size, n, bz n, rfl, Nat.zero_le _, heap_alloc_new w _, Nat.le_refl _, by unfold maxLen; omega, ?_, ?_⟩⟩
  · have := congrArg List.length (bz_list n)
    simpa using this
  · rw [bz_list]; simp

/-- the first k runes done -/
def oneK (sp : List Span) (but : Bool) (l : List Int) (v : List Bool) (k : Nat) : List Bool := (oneF sp but l v).take (k + 1) ++ List.replicate (v.length - (k + 1)) false
theorem oneF_length {sp : List Span} {but : Bool} {l : List Int} {v : List Bool} (h : v.length = l.length + 1) : (oneF sp but l v).length = v.length := by unfold oneF; simp; omega
theorem oneK_zero {sp : List Span} {but : Bool} {l : List Int} {v : List Bool} (h : v.length = l.length + 1) : oneK sp but l v 0 = List.replicate v.length false := by
  unfold oneK oneF
  rw [h]; simp [List.replicate_succ]
theorem oneK_all {sp : List Span} {but : Bool} {l : List Int} {v : List Bool} (h : v.length = l.length + 1) : oneK sp but l v l.length = oneF sp but l v := by
  unfold oneK
  rw [← h, ← oneF_length h, List.take_length, Nat.sub_self]; simp
theorem oneK_length {sp : List Span} {but : Bool} {l : List Int} {v : List Bool} (h : v.length = l.length + 1) {k : Nat} (hk : k ≤ l.length) : (oneK sp but l v k).length = v.length := by
  unfold oneK
  have := oneF_length (sp := sp) (but := but) h
  simp; omega
theorem oneK_succ {sp : List Span} {but : Bool} {l : List Int} {v : List Bool} (h : v.length = l.length + 1) {k : Nat} (hk : k < l.length) :
    oneK sp but l v (k + 1) = (oneK sp but l v k).set (k + 1) (v[k]'(by omega) && (hasS sp (l[k]'hk) != but)) := by
  have hf := oneF_length (sp := sp) (but := but) h
  have hk1 : k + 1 < (oneF sp but l v).length := by omega
  have hg : (oneF sp but l v)[k + 1] = (v[k]'(by omega) && (hasS sp (l[k]'hk) != but)) := by
    have e : (oneF sp but l v)[k + 1]? = some (v[k]'(by omega) && (hasS sp (l[k]'hk) != but)) := by
      unfold oneF
      rw [List.getElem?_cons_succ, List.getElem?_zipWith]
      simp [List.getElem?_eq_getElem hk, List.getElem?_eq_getElem (show k < v.length by omega)]
    rw [List.getElem?_eq_getElem hk1] at e
    exact Option.some.inj e
  unfold oneK
  rw [List.take_succ_eq_append_getElem hk1, hg]
  have ht : ((oneF sp but l v).take (k + 1)).length = k + 1 := by rw [List.length_take]; omega
  rw [List.set_append_right _ _ (by omega), ht, Nat.sub_self]
  obtain ⟨m, hm⟩ : ∃ m, v.length - (k + 1) = m + 1 := ⟨v.length - (k + 1) - 1, by omega⟩
  rw [hm, List.replicate_succ, List.set_cons_zero, List.append_assoc, show v.length - (k + 1 + 1) = m by omega]
  rfl
theorem OneP.below {w w' : World} {b : Nat} {sp : List Span} {but : Bool} (h : OneP w b sp but) (hb : Below w.heap.size w w') : OneP w' b sp but := by
  obtain ⟨v, pl, pv, sg, hp, ho⟩ := h.part
  exact ⟨v, pl, pv, sg, (hb.block b (Array.getElem?_eq_some_iff.1 hp).1).trans hp, ho.kept (row := none) ⟨hb.os, hb.tape, hb.output, hb.size, fun k hk _ => hb.block k hk⟩ (by cases v.ownBlock <;> simp)⟩

set_option maxRecDepth 100000 in
set_option maxHeartbeats 4000000 in
theorem ends_one (b : Nat) (sp : List Span) (but : Bool) (w : World) (h : OneP w b sp but) (hlen : sp.length ≤ 4000000) (l : List Int) (lv : Value) (v : List Bool) (fv : Value)
    (hl : Rns w lv l) (hv : Bls w fv v) (hvl : v.length = l.length + 1) (hll : l.length ≤ 1000000) :
    Calls Tryd.prog 81 #[.pointer (some ⟨b, 0, none⟩), lv, fv] w (EndsPost true w fv (oneF sp but l v)) := by
  have k0 : w.cell? ⟨b, 0, none⟩ = some (.int .i64 0) := by
    obtain ⟨sv, pl, pv, sg, hb, _⟩ := h.part
    unfold World.cell?; rw [hb]; rfl
  have hv0 : 0 < v.length := by omega
  have hv1 : v.length ≤ 1000001 := by omega
  obtain ⟨g, cap, rfl, hcap⟩ : ∃ g c, fv = .slice (some ⟨g, 0, none⟩) v.length c ∧ v.length ≤ c := by
    rcases row_kinds hv with ⟨_, hn⟩ | h
    · omega
    · exact h
  have HV := Lib.hid hv
  have HL := Lib.hid hl
  have H := Lib.hid h
  clear hv hl h
  have VL := Lib.hid hvl
  clear hvl
  have hmk := run_mk v.length (by omega) w
  have MR : Hid ((w.alloc (.cells (bz v.length) 4)).ownsRow 0 4 1 (.slice (some ⟨w.heap.size, 0, none⟩) v.length v.length) v.length ((oneK sp but l v 0).map Value.bool)) := by
    show World.ownsRow _ _ _ _ _ _ _
    rw [oneK_zero VL.out]; exact mk_row v.length (by omega) w
  have B0 : Hid (Below w.heap.size w (w.alloc (.cells (bz v.length) 4))) := (Below.refl _ _).alloc (Nat.le_refl _) _
  have OUT : Hid (∀ wr, wr.ownsRow 0 4 1 (.slice (some ⟨w.heap.size, 0, none⟩) v.length v.length) v.length ((oneK sp but l v l.length).map Value.bool) → Below w.heap.size w wr → EndsPost true w (.slice (some ⟨g, 0, none⟩) v.length cap) (oneF sp but l v) (.returned (.slice (some ⟨w.heap.size, 0, none⟩) v.length v.length)) wr) := fun wr h1 h2 => by
    rw [oneK_all VL.out] at h1
    refine ⟨_, rfl, ?_, Or.inr fun k hk => ?_, h2⟩
    · unfold Bls; rw [oneF_length VL.out]; exact h1
    · have : w.heap.size = k := Option.some.inj hk
      omega
  rcases row_kinds HL.out with ⟨rfl, hn⟩ | ⟨gl, cl, rfl, hcl⟩
  · obtain rfl : l = [] := List.eq_nil_of_length_eq_zero hn
    clear hn
    go_enter Tryd.func81, Tryd.ntmps81
    go_wp2_with fail
    go_loopg [26] 0 (fun gk vk wr => vk = .int .i64 0 ∧ wr = w.alloc (.cells (bz v.length) 4))
    case atStart => exact ⟨rfl, rfl⟩
    case round =>
      obtain ⟨rfl, rfl⟩ := hrel
      go_wp2_with fail
      go_ret
      exact OUT.out _ MR.out B0.out
  · have CL := Lib.hid (row_cell HL.out rfl).2.2
    have CV := Lib.hid (row_cell HV.out rfl).2.2
    go_enter Tryd.func81, Tryd.ntmps81
    go_wp2_with fail
    go_loopg [26] l.length (fun gk vk wr => ∃ k : Nat, vk = .int .i64 k ∧ k + gk = l.length ∧ Hid (Below w.heap.size w wr) ∧ Hid (wr.ownsRow 0 4 1 (.slice (some ⟨w.heap.size, 0, none⟩) v.length v.length) v.length ((oneK sp but l v k).map Value.bool)))
    case atStart => exact ⟨0, rfl, by omega, B0, MR⟩
    case round =>
      obtain ⟨k, rfl, hk, HB, HO⟩ := hrel
      clear MR B0
      by_cases hlt : k < l.length
      · have hkv : k < v.length := by have := VL.out; omega
        have hkv2 : (k : Int) < v.length := by omega
        have hkv1 : (k : Int) + 1 < v.length := by have := VL.out; omega
        have lgl := World.block_lt_of_cell? w _ (CL.out k _ (by rw [List.getElem?_map, List.getElem?_eq_getElem hlt]; rfl))
        have lgv := World.block_lt_of_cell? w _ (CV.out k _ (by rw [List.getElem?_map, List.getElem?_eq_getElem hkv]; rfl))
        have cl : wr.cell? ⟨gl, k, none⟩ = some (.int .i32 (l[k]'hlt)) := (HB.out.cell (p := ⟨gl, k, none⟩) lgl).trans (CL.out k _ (by rw [List.getElem?_map, List.getElem?_eq_getElem hlt]; rfl))
        have cv : wr.cell? ⟨g, k, none⟩ = some (.bool (v[k]'hkv)) := (HB.out.cell (p := ⟨g, k, none⟩) lgv).trans (CV.out k _ (by rw [List.getElem?_map, List.getElem?_eq_getElem hkv]; rfl))
        have OL := Lib.hid (oneK_length (sp := sp) (but := but) VL.out (Nat.le_of_lt hlt))
        have ST := Lib.hid (oneK_succ (sp := sp) (but := but) VL.out hlt)
        have HAS := Lib.hid (has_any b sp but (l[k]'hlt) wr (H.out.below HB.out) hlen)
        have HO1 := Lib.hid (fun (wq : World) (hq : Below wr.heap.size wr wq) (x : Bool) (e : oneK sp but l v (k + 1) = (oneK sp but l v k).set (k + 1) x) => show (wq.setCell ⟨w.heap.size, k + 1, none⟩ (.bool x)).ownsRow 0 4 1 (.slice (some ⟨w.heap.size, 0, none⟩) v.length v.length) v.length ((oneK sp but l v (k + 1)).map Value.bool) from by
          rw [e, List.map_set]
          exact row_set (HO.out.kept (row := none) ⟨hq.os, hq.tape, hq.output, hq.size, fun k hk _ => hq.block k hk⟩ (by simp [Value.ownBlock])) _)
        have CO := Lib.hid (fun (wq : World) (hq : Below wr.heap.size wr wq) => show ∃ y, wq.cell? ⟨w.heap.size, k + 1, none⟩ = some (.bool y) ∧ wq.frozen? ⟨w.heap.size, k + 1, none⟩ = false from by
          have ho := HO.out.kept (w' := wq) (row := none) ⟨hq.os, hq.tape, hq.output, hq.size, fun k hk _ => hq.block k hk⟩ (by simp [Value.ownBlock])
          have hi : k + 1 < (oneK sp but l v k).length := by rw [OL.out]; have := VL.out; omega
          exact ⟨_, (row_cell ho rfl).2.2 (k + 1) _ (by rw [List.getElem?_map, List.getElem?_eq_getElem hi]; rfl), row_free ho _⟩)
        generalize (l[k]'hlt) = c at cl HAS ST
        cases hvk : v[k]'hkv with
        | false =>
          rw [hvk] at cv
          have E : Hid (oneK sp but l v (k + 1) = (oneK sp but l v k).set (k + 1) false) := by show _ = _; rw [ST.out, hvk]; rfl
          obtain ⟨y, co, fo⟩ := CO.out wr (Below.refl _ _)
          clear hvk ST HAS
          go_wp2_with fail
          go_roundg (gk - 1)
          case measure => omega
          case rel => exact ⟨k + 1, by go_num, by omega, HB.out.setCell (Nat.le_refl _) _, HO1.out wr (Below.refl _ _) _ E.out⟩
        | true =>
          rw [hvk] at cv
          have E : Hid (oneK sp but l v (k + 1) = (oneK sp but l v k).set (k + 1) (hasS sp c != but)) := by show _ = _; rw [ST.out, hvk]; rfl
          clear hvk ST
          go_wp2_with fail
          refine HAS.out.mono ?_
          rintro e wq ⟨rfl, hq⟩
          obtain ⟨y, co, fo⟩ := CO.out wq hq
          have HQ := Lib.hid hq
          clear hq
          go_wp2_with fail
          go_roundg (gk - 1)
          case measure => omega
          case rel => exact ⟨k + 1, by go_num, by omega, ((HB.out.trans (HQ.out.mono HB.out.size)).setCell (Nat.le_refl _) _), HO1.out wq HQ.out _ E.out⟩
      · obtain rfl : k = l.length := by omega
        go_wp2_with fail
        go_ret
        exact OUT.out wr HO.out HB.out
end Go.Proofs.YthlabaijaadocaaDoor
