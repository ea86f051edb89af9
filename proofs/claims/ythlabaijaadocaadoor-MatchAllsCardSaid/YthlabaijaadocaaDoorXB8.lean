import Derived.Test.YthlabaijaadocaaDoorXQr
import Derived.Laws.CopyOwn
/-! The reference's matching: nothing; one behind the other. -/
namespace Go.Proofs.YthlabaijaadocaaDoor
open Go.RowKit Ut Rx Mt Go.Lib

theorem setRow_bls {w : World} {g : Nat} {v : List Bool} (h : ∃ cur, w.heap[g]? = some (.cells cur 4 (0, 0))) (hl : v.length ≤ 4000000) : (w.setRow g (v.map Value.bool).toArray).ownsRow 0 4 1 (.slice (some ⟨g, 0, none⟩) v.length v.length) v.length (v.map Value.bool) := by
  obtain ⟨cur, hc⟩ := h
  have e : (w.setRow g (v.map Value.bool).toArray).heap[g]? = some (.cells (v.map Value.bool).toArray 4 (0, 0)) := by
    simp [World.setRow, Array.getElem?_modify, hc]
  refine ⟨by simp, Or.inr ⟨g, v.length, _, rfl, Nat.zero_le _, e, Nat.le_refl _, by unfold maxLen; omega, by simp, by rw [List.take_of_length_le (by simp)]⟩⟩

set_option maxRecDepth 100000 in
set_option maxHeartbeats 4000000 in
theorem leads_nil (w0 : World) (g i : Nat) (nd : Nd) (h0 : NodeAt w0 g i nd) (hk : nd.k = 6) (hs : nd.s = .slice none 0 0) : Leads w0 g i (fun _ v => v) := by
  intro w hw l lv v fv hl hv hvl hll
  obtain ⟨bn, n, cap, c3, hi, hn, d0, d1, d2, d3, d4⟩ := (h0.below hw).ex
  rw [hk] at d0
  rw [hs] at d3
  clear h0 hw hk hs
  have hv0 : 0 < v.length := by omega
  have hv1 : v.length ≤ 1000001 := by omega
  have hiI : (i : Int) < n := by omega
  obtain ⟨gv, capv, rfl, hcap⟩ : ∃ g c, fv = .slice (some ⟨g, 0, none⟩) v.length c ∧ v.length ≤ c := by
    rcases row_kinds hv with ⟨_, hn⟩ | h
    · omega
    · exact h
  have HV := Lib.hid hv
  clear hv hl hvl
  obtain ⟨w1, hw1⟩ : ∃ x, x = w.alloc (.cells #[.int .i64 6, .int .i64 nd.a, .int .i64 nd.b, .slice none 0 0, .bool nd.t] 142) := ⟨_, rfl⟩
  have nb : w1.heap[w.heap.size]? = some (.cells #[.int .i64 6, .int .i64 nd.a, .int .i64 nd.b, .slice none 0 0, .bool nd.t] 142 (0, 0)) := by rw [hw1]; exact heap_alloc_new w _
  have z1 : w1.heap.size = w.heap.size + 1 := by rw [hw1]; simp
  have B1 : Hid (Below w.heap.size w w1) := by rw [hw1]; exact (Below.refl _ _).alloc (Nat.le_refl _) _
  have hmk := run_mk v.length (by omega) (w.alloc (.cells #[.int .i64 6, .int .i64 nd.a, .int .i64 nd.b, .slice none 0 0, .bool nd.t] 142))
  have B0 : Hid (Below w1.heap.size w1 (w1.alloc (.cells (bz v.length) 4))) := (Below.refl _ _).alloc (Nat.le_refl _) _
  have e0 : (w1.alloc (.cells (bz v.length) 4)).cell? ⟨w.heap.size, 0, none⟩ = some (.int .i64 6) := by
    have h := (B0.out.block w.heap.size (by omega)).trans nb
    exact blk_cell h 0
  rw [hw1] at e0
  have CV := Lib.hid (row_cell HV.out rfl).2.2
  have nb2 := heap_alloc_new w1 (.cells (bz v.length) 4)
  have SRC : Hid (∀ j u, (v.map Value.bool)[j]? = some u → (w1.alloc (.cells (bz v.length) 4)).cell? ((⟨gv, 0, none⟩ : Addr).add j) = some u) := fun j u hu => by
    have h1 := CV.out j u hu
    have lt := World.block_lt_of_cell? w _ h1
    have e : ((⟨gv, 0, none⟩ : Addr).add j) = ⟨gv, j, none⟩ := by unfold Addr.add; split <;> simp_all
    rw [e]
    exact ((B1.out.trans (B0.out.mono B1.out.size)).cell (p := ⟨gv, j, none⟩) lt).trans h1
  have ONE : Hid (∀ u ∈ v.map Value.bool, u.oneCell' = true) := fun u hu => by
    obtain ⟨b, _, rfl⟩ := List.mem_map.1 hu
    rfl
  have FIT : Hid (0 + (v.map Value.bool).length ≤ (bz v.length).size) := by
    have := congrArg List.length (bz_list v.length)
    show _ ≤ _
    simp at this ⊢
    omega
  have LEN : Hid ((v.map Value.bool).length = Nat.min v.length v.length) := by show _ = _; simp
  have DONE : Hid (∀ wr, wr = (w1.alloc (.cells (bz v.length) 4)).setRow w1.heap.size ((bz v.length).toList.take 0 ++ ((v.map Value.bool) ++ (bz v.length).toList.drop (0 + (v.map Value.bool).length))).toArray → EndsPost true w (.slice (some ⟨gv, 0, none⟩) v.length capv) v (.returned (.slice (some ⟨w1.heap.size, 0, none⟩) v.length v.length)) wr) := fun wr hwr => by
    have e : ((bz v.length).toList.take 0 ++ ((v.map Value.bool) ++ (bz v.length).toList.drop (0 + (v.map Value.bool).length))).toArray = (v.map Value.bool).toArray := by
      rw [bz_list, List.drop_of_length_le (by simp)]; simp
    rw [e] at hwr
    subst hwr
    refine ⟨_, rfl, setRow_bls ⟨_, nb2⟩ (by omega), Or.inr fun k hk => ?_, below_setRow (B1.out.trans (B0.out.mono B1.out.size)) (by omega) _⟩
    have : w1.heap.size = k := Option.some.inj hk
    omega
  rw [z1] at nb2 DONE
  rw [hw1] at nb2 SRC DONE
  clear hw1
  go_enter Tryd.func83, Tryd.ntmps83
  go_wp2_with (refine wpList_copy_own rfl (.tmp 128) (.tmp 129) 129 129 rfl 4 Tryd.underlying129 (by kernel_rfl) _ 0 v.length v.length ⟨gv, 0, none⟩ v.length capv rfl rfl (bz v.length) 4 nb2 (v.map Value.bool) LEN.out SRC.out FIT.out ONE.out ?_)
  go_ret
  exact DONE.out _ (by simp)
end Go.Proofs.YthlabaijaadocaaDoor

/-! The reference's matching: one behind the other. -/
namespace Go.Proofs.YthlabaijaadocaaDoor
open Go.RowKit Ut Rx Mt Go.Lib

set_option maxRecDepth 100000 in
set_option maxHeartbeats 4000000 in
theorem leads_cat (w0 : World) (g i j k : Nat) (f h : Fi) (nd : Nd) (h0 : NodeAt w0 g i nd) (hk : nd.k = 1) (hs : nd.s = .slice none 0 0) (ha : nd.a = j) (hb : nd.b = k) (hA : Leads w0 g j f) (hB : Leads w0 g k h) (hf : Keeps f) : Leads w0 g i (fun l v => h l (f l v)) := by
  intro w hw l lv v fv hl hv hvl hll
  obtain ⟨bn, n, cap, c3, hi, hn, d0, d1, d2, d3, d4⟩ := (h0.below hw).ex
  rw [hk] at d0
  rw [hs] at d3
  rw [ha] at d1
  rw [hb] at d2
  have LA : Hid (∀ w', Below w.heap.size w w' → ∀ lv v fv, Rns w' lv l → Bls w' fv v → v.length = l.length + 1 → Calls Tryd.prog 83 #[.pointer (some ⟨g, 3, none⟩), .int .i64 (j : Int), lv, fv] w' (EndsPost true w' fv (f l v))) := fun w' b lv v fv h1 h2 h3 => hA w' (hw.trans (b.mono hw.size)) l lv v fv h1 h2 h3 hll
  have LB : Hid (∀ w', Below w.heap.size w w' → ∀ lv v fv, Rns w' lv l → Bls w' fv v → v.length = l.length + 1 → Calls Tryd.prog 83 #[.pointer (some ⟨g, 3, none⟩), .int .i64 (k : Int), lv, fv] w' (EndsPost true w' fv (h l v))) := fun w' b lv v fv h1 h2 h3 => hB w' (hw.trans (b.mono hw.size)) l lv v fv h1 h2 h3 hll
  clear h0 hw hk hs ha hb hA hB
  have hv0 : 0 < v.length := by omega
  have hv1 : v.length ≤ 1000001 := by omega
  have hiI : (i : Int) < n := by omega
  obtain ⟨gv, capv, rfl, hcap⟩ : ∃ g c, fv = .slice (some ⟨g, 0, none⟩) v.length c ∧ v.length ≤ c := by
    rcases row_kinds hv with ⟨_, hn⟩ | h
    · omega
    · exact h
  have HV := Lib.hid hv
  have HL := Lib.hid hl
  have VL := Lib.hid hvl
  clear hv hl hvl
  obtain ⟨w1, hw1⟩ : ∃ x, x = w.alloc (.cells #[.int .i64 1, .int .i64 (j : Int), .int .i64 (k : Int), .slice none 0 0, .bool nd.t] 142) := ⟨_, rfl⟩
  have nb : w1.heap[w.heap.size]? = some (.cells #[.int .i64 1, .int .i64 (j : Int), .int .i64 (k : Int), .slice none 0 0, .bool nd.t] 142 (0, 0)) := by rw [hw1]; exact heap_alloc_new w _
  have z1 : w1.heap.size = w.heap.size + 1 := by rw [hw1]; simp
  have B1 : Hid (Below w.heap.size w w1) := by rw [hw1]; exact (Below.refl _ _).alloc (Nat.le_refl _) _
  have hmk := run_mk v.length (by omega) (w.alloc (.cells #[.int .i64 1, .int .i64 (j : Int), .int .i64 (k : Int), .slice none 0 0, .bool nd.t] 142))
  have B0 : Hid (Below w1.heap.size w1 (w1.alloc (.cells (bz v.length) 4))) := (Below.refl _ _).alloc (Nat.le_refl _) _
  have N5 : Hid (∀ wq, Below w1.heap.size w1 wq → wq.cell? ⟨w.heap.size, 1, none⟩ = some (.int .i64 j) ∧ wq.cell? ⟨w.heap.size, 2, none⟩ = some (.int .i64 k)) := fun wq hq => by
    have h := (hq.block w.heap.size (by omega)).trans nb
    exact ⟨blk_cell h 1, blk_cell h 2⟩
  have e0 : (w1.alloc (.cells (bz v.length) 4)).cell? ⟨w.heap.size, 0, none⟩ = some (.int .i64 1) := by
    have h := (B0.out.block w.heap.size (by omega)).trans nb
    exact blk_cell h 0
  obtain ⟨w2, hw2⟩ : ∃ x, x = w1.alloc (.cells (bz v.length) 4) := ⟨_, rfl⟩
  have B2 : Hid (Below w.heap.size w w2) := by rw [hw2]; exact B1.out.trans (B0.out.mono B1.out.size)
  have B02 : Hid (Below w1.heap.size w1 w2) := by rw [hw2]; exact B0.out
  rw [hw1] at e0 hw2
  obtain ⟨e1, e2⟩ := N5.out _ B02.out
  clear hw1 nb B0
  go_enter Tryd.func83, Tryd.ntmps83
  go_wp2_with fail
  rw [← hw2]
  clear hw2 hmk e0
  have KP : Hid (∀ w', Below w2.heap.size w2 w' → w'.cell? ⟨w.heap.size, 1, none⟩ = some (.int .i64 j) ∧ w'.cell? ⟨w.heap.size, 2, none⟩ = some (.int .i64 k) ∧ Below w2.heap.size w2 w') := fun w' hb => ⟨(N5.out w' (B02.out.trans (hb.mono B02.out.size))).1, (N5.out w' (B02.out.trans (hb.mono B02.out.size))).2, hb⟩
  have LA2 : Hid (∀ w', Below w2.heap.size w2 w' → Calls Tryd.prog 83 #[.pointer (some ⟨g, 3, none⟩), .int .i64 (j : Int), lv, .slice (some ⟨gv, 0, none⟩) v.length capv] w' (fun e w3 => ∃ rv, e = .returned rv ∧ Bls w3 rv (f l v) ∧ Below w2.heap.size w2 w3)) := fun w' hb => by
    have b := B2.out.trans (hb.mono B2.out.size)
    refine (LA.out w' b _ _ _ (HL.out.below b) (HV.out.below b) VL.out).mono ?_
    rintro e w3 ⟨rv, rfl, h1, _, h3⟩
    exact ⟨rv, rfl, h1, hb.trans (h3.mono hb.size)⟩
  have LB2 : Hid (∀ w', Below w2.heap.size w2 w' → ∀ rv, Bls w' rv (f l v) → Calls Tryd.prog 83 #[.pointer (some ⟨g, 3, none⟩), .int .i64 (k : Int), lv, rv] w' (fun e w5 => ∃ rv5, e = .returned rv5 ∧ Below w2.heap.size w2 w5 ∧ EndsPost true w (.slice (some ⟨gv, 0, none⟩) v.length capv) (h l (f l v)) (.returned rv5) w5)) := fun w' hb rv hr => by
    have b := B2.out.trans (hb.mono B2.out.size)
    refine (LB.out w' b _ _ _ (HL.out.below b) hr (hf l v VL.out)).mono ?_
    rintro e w5 ⟨rv5, rfl, h1, h2, h3⟩
    refine ⟨rv5, rfl, hb.trans (h3.mono hb.size), rv5, rfl, h1, Or.inr fun q hq => ?_, b.trans (h3.mono b.size)⟩
    rcases h2 with ⟨h, _⟩ | h
    · cases h
    · exact Nat.le_trans b.size (h q hq)
  have b22 : Below w2.heap.size w2 w2 := Below.refl _ _
  go_region_held3 (fun w' => w'.cell? ⟨w.heap.size, 1, none⟩ = some (.int .i64 j) ∧ w'.cell? ⟨w.heap.size, 2, none⟩ = some (.int .i64 k) ∧ Below w2.heap.size w2 w')
    ((refine KP.out _ ?_; (try go_split_ands); (repeat (first | refine Below.drew ?_ | refine below_drewN ?_ _)); assumption))
    (first
      | (go_at_call 83; with_reducible refine Calls.mono (LA2.out _ ?_) ?_; (repeat (first | refine Below.drew ?_ | refine below_drewN ?_ _)); assumption; rintro e w3 ⟨rv, rfl, hbl, hb3⟩)
      | (go_at_call 83; with_reducible refine Calls.mono (LB2.out _ ?_ _ ?_) ?_; (repeat (first | refine Below.drew ?_ | refine below_drewN ?_ _)); assumption; assumption; rintro e w5 ⟨rv5, rfl, hb5, hend⟩))
  all_goals
    have HE := Lib.hid hend
    clear hend
    go_wp2_with fail
    go_ret
    exact HE.out
end Go.Proofs.YthlabaijaadocaaDoor

/-! The reference's matching: one or the other. -/
namespace Go.Proofs.YthlabaijaadocaaDoor
open Go.RowKit Ut Rx Mt Go.Lib

/-- the first k places of t, no more -/
def fillK (t : List Bool) (k : Nat) : List Bool := t.take k ++ List.replicate (t.length - k) false
theorem fillK_zero (t : List Bool) : fillK t 0 = List.replicate t.length false := by simp [fillK]
theorem fillK_all (t : List Bool) : fillK t t.length = t := by simp [fillK]
theorem fillK_len (t : List Bool) {k : Nat} (hk : k ≤ t.length) : (fillK t k).length = t.length := by simp [fillK]; omega
theorem fillK_succ (t : List Bool) {k : Nat} (hk : k < t.length) : fillK t (k + 1) = (fillK t k).set k t[k] := by
  unfold fillK
  have ht : (t.take k).length = k := by rw [List.length_take]; omega
  rw [List.set_append_right _ _ (by omega), ht, Nat.sub_self]
  obtain ⟨m, hm⟩ : ∃ m, t.length - k = m + 1 := ⟨t.length - k - 1, by omega⟩
  rw [hm, List.replicate_succ, List.set_cons_zero, List.take_succ_eq_append_getElem hk, List.append_assoc, show t.length - (k + 1) = m by omega]
  rfl
theorem orF_at {a b : List Bool} (h : a.length = b.length) {k : Nat} (hk : k < a.length) (hk2 : k < (orF a b).length) : (orF a b)[k]'hk2 = (a[k] || b[k]'(by omega)) := by
  have e : (orF a b)[k]? = some (a[k] || b[k]'(by omega)) := by
    unfold orF
    rw [List.getElem?_zipWith]
    simp [List.getElem?_eq_getElem hk, List.getElem?_eq_getElem (show k < b.length by omega)]
  rw [List.getElem?_eq_getElem hk2] at e
  exact Option.some.inj e
theorem Bls.form {w : World} {rv : Value} {xs : List Bool} {n : Nat} (h : Bls w rv xs) (hn : xs.length = n) (h0 : 0 < n) : ∃ g c, rv = .slice (some ⟨g, 0, none⟩) n c ∧ w.ownsRow 0 4 1 (.slice (some ⟨g, 0, none⟩) n c) n (xs.map Value.bool) := by
  subst hn
  have h1 : w.ownsRow 0 4 1 rv xs.length (xs.map Value.bool) := h
  rcases row_kinds h1 with ⟨_, hn⟩ | ⟨g, c, rfl, _⟩
  · omega
  · exact ⟨g, c, rfl, h1⟩
/-- a row of places, above what was there -/
structure RowAt (w2 w : World) (n g c : Nat) (xs : List Bool) : Prop where
  own : w.ownsRow 0 4 1 (.slice (some ⟨g, 0, none⟩) n c) n (xs.map Value.bool)
  len : xs.length = n
  above : w2.heap.size ≤ g
theorem RowAt.below {w2 w w' : World} {n g c : Nat} {xs : List Bool} (h : RowAt w2 w n g c xs) (b : Below w.heap.size w w') : RowAt w2 w' n g c xs :=
  ⟨h.own.kept (row := none) ⟨b.os, b.tape, b.output, b.size, fun k hk _ => b.block k hk⟩ (by simp [Value.ownBlock]), h.len, h.above⟩
theorem RowAt.grown {w2 w w' : World} {n g c T : Nat} {xs : List Bool} (h : RowAt w2 w n g c xs) (b : w.grownBy w' (some T)) (hT : T < w2.heap.size) : RowAt w2 w' n g c xs :=
  ⟨h.own.kept b (Or.inr (fun e => by have : g = T := Option.some.inj e; have := h.above; omega)), h.len, h.above⟩
theorem RowAt.cell {w2 w : World} {n g c : Nat} {xs : List Bool} (h : RowAt w2 w n g c xs) (k : Nat) (hk : k < n) : w.cell? ⟨g, k, none⟩ = some (.bool (xs[k]'(by have := h.len; omega))) :=
  (row_cell h.own rfl).2.2 k _ (by rw [List.getElem?_map, List.getElem?_eq_getElem (by have := h.len; omega)]; rfl)
theorem RowAt.cellG {w2 w w' : World} {n g c T : Nat} {xs : List Bool} (h : RowAt w2 w n g c xs) (b : w.grownBy w' (some T)) (hT : T < w2.heap.size) (k : Nat) (hk : k < n) : w'.cell? ⟨g, k, none⟩ = some (.bool (xs[k]'(by have := h.len; omega))) := (h.grown b hT).cell k hk

set_option maxRecDepth 100000 in
set_option maxHeartbeats 4000000 in
theorem leads_alt (w0 : World) (g i j k : Nat) (f h : Fi) (nd : Nd) (h0 : NodeAt w0 g i nd) (hk : nd.k = 2) (hs : nd.s = .slice none 0 0) (ha : nd.a = j) (hb : nd.b = k) (hA : Leads w0 g j f) (hB : Leads w0 g k h) (hf : Keeps f) (hh : Keeps h) : Leads w0 g i (fun l v => orF (f l v) (h l v)) := by
  intro w hw l lv v fv hl hv hvl hll
  obtain ⟨bn, n, cap, c3, hi, hn, d0, d1, d2, d3, d4⟩ := (h0.below hw).ex
  rw [hk] at d0
  rw [hs] at d3
  rw [ha] at d1
  rw [hb] at d2
  have LA : Hid (∀ w', Below w.heap.size w w' → ∀ lv v fv, Rns w' lv l → Bls w' fv v → v.length = l.length + 1 → Calls Tryd.prog 83 #[.pointer (some ⟨g, 3, none⟩), .int .i64 (j : Int), lv, fv] w' (EndsPost true w' fv (f l v))) := fun w' b lv v fv h1 h2 h3 => hA w' (hw.trans (b.mono hw.size)) l lv v fv h1 h2 h3 hll
  have LB : Hid (∀ w', Below w.heap.size w w' → ∀ lv v fv, Rns w' lv l → Bls w' fv v → v.length = l.length + 1 → Calls Tryd.prog 83 #[.pointer (some ⟨g, 3, none⟩), .int .i64 (k : Int), lv, fv] w' (EndsPost true w' fv (h l v))) := fun w' b lv v fv h1 h2 h3 => hB w' (hw.trans (b.mono hw.size)) l lv v fv h1 h2 h3 hll
  clear h0 hw hk hs ha hb hA hB
  have hv0 : 0 < v.length := by omega
  have hv1 : v.length ≤ 1000001 := by omega
  have hiI : (i : Int) < n := by omega
  obtain ⟨gv, capv, rfl, hcap⟩ : ∃ g c, fv = .slice (some ⟨g, 0, none⟩) v.length c ∧ v.length ≤ c := by
    rcases row_kinds hv with ⟨_, hn⟩ | h
    · omega
    · exact h
  have HV := Lib.hid hv
  have HL := Lib.hid hl
  have VL := Lib.hid hvl
  clear hv hl hvl
  obtain ⟨w1, hw1⟩ : ∃ x, x = w.alloc (.cells #[.int .i64 2, .int .i64 (j : Int), .int .i64 (k : Int), .slice none 0 0, .bool nd.t] 142) := ⟨_, rfl⟩
  have nb : w1.heap[w.heap.size]? = some (.cells #[.int .i64 2, .int .i64 (j : Int), .int .i64 (k : Int), .slice none 0 0, .bool nd.t] 142 (0, 0)) := by rw [hw1]; exact heap_alloc_new w _
  have z1 : w1.heap.size = w.heap.size + 1 := by rw [hw1]; simp
  have B1 : Hid (Below w.heap.size w w1) := by rw [hw1]; exact (Below.refl _ _).alloc (Nat.le_refl _) _
  have hmk := run_mk v.length (by omega) (w.alloc (.cells #[.int .i64 2, .int .i64 (j : Int), .int .i64 (k : Int), .slice none 0 0, .bool nd.t] 142))
  have B0 : Hid (Below w1.heap.size w1 (w1.alloc (.cells (bz v.length) 4))) := (Below.refl _ _).alloc (Nat.le_refl _) _
  have N5 : Hid (∀ wq, Below w1.heap.size w1 wq → wq.cell? ⟨w.heap.size, 1, none⟩ = some (.int .i64 j) ∧ wq.cell? ⟨w.heap.size, 2, none⟩ = some (.int .i64 k)) := fun wq hq => by
    have h := (hq.block w.heap.size (by omega)).trans nb
    exact ⟨blk_cell h 1, blk_cell h 2⟩
  have e0 : (w1.alloc (.cells (bz v.length) 4)).cell? ⟨w.heap.size, 0, none⟩ = some (.int .i64 2) := by
    have h := (B0.out.block w.heap.size (by omega)).trans nb
    exact blk_cell h 0
  obtain ⟨w2, hw2⟩ : ∃ x, x = w1.alloc (.cells (bz v.length) 4) := ⟨_, rfl⟩
  have B2 : Hid (Below w.heap.size w w2) := by rw [hw2]; exact B1.out.trans (B0.out.mono B1.out.size)
  have B02 : Hid (Below w1.heap.size w1 w2) := by rw [hw2]; exact B0.out
  have hfl : (f l v).length = v.length := by rw [VL.out]; exact hf l v VL.out
  have hhl : (h l v).length = v.length := by rw [VL.out]; exact hh l v VL.out
  have hol : (orF (f l v) (h l v)).length = v.length := by rw [orF_length (by omega)]; exact hfl
  have z2 : w2.heap.size = w.heap.size + 2 := by rw [hw2]; simp [z1]
  have MR : Hid (w2.ownsRow 0 4 1 (.slice (some ⟨w.heap.size + 1, 0, none⟩) v.length v.length) v.length ((fillK (orF (f l v) (h l v)) 0).map Value.bool)) := by
    show World.ownsRow _ _ _ _ _ _ _
    rw [fillK_zero, hol, hw2, ← z1]; exact mk_row v.length (by omega) w1
  have OUT : Hid (∀ wr, wr.ownsRow 0 4 1 (.slice (some ⟨w.heap.size + 1, 0, none⟩) v.length v.length) v.length ((fillK (orF (f l v) (h l v)) v.length).map Value.bool) → Below w.heap.size w wr → EndsPost true w (.slice (some ⟨gv, 0, none⟩) v.length capv) (orF (f l v) (h l v)) (.returned (.slice (some ⟨w.heap.size + 1, 0, none⟩) v.length v.length)) wr) := fun wr h1 h2 => by
    rw [← hol, fillK_all, hol] at h1
    refine ⟨_, rfl, ?_, Or.inr fun k hk => ?_, h2⟩
    · unfold Bls; rw [hol]; exact h1
    · have : w.heap.size + 1 = k := Option.some.inj hk
      omega
  have OS : Hid (∀ k (hk : k < v.length), fillK (orF (f l v) (h l v)) (k + 1) = (fillK (orF (f l v) (h l v)) k).set k ((f l v)[k]'(by omega) || (h l v)[k]'(by omega))) := fun k hk => by
    rw [fillK_succ _ (by omega), orF_at (by omega) (by omega)]
  have OK : Hid (∀ k, k ≤ v.length → (fillK (orF (f l v) (h l v)) k).length = v.length) := fun k hk => by rw [fillK_len _ (by omega)]; exact hol
  rw [hw1] at e0 hw2
  obtain ⟨e1, e2⟩ := N5.out _ B02.out
  clear hw1 nb B0 hf hh
  go_enter Tryd.func83, Tryd.ntmps83
  go_wp2_with fail
  rw [← hw2]
  clear hw2 hmk e0
  have KP : Hid (∀ w', Below w2.heap.size w2 w' → w'.cell? ⟨w.heap.size, 1, none⟩ = some (.int .i64 j) ∧ w'.cell? ⟨w.heap.size, 2, none⟩ = some (.int .i64 k) ∧ Below w2.heap.size w2 w') := fun w' hb => ⟨(N5.out w' (B02.out.trans (hb.mono B02.out.size))).1, (N5.out w' (B02.out.trans (hb.mono B02.out.size))).2, hb⟩
  have LA2 : Hid (∀ w', Below w2.heap.size w2 w' → Calls Tryd.prog 83 #[.pointer (some ⟨g, 3, none⟩), .int .i64 (j : Int), lv, .slice (some ⟨gv, 0, none⟩) v.length capv] w' (fun e w3 => ∃ ga ca, e = .returned (.slice (some ⟨ga, 0, none⟩) v.length ca) ∧ RowAt w2 w3 v.length ga ca (f l v) ∧ Below w2.heap.size w2 w3)) := fun w' hb => by
    have b := B2.out.trans (hb.mono B2.out.size)
    refine (LA.out w' b _ _ _ (HL.out.below b) (HV.out.below b) VL.out).mono ?_
    rintro e w3 ⟨rv, rfl, h1, h2, h3⟩
    obtain ⟨ga, ca, rfl, ho⟩ := h1.form hfl hv0
    exact ⟨ga, ca, rfl, ⟨ho, hfl, Nat.le_trans hb.size (h2.resolve_left (fun h => by cases h.1) _ rfl)⟩, hb.trans (h3.mono hb.size)⟩
  have LB2 : Hid (∀ w' ga ca, Below w2.heap.size w2 w' → RowAt w2 w' v.length ga ca (f l v) → Calls Tryd.prog 83 #[.pointer (some ⟨g, 3, none⟩), .int .i64 (k : Int), lv, .slice (some ⟨gv, 0, none⟩) v.length capv] w' (fun e w5 => ∃ gb cb, e = .returned (.slice (some ⟨gb, 0, none⟩) v.length cb) ∧ Below w2.heap.size w2 w5 ∧ RowAt w2 w5 v.length ga ca (f l v) ∧ RowAt w2 w5 v.length gb cb (h l v))) := fun w' ga ca hb hr => by
    have b := B2.out.trans (hb.mono B2.out.size)
    refine (LB.out w' b _ _ _ (HL.out.below b) (HV.out.below b) VL.out).mono ?_
    rintro e w5 ⟨rv5, rfl, h1, h2, h3⟩
    obtain ⟨gb, cb, rfl, ho⟩ := h1.form hhl hv0
    exact ⟨gb, cb, rfl, hb.trans (h3.mono hb.size), hr.below h3, ⟨ho, hhl, Nat.le_trans hb.size (h2.resolve_left (fun h => by cases h.1) _ rfl)⟩⟩
  have b22 : Below w2.heap.size w2 w2 := Below.refl _ _
  clear LA LB
  go_region_held3 (fun w' => w'.cell? ⟨w.heap.size, 1, none⟩ = some (.int .i64 j) ∧ w'.cell? ⟨w.heap.size, 2, none⟩ = some (.int .i64 k) ∧ Below w2.heap.size w2 w')
    ((refine KP.out _ ?_; (try go_split_ands); (repeat (first | refine Below.drew ?_ | refine below_drewN ?_ _)); assumption))
    (first
      | (go_at_call 83; with_reducible refine Calls.mono (LA2.out _ ?_) ?_; (repeat (first | refine Below.drew ?_ | refine below_drewN ?_ _)); assumption; rintro e w3 ⟨ga, ca, rfl, hra, hb3⟩)
      | (go_at_call 83; with_reducible refine Calls.mono (LB2.out _ _ _ ?_ hra) ?_; (repeat (first | refine Below.drew ?_ | refine below_drewN ?_ _)); assumption; rintro e w5 ⟨gb, cb, rfl, hb5, hra5, hrb5⟩))
  all_goals
    have HRA := Lib.hid hra5
    have HRB := Lib.hid hrb5
    have B5 := Lib.hid (B2.out.trans (hb5.mono B2.out.size))
    have MR5 : Hid (w5.ownsRow 0 4 1 (.slice (some ⟨w.heap.size + 1, 0, none⟩) v.length v.length) v.length ((fillK (orF (f l v) (h l v)) 0).map Value.bool)) := MR.out.kept (row := none) ⟨hb5.os, hb5.tape, hb5.output, hb5.size, fun k hk _ => hb5.block k hk⟩ (by simp [Value.ownBlock])
    clear hra hra5 hrb5 hb5 hb3 MR KP LA2 LB2 b22 e1 e2 N5 B02 B2 B1 c3 d0 d1 d2 d3 d4
    go_wp2_with fail
    go_loopg [160] v.length (fun gk vk wr => ∃ k : Nat, vk = .int .i64 k ∧ k + gk = v.length ∧ Hid (w5.grownBy wr (some (w.heap.size + 1))) ∧ Hid (wr.ownsRow 0 4 1 (.slice (some ⟨w.heap.size + 1, 0, none⟩) v.length v.length) v.length ((fillK (orF (f l v) (h l v)) k).map Value.bool)))
    case atStart => exact ⟨0, rfl, by omega, World.grownBy.refl _ _, MR5⟩
    case round =>
      obtain ⟨k, rfl, hk, HG, HO⟩ := hrel
      clear MR5
      by_cases hlt : k < v.length
      · have hltI : (k : Int) < v.length := by omega
        have ca' := HRA.out.cellG HG.out (by omega) k hlt
        have cb' := HRB.out.cellG HG.out (by omega) k hlt
        have ST := Lib.hid (OS.out k hlt)
        have hi : k < (fillK (orF (f l v) (h l v)) k).length := by rw [OK.out k (Nat.le_of_lt hlt)]; exact hlt
        have co := (row_cell HO.out rfl).2.2 k _ (by rw [List.getElem?_map, List.getElem?_eq_getElem hi]; rfl)
        have fo := row_free HO.out k
        have HO1 : Hid (∀ x, fillK (orF (f l v) (h l v)) (k + 1) = (fillK (orF (f l v) (h l v)) k).set k x → (wr.setCell ⟨w.heap.size + 1, k, none⟩ (.bool x)).ownsRow 0 4 1 (.slice (some ⟨w.heap.size + 1, 0, none⟩) v.length v.length) v.length ((fillK (orF (f l v) (h l v)) (k + 1)).map Value.bool)) := fun x e => by
          rw [e, List.map_set]
          exact row_set HO.out _
        have HG1 : Hid (∀ x, w5.grownBy (wr.setCell ⟨w.heap.size + 1, k, none⟩ x) (some (w.heap.size + 1))) := fun x => HG.out.trans (grown_setCell wr _ _ _)
        generalize (fillK (orF (f l v) (h l v)) k)[k] = y0 at co
        generalize (f l v)[k]'(by omega) = xa at *
        generalize (h l v)[k]'(by omega) = xb at *
        clear HO HG hi hlt
        cases xa with
        | true =>
          go_wp2_with fail
          go_roundg (gk - 1)
          case measure => omega
          case rel => exact ⟨k + 1, by go_num, by omega, HG1.out _, HO1.out _ (by rw [ST.out]; rfl)⟩
        | false =>
          go_wp2_with fail
          go_roundg (gk - 1)
          case measure => omega
          case rel => exact ⟨k + 1, by go_num, by omega, HG1.out _, HO1.out _ (by rw [ST.out]; rfl)⟩
      · obtain rfl : k = v.length := by omega
        go_wp2_with fail
        go_ret
        exact OUT.out wr HO.out (B5.out.grown HG.out B5.out.size (fun q hq => by have : w.heap.size + 1 = q := Option.some.inj hq; omega))
end Go.Proofs.YthlabaijaadocaaDoor

/-! The reference's matching, plainly: a part that comes again; the rows of one round. -/
namespace Go.Proofs.YthlabaijaadocaaDoor
open Go.RowKit Ut Rx Mt Go.Lib

def rnd (may : Bool) (p : List Bool → List Bool) : Nat → List Bool → List Bool → List Bool
  | 0, _, out => out
  | k + 1, now, out => if may || !(fresh (p now) out).any id then orF out (fresh (p now) out) else rnd may p k (fresh (p now) out) (orF out (fresh (p now) out))
theorem rnd_false (p : List Bool → List Bool) : ∀ (k : Nat) (now out : List Bool), rnd false p k now out = cloR p k now out
  | 0, _, _ => rfl
  | k + 1, now, out => by
    rw [rnd, cloR]
    cases h : (fresh (p now) out).any id with
    | true => simp [rnd_false p k]
    | false => simp
theorem orF_comm {a b : List Bool} (h : a.length = b.length) : orF a b = orF b a := by
  unfold orF
  apply List.ext_getElem (by simp [h])
  intro i h1 h2
  simp [Bool.or_comm]
theorem or_fresh {a b : List Bool} (h : a.length = b.length) : orF b (fresh a b) = orF a b := by
  unfold orF fresh
  apply List.ext_getElem (by simp; omega)
  intro i h1 h2
  have ha : i < a.length := by simp at h2; omega
  have hb : i < b.length := by omega
  simp only [List.getElem_zipWith]
  cases a[i] <;> cases b[i] <;> rfl
/-- both ways of going round come to the same -/
theorem again_same {f : Fi} {l : List Int} {v : List Bool} {k s : Int} (L : Lin (l.length + 1) (f l)) (hv : v.length = l.length + 1) (hk : (k = 3 ∧ s = 42) ∨ (k = 4 ∧ s = 43) ∨ (k = 5 ∧ s = 63)) :
    rnd (k == 5) (f l) (v.length + 1) v (if k = 4 then List.replicate v.length false else v) = oftenF f s l v := by
  have hp := L.len v hv
  rcases hk with ⟨rfl, rfl⟩ | ⟨rfl, rfl⟩ | ⟨rfl, rfl⟩
  · have := star_same L v hv false
    simp only [Bool.false_eq_true, if_false] at this
    rw [show ((3 : Int) == 5) = false from rfl, rnd_false, if_neg (by decide), hv, ← this]
    unfold oftenF
    rw [if_neg (by decide), if_neg (by decide), hv]
  · have := star_same L v hv true
    simp only [if_true] at this
    rw [show ((4 : Int) == 5) = false from rfl, rnd_false, if_pos rfl, hv, ← this]
    unfold oftenF
    rw [if_neg (by decide), if_pos rfl, hv]
  · rw [show ((5 : Int) == 5) = true from rfl, if_neg (by decide), rnd]
    simp only [Bool.true_or, if_true]
    rw [or_fresh (by omega)]
    unfold oftenF
    simp
theorem fresh_at {a b : List Bool} (h : a.length = b.length) {k : Nat} (hk : k < b.length) (hk2 : k < (fresh a b).length) : (fresh a b)[k]'hk2 = (a[k]'(by omega) && !b[k]) := by
  have e : (fresh a b)[k]? = some (a[k]'(by omega) && !b[k]) := by
    unfold fresh
    rw [List.getElem?_zipWith]
    simp [List.getElem?_eq_getElem hk, List.getElem?_eq_getElem (show k < a.length by omega)]
  rw [List.getElem?_eq_getElem hk2] at e
  exact Option.some.inj e
/-- the first k places of t, the others of o -/
def mixK (t o : List Bool) (k : Nat) : List Bool := t.take k ++ o.drop k
theorem mixK_zero (t o : List Bool) : mixK t o 0 = o := by simp [mixK]
theorem mixK_all {t o : List Bool} (h : t.length = o.length) : mixK t o o.length = t := by simp [mixK, ← h]
theorem mixK_len {t o : List Bool} (h : t.length = o.length) {k : Nat} (hk : k ≤ o.length) : (mixK t o k).length = o.length := by simp [mixK]; omega
theorem mixK_succ {t o : List Bool} (h : t.length = o.length) {k : Nat} (hk : k < o.length) : mixK t o (k + 1) = (mixK t o k).set k (t[k]'(by omega)) := by
  unfold mixK
  have ht : (t.take k).length = k := by rw [List.length_take]; omega
  rw [List.set_append_right _ _ (by omega), ht, Nat.sub_self, List.drop_eq_getElem_cons hk, List.set_cons_zero, List.take_succ_eq_append_getElem (by omega), List.append_assoc]
  rfl
theorem mixK_at {t o : List Bool} (h : t.length = o.length) {k : Nat} (hk : k < o.length) (hk2 : k < (mixK t o k).length) : (mixK t o k)[k]'hk2 = o[k] := by
  have e : (mixK t o k)[k]? = some o[k] := by
    unfold mixK
    have ht : (t.take k).length = k := by rw [List.length_take]; omega
    rw [List.getElem?_append_right (by omega), ht, Nat.sub_self, List.getElem?_drop, Nat.add_zero, List.getElem?_eq_getElem hk]
  rw [List.getElem?_eq_getElem hk2] at e
  exact Option.some.inj e
theorem any_take_succ {t : List Bool} {k : Nat} (hk : k < t.length) : (t.take (k + 1)).any id = ((t.take k).any id || t[k]) := by
  rw [List.take_succ_eq_append_getElem hk, List.any_append]
  simp

/-- the three rows of a round -/
structure In3 (w1 wr : World) (n T F gn cn : Nat) (nx fr ou : List Bool) : Prop where
  b : Below w1.heap.size w1 wr
  rn : wr.ownsRow 0 4 1 (.slice (some ⟨gn, 0, none⟩) n cn) n (nx.map Value.bool)
  rf : wr.ownsRow 0 4 1 (.slice (some ⟨F, 0, none⟩) n n) n (fr.map Value.bool)
  ro : wr.ownsRow 0 4 1 (.slice (some ⟨T, 0, none⟩) n n) n (ou.map Value.bool)
  t : w1.heap.size ≤ T
  f : w1.heap.size ≤ F
  tf : T ≠ F
  nt : gn ≠ T
  nf : gn ≠ F
theorem In3.setF {w1 wr : World} {n T F gn cn : Nat} {nx fr ou : List Bool} (h : In3 w1 wr n T F gn cn nx fr ou) (k : Nat) (x : Bool) : In3 w1 (wr.setCell ⟨F, k, none⟩ (.bool x)) n T F gn cn nx (fr.set k x) ou :=
  ⟨h.b.setCell h.f _, h.rn.kept (grown_setCell _ _ _ _) (Or.inr fun e => h.nf (Option.some.inj e)), by rw [List.map_set]; exact row_set h.rf _, h.ro.kept (grown_setCell _ _ _ _) (Or.inr fun e => h.tf (Option.some.inj e)), h.t, h.f, h.tf, h.nt, h.nf⟩
theorem In3.setT {w1 wr : World} {n T F gn cn : Nat} {nx fr ou : List Bool} (h : In3 w1 wr n T F gn cn nx fr ou) (k : Nat) (x : Bool) : In3 w1 (wr.setCell ⟨T, k, none⟩ (.bool x)) n T F gn cn nx fr (ou.set k x) :=
  ⟨h.b.setCell h.t _, h.rn.kept (grown_setCell _ _ _ _) (Or.inr fun e => h.nt (Option.some.inj e)), h.rf.kept (grown_setCell _ _ _ _) (Or.inr fun e => h.tf (Option.some.inj e).symm), by rw [List.map_set]; exact row_set h.ro _, h.t, h.f, h.tf, h.nt, h.nf⟩
theorem bcell_row {w : World} {g n c : Nat} {xs : List Bool} (h : w.ownsRow 0 4 1 (.slice (some ⟨g, 0, none⟩) n c) n (xs.map Value.bool)) {k : Nat} (hk : k < xs.length) : w.cell? ⟨g, k, none⟩ = some (.bool (xs[k]'hk)) :=
  (row_cell h rfl).2.2 k _ (by rw [List.getElem?_map, List.getElem?_eq_getElem hk]; rfl)
theorem In3.cells {w1 wr : World} {n T F gn cn : Nat} {nx fr ou : List Bool} (h : In3 w1 wr n T F gn cn nx fr ou) {k : Nat} (h1 : k < nx.length) (h2 : k < fr.length) (h3 : k < ou.length) :
    wr.cell? ⟨gn, k, none⟩ = some (.bool (nx[k]'h1)) ∧ wr.cell? ⟨F, k, none⟩ = some (.bool (fr[k]'h2)) ∧ wr.frozen? ⟨F, k, none⟩ = false ∧ wr.cell? ⟨T, k, none⟩ = some (.bool (ou[k]'h3)) ∧ wr.frozen? ⟨T, k, none⟩ = false :=
  ⟨bcell_row h.rn h1, bcell_row h.rf h2, row_free h.rf k, bcell_row h.ro h3, row_free h.ro k⟩
/-- what stands at place k before it is done, and behind each of the two stores -/
structure At3 (wr : World) (n T F gn k : Nat) (a b : Bool) : Prop where
  c0 : wr.cell? ⟨gn, k, none⟩ = some (.bool a)
  c1 : ∃ y, wr.cell? ⟨F, k, none⟩ = some (.bool y)
  f1 : wr.frozen? ⟨F, k, none⟩ = false
  c2 : wr.cell? ⟨T, k, none⟩ = some (.bool b)
  f2 : wr.frozen? ⟨T, k, none⟩ = false
  d1 : ∀ x : Bool, (wr.setCell ⟨F, k, none⟩ (.bool x)).cell? ⟨F, k, none⟩ = some (.bool x)
  d2 : ∀ x : Bool, (wr.setCell ⟨F, k, none⟩ (.bool x)).cell? ⟨T, k, none⟩ = some (.bool b)
  g2 : ∀ x : Bool, (wr.setCell ⟨F, k, none⟩ (.bool x)).frozen? ⟨T, k, none⟩ = false
  e1 : ∀ x y : Bool, ((wr.setCell ⟨F, k, none⟩ (.bool x)).setCell ⟨T, k, none⟩ (.bool y)).cell? ⟨F, k, none⟩ = some (.bool x)
theorem In3.at_ {w1 wr : World} {n T F gn cn : Nat} {nx fr ou : List Bool} (h : In3 w1 wr n T F gn cn nx fr ou) {k : Nat} (h1 : k < nx.length) (h2 : k < fr.length) (h3 : k < ou.length) : At3 wr n T F gn k (nx[k]'h1) (ou[k]'h3) := by
  obtain ⟨a0, a1, a2, a3, a4⟩ := h.cells h1 h2 h3
  have l2 : ∀ x, k < (fr.set k x).length := fun x => by rw [List.length_set]; exact h2
  have s : ∀ x, ((fr.set k x)[k]'(l2 x)) = x := fun x => by simp
  refine ⟨a0, ⟨_, a1⟩, a2, a3, a4, fun x => ?_, fun x => ?_, fun x => ?_, fun x y => ?_⟩
  · have := ((h.setF k x).cells h1 (l2 x) h3).2.1
    rwa [s] at this
  · exact ((h.setF k x).cells h1 (l2 x) h3).2.2.2.1
  · exact ((h.setF k x).cells h1 (l2 x) h3).2.2.2.2
  · have := (((h.setF k x).setT k y).cells h1 (l2 x) (by rw [List.length_set]; exact h3)).2.1
    rwa [s] at this
/-- k places done -/
theorem In3.next {w1 wr : World} {n T F gn cn : Nat} {nx o : List Bool} {k : Nat} (h : In3 w1 wr n T F gn cn nx (fillK (fresh nx o) k) (mixK (orF o (fresh nx o)) o k)) (hl : nx.length = o.length) (hk : k < o.length) {x y : Bool} (hx : x = (nx[k]'(by omega) && !o[k])) (hy : y = (o[k] || x)) :
    In3 w1 ((wr.setCell ⟨F, k, none⟩ (.bool x)).setCell ⟨T, k, none⟩ (.bool y)) n T F gn cn nx (fillK (fresh nx o) (k + 1)) (mixK (orF o (fresh nx o)) o (k + 1)) ∧ ((fresh nx o).take (k + 1)).any id = (((fresh nx o).take k).any id || x) := by
  have hf := fresh_length hl
  have ho : (orF o (fresh nx o)).length = o.length := orF_length (by omega)
  have e1 : (fresh nx o)[k]'(by omega) = x := by rw [fresh_at hl hk (by omega), hx]
  have e2 : (orF o (fresh nx o))[k]'(by omega) = y := by rw [orF_at (by omega) hk (by omega), e1, hy]
  rw [fillK_succ _ (by omega), mixK_succ ho hk, any_take_succ (by omega), e1, e2]
  exact ⟨(h.setF k x).setT k y, rfl⟩
end Go.Proofs.YthlabaijaadocaaDoor
