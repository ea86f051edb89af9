import Derived.Test.YthhbbmebfmfgjaaGreatDoorPDx0
import Derived.Test.YthhbbmebfmfgjaaGreatDoorPDx1
import Derived.Test.YthhbbmebfmfgjaaGreatDoorPDx3
import Derived.Test.YthhbbmebfmfgjaaGreatDoorPDx6
-- by a program of this session (the printer, turned: functions with floats go by contracts of this session)
namespace Go.Proofs.YthhbbmebfmfgjaaGreatDoor.PD
open Go.RowKit Go.Proofs.YthhbbmebfmfgjaaGreatDoorW.PrintWords Go.Proofs.YthhbbmebfmfgjaaGreatDoorW.PrintLast Go.Proofs.YthhbbmebfmfgjaaGreatDoorW.PrintMore
attribute [local go_sem] max2_int min2_int max_two min_two max_three min_three max_four min_four   -- for this text's walks alone
set_option linter.unusedVariables false
set_option linter.unusedSimpArgs false
attribute [-simp] List.drop_one List.length_drop

attribute [local go_sem high] eqA128
/-! ### eval_Sort: function 15, given -/
/-- labels' texts -/
def keyL (l : List S128) : List (Lab.B × Lab.B) := l.map fun x => (x.f0.toList, x.f1.toList)
def keyE (x : S33) : List (Lab.B × Lab.B) := keyL x.f0
theorem compare_go (l0 l1 : List S128) : ∀ (m k i : Nat) (n : Int), n = ((min l0.length l1.length : Nat) : Int) → min l0.length l1.length ≤ 9223372036854775806 → i ≤ min l0.length l1.length → min l0.length l1.length - i ≤ m → 2 * m < k → labels_Compare.l0 k l0 l1 n (i : Int) = some (Lab.cmpP (keyL (l0.drop i)) (keyL (l1.drop i))) := by
  intro m
  induction m with
  | zero =>
    intro k i n hn hb hi hm hk
    obtain ⟨k, rfl⟩ : ∃ q, k = q + 1 := ⟨k - 1, by omega⟩
    simp only [labels_Compare.l0]
    rw [if_neg (by omega)]
    by_cases h1 : l0.length < l1.length
    · rw [if_pos (by omega), List.drop_eq_nil_of_le (by omega)]
      obtain ⟨y, t, e⟩ := List.exists_cons_of_ne_nil (l := l1.drop i) (by intro e; have := congrArg List.length e; simp at this; omega)
      rw [e]; rfl
    · rw [if_neg (by omega)]
      by_cases h2 : l1.length < l0.length
      · rw [if_pos (by omega), show l1.drop i = [] from List.drop_eq_nil_of_le (by omega)]
        obtain ⟨y, t, e⟩ := List.exists_cons_of_ne_nil (l := l0.drop i) (by intro e; have := congrArg List.length e; simp at this; omega)
        rw [e]; rfl
      · rw [if_neg (by omega), List.drop_eq_nil_of_le (by omega), List.drop_eq_nil_of_le (by omega)]; rfl
  | succ m ih =>
    intro k i n hn hb hi hm hk
    by_cases hlt : i < min l0.length l1.length
    · obtain ⟨k, rfl⟩ : ∃ q, k = q + 2 := ⟨k - 2, by omega⟩
      have d0 : l0.drop i = l0[i]'(by omega) :: l0.drop (i + 1) := List.drop_eq_getElem_cons (by omega)
      have d1 : l1.drop i = l1[i]'(by omega) :: l1.drop (i + 1) := List.drop_eq_getElem_cons (by omega)
      have r0 : rd_T128 l0 (i : Int) = l0[i]'(by omega) := by unfold rd_T128; simp [List.getD_eq_getElem?_getD, show i < l0.length by omega]
      have r1 : rd_T128 l1 (i : Int) = l1[i]'(by omega) := by unfold rd_T128; simp [List.getD_eq_getElem?_getD, show i < l1.length by omega]
      have hw : wrap64 ((i : Int) + 1) = ((i + 1 : Nat) : Int) := by unfold wrap64; omega
      have go := ih k (i + 1) n hn hb (by omega) (by omega) (by omega)
      rw [d0, d1]
      simp only [labels_Compare.l0, labels_Compare.j1]
      rw [if_pos (by omega), if_pos (by omega), if_pos (by omega), if_pos (by omega), r0, r1, hw, go]
      generalize (l0[i]'(by omega)) = x
      generalize (l1[i]'(by omega)) = y
      obtain ⟨x0, x1⟩ := x
      obtain ⟨y0, y1⟩ := y
      generalize l0.drop (i + 1) = t0
      generalize l1.drop (i + 1) = t1
      show _ = some (if Lab.lessL (x0.toList, x1.toList) (y0.toList, y1.toList) = true then -1 else if (x0.toList, x1.toList) = (y0.toList, y1.toList) then Lab.cmpP (keyL t0) (keyL t1) else 1)
      simp only [Lab.lessL]
      generalize x0.toList = a
      generalize x1.toList = b
      generalize y0.toList = c
      generalize y1.toList = d
      by_cases e1 : Op.bytesLess a c = true
      · simp [e1]
      · by_cases e2 : a = c
        · subst e2
          simp [Lab.bl_irrefl]
          by_cases e3 : Op.bytesLess b d = true
          · simp [e3]
          · by_cases e4 : b = d
            · subst e4; simp [Lab.bl_irrefl]
            · simp [e3, e4]
        · simp [e1, e2]
    · exact (ih k i n hn hb hi (by omega) (by omega))
theorem compare_val (l0 l1 : List S128) (k : Nat) (hk : 2 * min l0.length l1.length < k) (hb : min l0.length l1.length ≤ 9223372036854775806) : labels_Compare.f k l0 l1 = some (Lab.cmpP (keyL l0) (keyL l1)) := by
  unfold labels_Compare.f
  have := compare_go l0 l1 (min l0.length l1.length) k 0 (mn (l0.length : Int) (l1.length : Int)) (by unfold mn; omega) hb (by omega) (by omega) hk
  simpa using this
theorem same_go (l0 l1 : List S128) (hl : l0.length = l1.length) (hb : l0.length ≤ 9223372036854775806) : ∀ (m k i : Nat), i ≤ l0.length → l0.length - i ≤ m → m < k → labels_Same.l0 k l0 l1 (l0.length : Int) (i : Int) = some (decide (keyL (l0.drop i) = keyL (l1.drop i))) := by
  intro m
  induction m with
  | zero =>
    intro k i hi hm hk
    obtain ⟨k, rfl⟩ : ∃ q, k = q + 1 := ⟨k - 1, by omega⟩
    simp only [labels_Same.l0]
    rw [if_neg (by omega), List.drop_eq_nil_of_le (by omega), List.drop_eq_nil_of_le (by omega)]; simp
  | succ m ih =>
    intro k i hi hm hk
    by_cases hlt : i < l0.length
    · obtain ⟨k, rfl⟩ : ∃ q, k = q + 1 := ⟨k - 1, by omega⟩
      have d0 : l0.drop i = l0[i]'(by omega) :: l0.drop (i + 1) := List.drop_eq_getElem_cons (by omega)
      have d1 : l1.drop i = l1[i]'(by omega) :: l1.drop (i + 1) := List.drop_eq_getElem_cons (by omega)
      have r0 : rd_T128 l0 (i : Int) = l0[i]'(by omega) := by unfold rd_T128; simp [List.getD_eq_getElem?_getD, show i < l0.length by omega]
      have r1 : rd_T128 l1 (i : Int) = l1[i]'(by omega) := by unfold rd_T128; simp [List.getD_eq_getElem?_getD, show i < l1.length by omega]
      have hw : wrap64 ((i : Int) + 1) = ((i + 1 : Nat) : Int) := by unfold wrap64; omega
      have go := ih k (i + 1) (by omega) (by omega) (by omega)
      rw [d0, d1]
      simp only [labels_Same.l0]
      rw [if_pos (by omega), if_pos (by omega), if_pos (by omega), if_pos (by omega), r0, r1, hw, go]
      generalize (l0[i]'(by omega)) = x
      generalize (l1[i]'(by omega)) = y
      obtain ⟨x0, x1⟩ := x
      obtain ⟨y0, y1⟩ := y
      simp only [keyL, List.map_cons, List.cons.injEq, Prod.mk.injEq]
      by_cases e1 : x0.toList = y0.toList
      · by_cases e2 : x1.toList = y1.toList
        · simp [e1, e2]
        · simp [e1, e2]
      · simp [e1]
    · exact ih k i hi (by omega) (by omega)
theorem same_val (l0 l1 : List S128) (k : Nat) (hk : l0.length < k) (hb : l0.length ≤ 9223372036854775806) : labels_Same.f k l0 l1 = some (decide (keyL l0 = keyL l1)) := by
  unfold labels_Same.f
  by_cases h : l0.length = l1.length
  · rw [if_pos (by omega)]
    have := same_go l0 l1 h hb l0.length k 0 (by omega) (by omega) hk
    simpa using this
  · rw [if_neg (by omega)]
    have : keyL l0 ≠ keyL l1 := fun e => h (by have := congrArg List.length e; simpa [keyL] using this)
    simp [this]
set_option maxRecDepth 100000 in
theorem of_elem (A : Option Addr) (n c : Nat) (u : Int) (w : World) :
    Calls Tryz.prog 46 #[.agg #[.slice A n c, .int .u64 u]] w fun e w' => e = .returned (.slice A n c) ∧ Below w.heap.size w w' := by
  go_enter Tryz.func46, Tryz.ntmps46
  go_wp2
  go_ret
  exact ⟨rfl, below_alloc (Below.refl _ _) _⟩
set_option maxRecDepth 100000 in
set_option maxHeartbeats 3000000 in
theorem cmp_elem (A0 A1 : Option Addr) (n0 c0 n1 c1 : Nat) (u0 u1 r : Int) (p : Nat) (w : World) (hp : w.cell? ⟨p, 0, none⟩ = some (.func (.func 46) #[] #[]))
    (hc : ∀ w', Below w.heap.size w w' → Calls Tryz.prog 49 #[.slice A0 n0 c0, .slice A1 n1 c1] w' fun e w2 => e = .returned (.int .i64 r) ∧ Below w'.heap.size w' w2) :
    Calls Tryz.prog 90 #[.agg #[.slice A0 n0 c0, .int .u64 u0], .agg #[.slice A1 n1 c1, .int .u64 u1], .pointer (some ⟨p, 0, none⟩)] w fun e w' => e = .returned (.int .i64 r) ∧ Below w.heap.size w w' := by
  have HC := Aside0.mk hc
  have HP := Aside0.mk hp
  clear hc hp
  go_enter Tryz.func90, Tryz.ntmps90
  go_wp2_with fail
  obtain ⟨W, hW⟩ : ∃ W, W = (w.alloc (.cells #[.slice A0 n0 c0, .int .u64 u0] 33)).alloc (.cells #[.slice A1 n1 c1, .int .u64 u1] 33) := ⟨_, rfl⟩
  rw [← hW]
  have hl := World.block_lt_of_cell? _ _ HP.out
  have bW : Below w.heap.size w W := by rw [hW]; exact below_alloc (below_alloc (Below.refl _ _) _) _
  have sW : W.heap.size = w.heap.size + 2 := by rw [hW]; simp
  have x0 : W.cell? ⟨w.heap.size, 0, none⟩ = some (.slice A0 n0 c0) := by rw [hW]; simp
  have x1 : W.cell? ⟨w.heap.size, 1, none⟩ = some (.int .u64 u0) := by rw [hW]; simp
  have y0 : W.cell? ⟨w.heap.size + 1, 0, none⟩ = some (.slice A1 n1 c1) := by rw [hW]; simp
  have y1 : W.cell? ⟨w.heap.size + 1, 1, none⟩ = some (.int .u64 u1) := by rw [hW]; simp
  have hv : ∀ q : Stb.BW W, q.world.cell? ⟨p, 0, none⟩ = some (.func (.func 46) #[] #[]) := fun q => ((q.h.cell (by omega)).trans (bW.cell hl)).trans HP.out
  have X0 : ∀ q : Stb.BW W, q.world.cell? ⟨w.heap.size, 0, none⟩ = some (.slice A0 n0 c0) := fun q => (q.h.cell (by simp only; omega)).trans x0
  have X1 : ∀ q : Stb.BW W, q.world.cell? ⟨w.heap.size, 1, none⟩ = some (.int .u64 u0) := fun q => (q.h.cell (by simp only; omega)).trans x1
  have Y0 : ∀ q : Stb.BW W, q.world.cell? ⟨w.heap.size + 1, 0, none⟩ = some (.slice A1 n1 c1) := fun q => (q.h.cell (by simp only; omega)).trans y0
  have Y1 : ∀ q : Stb.BW W, q.world.cell? ⟨w.heap.size + 1, 1, none⟩ = some (.int .u64 u1) := fun q => (q.h.cell (by simp only; omega)).trans y1
  have h46 : ∀ A n c u (q : Stb.BW W), Calls Tryz.prog 46 #[.agg #[.slice A n c, .int .u64 u]] q.world fun e w'' => e = .returned (.slice A n c) ∧ ∃ z : Stb.BW W, w'' = z.world := fun A n c u q => Stb.Calls.below_of q (of_elem A n c u q.world)
  have h49 : ∀ q : Stb.BW W, Calls Tryz.prog 49 #[.slice A0 n0 c0, .slice A1 n1 c1] q.world fun e w'' => e = .returned (.int .i64 r) ∧ ∃ z : Stb.BW W, w'' = z.world := fun q => Stb.Calls.below_of q (HC.out q.world (bW.trans (q.h.mono (by omega))))
  have H46 := Aside0.mk h46
  have H49 := Aside0.mk h49
  have BB := Aside0.mk bW
  have SS := Aside0.mk sW
  clear hW x0 x1 y0 y1 h46 h49 bW sW
  refine Stb.wp_region_below (by kernel_rfl) (by kernel_rfl) ?_
  repeat (quiet_step ((first | (go_at_call 46; exact H46.out _ _ _ _ _) | (go_at_fn 46; exact H46.out _ _ _ _ _) | (go_at_call 49; exact H49.out _))))
  refine wpQuiet_nil ?_
  intro _ hw'
  obtain ⟨pq, hw''⟩ := hw'
  subst hw''
  have BE := Aside0.mk (BB.out.trans (pq.h.mono (by have := SS.out; omega)))
  clear hv X0 X1 Y0 Y1
  go_wp2_with fail
  go_ret
  exact ⟨rfl, BE.out⟩

def dumE : List Value := [.slice none 0 0, .int .u64 0]
def encE (rows : List (List Value)) (j : Nat) : List Value := rows.getD j dumE
theorem N_empty (W : World) (base : Nat) (ok : Nat → Prop) (hb : base ≤ W.heap.size) (hok : ok W.heap.size) : Kd.N k33 33 (W.alloc (.cells #[] 33)) base ok (.slice (some ⟨W.heap.size, 0, none⟩) 0 0) [] := by
  have ho := World.ownsRow_lit (base := base) (e := 33) (size := 2) W #[] 0 hb (by simp [maxLen]) (by simp)
  refine ⟨fun k hk => ?_, [], rfl, ⟨fun k hk => hk.symm, [], ho, Reps.none _ _⟩, fun j x c hx => by simp at hx⟩
  have : W.heap.size = k := by simpa [Value.ownBlock] using hk
  rw [← this]; exact hok
theorem reps_cell {rows : List (List Value)} {inner : List Value} (hr : Reps (fun x cs => cs = x ∧ cs.length = 2 ∧ ∀ u ∈ cs, u.oneCell' = true) 2 rows inner) (j : Nat) (hj : j < rows.length) : (encE rows j).length = 2 ∧ (∀ u ∈ encE rows j, u.oneCell' = true) ∧ inner[j * 2]? = some (encE rows j)[0]! ∧ inner[j * 2 + 1]? = some (encE rows j)[1]! := by
  obtain ⟨h1, h2, h3⟩ := hr.2 j _ (List.getElem?_eq_getElem hj)
  have e : encE rows j = rows[j] := by simp [encE, List.getD_eq_getElem?_getD, hj]
  rw [e]
  rw [h1] at h2 h3
  refine ⟨h2, h3, ?_, ?_⟩
  · have : ((inner.drop (j * 2)).take 2)[0]? = rows[j][0]? := by rw [h1]
    rw [List.getElem?_take] at this
    simp at this
    rw [this]
    simp [h2]
  · have : ((inner.drop (j * 2)).take 2)[1]? = rows[j][1]? := by rw [h1]
    rw [List.getElem?_take] at this
    simp at this
    rw [this]
    simp [h2]
/-- a row that is the call's own, opened for the sort -/
theorem row_open {w : World} {base g n cap : Nat} {ok : Nat → Prop} {xs : List S33} (h : Kd.N k33 33 w base ok (.slice (some ⟨g, 0, none⟩) n cap) xs) :
    ∃ rows : List (List Value), n = xs.length ∧ rows.length = xs.length ∧ base ≤ g ∧ ok g ∧ g < w.heap.size ∧ n ≤ cap ∧ cap ≤ maxLen ∧ (∃ cur, w.heap[g]? = some (.cells cur 33 (0, 0)) ∧ cur.size = cap * 2) ∧ (∀ j, (encE rows j).length = 2) ∧ (∀ j, ∀ u ∈ encE rows j, u.oneCell' = true) ∧
      Go.Sort.HoldsK (encE rows) 2 w g 0 (Array.range n) ∧ ∀ j, Kd.FK k33 w (fun k => ok k ∧ k ≠ g) (xs.getD j z33) (encE rows j) := by
  obtain ⟨h0, rows, hl, ⟨_, inner, ho0, hr⟩, hf⟩ := h
  have ho : w.ownsRow base 33 2 (.slice (some ⟨g, 0, none⟩) n cap) rows.length inner := ho0
  clear ho0
  have hr' : Reps (fun x cs => cs = x ∧ cs.length = 2 ∧ ∀ u ∈ cs, u.oneCell' = true) 2 rows inner := hr
  rcases ho.2 with ⟨h', _⟩ | ⟨g', cap', cur, h', hb, hg, hnc, hcm, hcs, htake⟩
  · simp at h'
  simp only [Value.slice.injEq, Option.some.injEq, Addr.mk.injEq, and_true, true_and] at h'
  obtain ⟨rfl, hnl, rfl⟩ := h'
  have hn : n = xs.length := by omega
  have hlt : g < w.heap.size := by
    by_cases e : g < w.heap.size
    · exact e
    · rw [Array.getElem?_eq_none (by omega)] at hg; cases hg
  have big : ∀ j, ¬ j < rows.length → encE rows j = dumE := fun j hj => by simp [encE, List.getD_eq_getElem?_getD, List.getElem?_eq_none (show rows.length ≤ j by omega)]
  have hlen : ∀ j, (encE rows j).length = 2 := fun j => by
    by_cases hj : j < rows.length
    · exact (reps_cell hr' j hj).1
    · rw [big j hj]; rfl
  refine ⟨rows, hn, hl, hb, h0 g rfl, hlt, by omega, hcm, ⟨cur, hg, hcs⟩, hlen, fun j => ?_, fun t ht => ?_, fun j => ?_⟩
  · by_cases hj : j < rows.length
    · exact (reps_cell hr' j hj).2.1
    · rw [big j hj]; intro u hu; simp [dumE] at hu; rcases hu with rfl | rfl <;> rfl
  · rw [Go.Sort.size_flatK, Array.size_range] at ht
    rw [Go.Sort.get_flatK _ _ _ _ (by rw [Array.size_range]; exact ht)]
    rw [hnl] at ho
    have hj : t / 2 < rows.length := by omega
    obtain ⟨a1, a2, a3, a4⟩ := reps_cell hr' (t / 2) hj
    refine ⟨?_, World.ownsRow.frozenAt ho _⟩
    rw [Nat.zero_add, World.ownsRow.cellAt ho t (by omega)]
    have er : (Array.range n)[t / 2]! = t / 2 := by simp [show t / 2 < n by omega]
    rw [er]
    rcases Nat.mod_two_eq_zero_or_one t with hm | hm
    · rw [hm, show t = t / 2 * 2 by omega]
      simpa using a3
    · rw [hm]
      have : t = t / 2 * 2 + 1 := by omega
      rw [this]
      have e2 : (t / 2 * 2 + 1) / 2 = t / 2 := by omega
      rw [e2]
      simpa using a4
  · by_cases hj : j < rows.length
    · have e : encE rows j = rows[j] := by simp [encE, List.getD_eq_getElem?_getD, hj]
      have ex : xs.getD j z33 = xs[j]'(by omega) := by simp [List.getD_eq_getElem?_getD, show j < xs.length by omega]
      rw [e, ex]
      refine Kd.FK_mono (hf j _ _ (List.getElem?_eq_getElem (by omega)) (List.getElem?_eq_getElem hj)) (fun k hk => ⟨hk.1, fun e => hk.2 (by rw [e]; rfl)⟩)
    · rw [big j hj]
      have ex : xs.getD j z33 = z33 := by simp [List.getD_eq_getElem?_getD, List.getElem?_eq_none (show xs.length ≤ j by omega)]
      rw [ex]
      intro W2 _
      exact k33_mk W2 z33 (A0 := none) (c0 := 0) (Nat.le_refl _) (by exact ⟨rfl, by simp [z33], fun h => by simp [z33] at h⟩)
theorem two_list {l : List Value} {a b : Value} (h : l.length = 2) (h0 : l[0]? = some a) (h1 : l[1]? = some b) : l = [a, b] := by
  match l, h with
  | [x, y], _ =>
    simp at h0 h1
    rw [h0, h1]
/-- the row behind the sort -/
theorem row_shut {w W : World} {base g n cap : Nat} {ok : Nat → Prop} {xs : List S33} {rows : List (List Value)} {d' : Array Nat} {cur : Array Value} (hn : n = xs.length) (hb : base ≤ g) (hok : ok g) (hnc : n ≤ cap) (hcm : cap ≤ maxLen) (hg : w.heap[g]? = some (.cells cur 33 (0, 0))) (hcs : cur.size = cap * 2)
    (hlen : ∀ j, (encE rows j).length = 2) (hone : ∀ j, ∀ u ∈ encE rows j, u.oneCell' = true) (hd : d'.size = n) (S : Stb.SB (encE rows) 2 w g 0 d' W) (hf : ∀ j, Kd.FK k33 W (fun k => ok k ∧ k ≠ g) (xs.getD j z33) (encE rows j)) :
    Kd.N k33 33 W base ok (.slice (some ⟨g, 0, none⟩) n cap) (d'.toList.map fun j => xs.getD j z33) := by
  obtain ⟨c', hW, hs⟩ := S.tag _ _ _ hg
  have hcell : ∀ t, t < n * 2 → c'[t]? = some ((encE rows d'[t / 2]!)[t % 2]!) := fun t ht => by
    have h1 := (S.holds t (by rw [Go.Sort.size_flatK, hd]; exact ht)).1
    rw [Go.Sort.get_flatK _ _ _ _ (by rw [hd]; exact ht), Nat.zero_add] at h1
    simpa [World.cell?, hW] using h1
  have hR : Reps (fun x cs => cs = x ∧ cs.length = 2 ∧ ∀ u ∈ cs, u.oneCell' = true) 2 (d'.toList.map (encE rows)) (c'.toList.take (n * 2)) := by
    refine ⟨by simp [hd, hs, hcs]; omega, fun j p hp => ?_⟩
    have hj : j < n := by
      have := (List.getElem?_eq_some_iff.1 hp).1
      simpa [hd] using this
    have e : p = encE rows d'[j]! := by
      simp only [List.getElem?_map, Array.getElem?_toList] at hp
      rw [Array.getElem?_eq_getElem (by omega), Option.map_some] at hp
      rw [← Option.some.inj hp, getElem!_pos d' j (by omega)]
    subst e
    have h2 := hlen d'[j]!
    have t0 : c'[j * 2]? = some (encE rows d'[j]!)[0]! := by
      have := hcell (j * 2) (by omega)
      rwa [show j * 2 / 2 = j by omega, show j * 2 % 2 = 0 by omega] at this
    have t1 : c'[j * 2 + 1]? = some (encE rows d'[j]!)[1]! := by
      have := hcell (j * 2 + 1) (by omega)
      rwa [show (j * 2 + 1) / 2 = j by omega, show (j * 2 + 1) % 2 = 1 by omega] at this
    have e0 : ((c'.toList.take (n * 2)).drop (j * 2)).take 2 = [(encE rows d'[j]!)[0]!, (encE rows d'[j]!)[1]!] := by
      refine two_list (by simp [hs, hcs, List.length_drop]; omega) ?_ ?_
      · rw [List.getElem?_take, if_pos (by omega), List.getElem?_drop, List.getElem?_take, if_pos (by omega), Array.getElem?_toList]; exact t0
      · rw [List.getElem?_take, if_pos (by omega), List.getElem?_drop, List.getElem?_take, if_pos (by omega), Array.getElem?_toList]; exact t1
    have e1 : ((c'.toList.take (n * 2)).drop (j * 2)).take 2 = encE rows d'[j]! := by
      rw [e0]
      match hh : encE rows d'[j]!, h2 with
      | [a, b], _ => simp
    refine ⟨e1, by rw [e1]; exact h2, by rw [e1]; exact hone _⟩
  have hO : W.ownsRow base 33 2 (.slice (some ⟨g, 0, none⟩) n cap) (d'.toList.map (encE rows)).length (c'.toList.take (n * 2)) := by
    refine ⟨by simp [hd, hs, hcs]; omega, Or.inr ⟨g, cap, c', by simp [hd], hb, hW, by simpa [hd] using hnc, hcm, by rw [hs, hcs], by simp [hd]⟩⟩
  refine ⟨fun k hk => ?_, d'.toList.map (encE rows), by simp, ⟨fun k hk => hk.symm, c'.toList.take (n * 2), hO, hR⟩, fun j x c hx hc => ?_⟩
  · have : g = k := by simpa [Value.ownBlock] using hk
    rw [← this]; exact hok
  · have hj : j < n := by
      have := (List.getElem?_eq_some_iff.1 hx).1
      simpa [hd] using this
    simp only [List.getElem?_map, Array.getElem?_toList] at hx hc
    rw [Array.getElem?_eq_getElem (by omega), Option.map_some] at hx hc
    rw [← Option.some.inj hx, ← Option.some.inj hc]
    exact Kd.FK_mono (hf _) (fun k hk => ⟨hk.1, fun e => hk.2 (Option.some.inj (show some k = some g from e))⟩)
theorem N_addr {w : World} {base : Nat} {ok : Nat → Prop} {v : Value} {xs : List S33} (h : Kd.N k33 33 w base ok v xs) (hv : v.ownBlock ≠ none) : ∃ g cap, v = .slice (some ⟨g, 0, none⟩) xs.length cap := by
  obtain ⟨h0, rows, hl, ⟨_, inner, ho, hr⟩, hf⟩ := h
  rcases ho.2 with ⟨rfl, _⟩ | ⟨g, cap, cur, rfl, _⟩
  · exact absurd rfl hv
  · exact ⟨g, cap, by rw [hl]⟩
/-- how two of the row's elements are held against each other -/
def cfE (xs : List S33) (i j : Nat) : Int := Lab.cmpP (keyE (xs.getD i z33)) (keyE (xs.getD j z33))
theorem swo_cfE (xs : List S33) : Go.Sort.SWO (Go.Proofs.ltOf (cfE xs)) where
  irrefl i := Lab.swo_cmp.irrefl (keyE (xs.getD i z33))
  trans i j k h1 h2 := Lab.swo_cmp.trans (keyE (xs.getD i z33)) (keyE (xs.getD j z33)) (keyE (xs.getD k z33)) h1 h2
  ntrans i j k h1 h2 := Lab.swo_cmp.ntrans (keyE (xs.getD i z33)) (keyE (xs.getD j z33)) (keyE (xs.getD k z33)) h1 h2
theorem getD_len {xs : List S33} (hx : ∀ x ∈ xs, x.f0.length ≤ 1000000) (i : Nat) : (xs.getD i z33).f0.length ≤ 1000000 := by
  by_cases h : i < xs.length
  · rw [List.getD_eq_getElem?_getD, List.getElem?_eq_getElem h]; exact hx _ (List.getElem_mem h)
  · rw [List.getD_eq_getElem?_getD, List.getElem?_eq_none (by omega)]; simp [z33]
theorem sorted_list {xs : List S33} {d' : Array Nat} (hp : Go.Sort.PermIn 0 xs.length (Array.range xs.length) d') (hs : Go.Sort.SortedIn (Go.Proofs.ltOf (cfE xs)) 0 xs.length d') :
    (d'.toList.map fun j => xs.getD j z33).Perm xs ∧ Lab.Weak keyE (d'.toList.map fun j => xs.getD j z33) := by
  have hz : d'.size = xs.length := by have := hp.1; simpa using this
  constructor
  · have h := hp.2.2
    rw [show d'.extract 0 xs.length = d' by rw [← hz]; simp, show (Array.range xs.length).extract 0 xs.length = Array.range xs.length by simp] at h
    have h2 := h.map (fun j => xs.getD j z33)
    have e : ((Array.range xs.length).toList.map fun j => xs.getD j z33) = xs := by
      apply List.ext_getElem (by simp)
      intro j h1 h3
      simp [List.getD_eq_getElem?_getD, h3]
    rwa [e] at h2
  · refine List.pairwise_iff_getElem.2 fun i j hi hj hij => ?_
    simp only [List.length_map, Array.length_toList] at hi hj
    have := hs i j (Nat.zero_le _) hij (by omega)
    rw [getElem!_pos d' i hi, getElem!_pos d' j hj] at this
    simp only [List.getElem_map, Array.getElem_toList]
    exact of_decide_eq_false this
theorem rowB_elem {xs : List S33} {rows : List (List Value)} {g bx kk size : Nat} {ok : Nat → Prop} {w1 : World} (hk2 : kk = 2) (hlen : ∀ j, (encE rows j).length = 2) (hone : ∀ j, ∀ u ∈ encE rows j, u.oneCell' = true) (hg : g < w1.heap.size)
    (hfk : ∀ j, Kd.FK k33 w1 (fun k => ok k ∧ k ≠ g) (xs.getD j z33) (encE rows j)) (hbx : w1.cell? ⟨bx, 0, none⟩ = some (.func (.func 46) #[] #[])) (hne : bx ≠ g) (hx : ∀ x ∈ xs, x.f0.length ≤ 1000000) :
    Stb.RowB Tryz.prog (encE rows) kk 90 #[.pointer (some ⟨bx, 0, none⟩)] (cfE xs) w1 g 0 size := by
  subst hk2
  refine ⟨hlen, hone, hg, fun W dk hs S x y => ?_⟩
  have hlt := World.block_lt_of_cell? _ _ hbx
  have hp : W.cell? ⟨bx, 0, none⟩ = some (.func (.func 46) #[] #[]) := (World.cell?_of_block (S.gb.block bx hlt (fun e => hne (Option.some.inj e)))).trans hbx
  obtain ⟨A0, c0, e0, l0, C0⟩ := k33_open (Kd.FK_now (Kd.FK_grown (hfk x) S.gb (fun k hk e => hk.2 (Option.some.inj e))))
  obtain ⟨A1, c1, e1, l1, C1⟩ := k33_open (Kd.FK_now (Kd.FK_grown (hfk y) S.gb (fun k hk e => hk.2 (Option.some.inj e))))
  rw [e0, e1]
  have hl0 := getD_len hx x
  have hl1 := getD_len hx y
  exact cmp_elem A0 A1 _ c0 _ c1 _ _ (cfE xs x y) bx W hp (fun w' hb => labels_Compare.calls 2000001 A0 c0 _ A1 c1 _ _ w' (Kd.C_below C0 hb) l0 (Kd.C_below C1 hb) l1 (compare_val _ _ _ (by omega) (by omega)))
def ordV (l : List S33) : List S33 × Bool := if Lab.Free keyE l then (Lab.sortK keyE l, true) else ([], false)
def OrdPost (P0_ : Nat → Prop) (l0 : List S33) (w : World) (e : Ending) (w' : World) : Prop :=
  ∃ v0_ : Value, e = .returned (.tuple #[v0_, .bool (ordV l0).2]) ∧ Kd.N k33 33 w' w.heap.size (fun k_ => (P0_ k_ ∨ w.heap.size ≤ k_)) v0_ (ordV l0).1 ∧ Below w.heap.size w w'
set_option maxRecDepth 100000 in
set_option maxHeartbeats 3000000 in
theorem ordered_any (P0_ : Nat → Prop) (A0 : Option Addr) (c0 : Nat) (l0 : List (S33)) (w : World) (hs0 : Kd.V k33 33 w w.heap.size (fun k_ => P0_ k_) (.slice A0 l0.length c0) l0) (hl : l0.length ≤ 4194304) (hx : ∀ x ∈ l0, x.f0.length ≤ 1000000) :
    Calls Tryz.prog 45 #[.slice A0 l0.length c0, .func (.func 46) #[] #[]] w (OrdPost P0_ l0 w) := by
  have HS := Aside0.mk hs0
  have HX := Aside0.mk hx
  clear hs0 hx
  have hmf : ∀ (fn : Fn) (first cap : Array Value) (w : World), (Instr.makeFunc fn first cap).run Tryz.prog w = .ok (.func fn first cap) w := fun _ _ _ _ => rfl
  have HN0 := Aside0.mk (N_empty (w.alloc (.cells #[.func (.func 46) #[] #[]] 92)) w.heap.size (fun k_ => P0_ k_ ∨ w.heap.size ≤ k_) (by simp) (Or.inr (by simp)))
  have HB0 : Aside0 (∀ o1 o2, Below w.heap.size w ((w.alloc o1).alloc o2)) := Aside0.mk fun o1 o2 => below_alloc (below_alloc (Below.refl _ _) o1) o2
  have HF0 : Aside0 (∀ o1 o2, Kd.F k33 ((w.alloc o1).alloc o2) (fun k_ => P0_ k_ ∧ k_ < w.heap.size) A0 l0.length l0) := Aside0.mk fun o1 o2 => Kd.V_F (Kd.V_old (base := w.heap.size) HS.out (HB0.out o1 o2))
  go_enter Tryz.func45, Tryz.ntmps45
  go_wp2_with (first
    | ((with_reducible refine gate_builtin (b := .append) (xs := #[.tmp 8, .tmp 9]) rfl ?_); at_builtin
       refine Kd.N_append_rows k33 (w0 := w) w.heap.size rfl (.tmp 8) (.tmp 9) 22 33 (.agg #[(.slice none 0 0), (.int .u64 0)]) 32 rfl Tryz.underlying22 info33 rfl (by decide) (by omega) (.slice (some ⟨w.heap.size + 1, 0, none⟩) 0 0) [] l0 A0 l0.length c0 (fun k_ => P0_ k_ ∨ w.heap.size ≤ k_) (fun k_ => P0_ k_ ∧ k_ < w.heap.size) rfl rfl ?c1 ?c2 ?c3 ?c4 ?c5 ?c6 ?c7 ?_
       (case c1 => have z := HN0.out; simp at z; exact z)
       (case c2 => exact HF0.out _ _)
       (case c3 => intro k hk; exact ⟨Or.inl hk.1, by simp [Value.ownBlock]; have := hk.2; omega⟩)
       (case c4 => intro k hk; simp at hk; exact Or.inr (by omega))
       (case c5 => exact HB0.out _ _)
       (case c6 => simp; omega)
       (case c7 => simp; omega)
       intro v1 w1 ho hb hg hat
       have HO := Aside0.mk ho
       have HB := Aside0.mk hb
       have HG := Aside0.mk hg
       have HA := Aside0.mk hat
       clear ho hb hg hat))
  obtain ⟨gb, cap, rfl⟩ := N_addr HO.out (by rcases HA.out with h | ⟨b, h, _⟩ <;> rw [h] <;> simp [Value.ownBlock])
  have ho1 := HO.out
  rw [List.nil_append] at ho1
  have HO1 := Aside0.mk ho1
  clear ho1 HO
  obtain ⟨rows, _, _, hbase, hok, hgl, hnc, hcm, ⟨cur, hcur, hcs⟩, hlen, hone, HH, hfk⟩ := row_open HO1.out
  have hbx : w1.cell? ⟨w.heap.size, 0, none⟩ = some (.func (.func 46) #[] #[]) := by
    rw [World.cell?_of_block (HG.out.block w.heap.size (by simp; omega) (by simp [Value.ownBlock]))]; simp
  have hne : w.heap.size ≠ gb := by
    rcases HA.out with h | ⟨b, h, hb⟩
    · simp [Value.ownBlock] at h; omega
    · simp [Value.ownBlock] at h hb; omega
  obtain ⟨kk, hkk⟩ : ∃ kk : Nat, kk = 2 := ⟨2, rfl⟩
  have aE : ∀ w, (isAgg 33).run Tryz.prog w = .ok true w := fun _ => by kernel_rfl
  have zE : ∀ w, (Go.sizeOf 33).run Tryz.prog w = .ok kk w := fun _ => by rw [hkk]; kernel_rfl
  have RB := Aside0.mk (rowB_elem (size := l0.length) hkk hlen hone hgl hfk hbx hne HX.out)
  have S0 : Aside0 (Stb.SB (encE rows) kk w1 gb 0 (Array.range l0.length) w1) := Aside0.mk (Stb.SB.start (by rw [hkk]; exact HH))
  have FK1 := Aside0.mk hfk
  have HL := Aside0.mk hlen
  have H1 := Aside0.mk hone
  have HC := Aside0.mk hcur
  have HBX := Aside0.mk hbx
  have KK := Aside0.mk hkk
  have NE := Aside0.mk hne
  have HCS := Aside0.mk hcs
  simp only [List.nil_append] at *
  clear hfk hlen hone hcur hbx HH hcs
  refine (sortStable_any (encE rows) kk hkk 90 #[.pointer (some ⟨w.heap.size, 0, none⟩)] (cfE l0) (swo_cfE l0) gb 0 cap l0.length (Array.range l0.length) w1 w1 (fun _ _ => rfl) RB.out (by simp) S0.out (by omega)).mono ?_
  rintro e w2 ⟨rfl, d', HP0, HS0, S2_⟩
  have HPS := Aside0.mk (sorted_list HP0 HS0)
  have hd' : d'.size = l0.length := by have := HP0.1; simpa using this
  have S2 := Aside0.mk S2_
  clear HP0 HS0 S2_ S0 hkk hne HN0 HB0 HF0 HA
  go_wp2_with fail
  go_loopw [7] (fun vi wr => ∃ i : Nat, vi = .int .i64 i ∧ 1 ≤ i ∧ Aside0 (i ≤ l0.length ∨ i = 1) ∧ Aside0 (∀ j, j + 1 < i → keyE (l0.getD d'[j]! z33) ≠ keyE (l0.getD d'[j + 1]! z33)) ∧ Aside0 (Stb.SB (encE rows) kk w1 gb 0 d' wr)) (fun vi _ => l0.length - (intOf vi).toNat)
  case atStart => exact ⟨1, rfl, Nat.le_refl _, Aside0.mk (Or.inr rfl), Aside0.mk (fun j hj => by omega), S2⟩
  case round =>
    clear S2
    obtain ⟨i, rfl, hi1, hi2, HK, S2⟩ := hrel
    by_cases hlt : i < l0.length
    · have hltz : (i : Int) < (l0.length : Int) := by omega
      obtain ⟨ip, rfl⟩ : ∃ ip, i = ip + 1 := ⟨i - 1, by omega⟩
      have ea : ((ip : Int) + 1).toNat = ip + 1 := by omega
      have pa : (0 : Int) ≤ (ip : Int) + 1 := by omega
      have ba : (ip : Int) + 1 < (l0.length : Int) := by omega
      have bc : (ip : Int) < (l0.length : Int) := by omega
      have rc : IntKind.i64.wrap (ip : Int) = (ip : Int) := by rw [IntKind.wrap_i64]; omega
      have ra : IntKind.i64.wrap ((ip : Int) + 1) = (ip : Int) + 1 := by rw [IntKind.wrap_i64]; omega
      have lx := S2.out.ld RB.out ip (by omega)
      have ly := S2.out.ld RB.out (ip + 1) (by omega)
      have hbxr : wr.cell? ⟨w.heap.size, 0, none⟩ = some (.func (.func 46) #[] #[]) := (World.cell?_of_block (S2.out.gb.block w.heap.size (World.block_lt_of_cell? _ _ HBX.out) (fun e => NE.out (Option.some.inj e)))).trans HBX.out
      have hlb := World.block_lt_of_cell? _ _ hbxr
      have hv : ∀ q : Stb.BW wr, q.world.cell? ⟨w.heap.size, 0, none⟩ = some (.func (.func 46) #[] #[]) := fun q => (q.h.cell hlb).trans hbxr
      obtain ⟨Ax, cx, ex, lenx, Cx⟩ := k33_open (Kd.FK_now (Kd.FK_grown (FK1.out d'[ip]!) S2.out.gb (fun k hk e => hk.2 (Option.some.inj e))))
      obtain ⟨Ay, cy, ey, leny, Cy⟩ := k33_open (Kd.FK_now (Kd.FK_grown (FK1.out d'[ip + 1]!) S2.out.gb (fun k hk e => hk.2 (Option.some.inj e))))
      rw [ex] at lx
      rw [ey] at ly
      simp only [Nat.zero_add] at lx ly
      have hlx := getD_len HX.out d'[ip]!
      have hly := getD_len HX.out d'[ip + 1]!
      have h91 : ∀ q : Stb.BW wr, Calls Tryz.prog 91 #[.slice Ax (l0.getD d'[ip]! z33).f0.length cx, .slice Ay (l0.getD d'[ip + 1]! z33).f0.length cy] q.world fun e w'' => e = .returned (.bool (decide (keyL (l0.getD d'[ip]! z33).f0 = keyL (l0.getD d'[ip + 1]! z33).f0))) ∧ ∃ z : Stb.BW wr, w'' = z.world :=
        fun q => Stb.Calls.below_of q ((labels_Same.calls 1000001 Ax cx _ Ay cy _ _ q.world (Kd.C_below Cx q.h) lenx (Kd.C_below Cy q.h) leny (same_val _ _ _ (by omega) (by omega))).mono fun _ _ h => ⟨h.1, h.2.below⟩)
      have h46 : ∀ A n c u (q : Stb.BW wr), Calls Tryz.prog 46 #[.agg #[.slice A n c, .int .u64 u]] q.world fun e w'' => e = .returned (.slice A n c) ∧ ∃ z : Stb.BW wr, w'' = z.world := fun A n c u q => Stb.Calls.below_of q (of_elem A n c u q.world)
      have H46 := Aside0.mk h46
      have H91 := Aside0.mk h91
      clear h46 h91 ex ey lenx leny Cx Cy hbxr hlx hly
      cases hb : decide (keyL (l0.getD d'[ip]! z33).f0 = keyL (l0.getD d'[ip + 1]! z33).f0) with
      | false =>
        rw [hb] at H91
        have HB2 := Aside0.mk (of_decide_eq_false hb)
        clear hb
        generalize (l0.getD d'[ip]! z33).f0.length = nx at lx H91
        generalize (l0.getD d'[ip + 1]! z33).f0.length = ny at ly H91
        generalize (l0.getD d'[ip]! z33).f1 = ux at lx
        generalize (l0.getD d'[ip + 1]! z33).f1 = uy at ly
        go_wp2_with fail
        refine Stb.wp_region_below (by kernel_rfl) (by kernel_rfl) ?_
        repeat (quiet_step ((first | (go_at_call 46; exact H46.out _ _ _ _ _) | (go_at_fn 46; exact H46.out _ _ _ _ _) | (go_at_call 91; exact H91.out _))))
        refine wpQuiet_nil ?_
        intro _ hw'
        obtain ⟨pq, hw''⟩ := hw'
        subst hw''
        have S3 := Aside0.mk (S2.out.bw hgl pq)
        clear S2 hv lx ly H46 H91
        generalize pq.world = wq at S3 ⊢
        clear pq
        go_wp2_with fail
        go_roundw
        case rel => exact ⟨ip + 2, by go_num, by omega, Aside0.mk (Or.inl (by omega)), Aside0.mk (fun j hj => by
          by_cases e : j = ip
          · rw [e]; exact HB2.out
          · exact HK.out j (by omega)), S3⟩
        case measure => simp [intOf]; omega
      | true =>
        rw [hb] at H91
        have HB2 := Aside0.mk (of_decide_eq_true hb)
        clear hb
        generalize (l0.getD d'[ip]! z33).f0.length = nx at lx H91
        generalize (l0.getD d'[ip + 1]! z33).f0.length = ny at ly H91
        generalize (l0.getD d'[ip]! z33).f1 = ux at lx
        generalize (l0.getD d'[ip + 1]! z33).f1 = uy at ly
        go_wp2_with fail
        refine Stb.wp_region_below (by kernel_rfl) (by kernel_rfl) ?_
        repeat (quiet_step ((first | (go_at_call 46; exact H46.out _ _ _ _ _) | (go_at_fn 46; exact H46.out _ _ _ _ _) | (go_at_call 91; exact H91.out _))))
        refine wpQuiet_nil ?_
        intro _ hw'
        obtain ⟨pq, hw''⟩ := hw'
        subst hw''
        have S3 := Aside0.mk (S2.out.bw hgl pq)
        clear S2 hv lx ly H46 H91
        generalize pq.world = wq at S3 ⊢
        clear pq
        have nf : ¬ Lab.Free keyE l0 := fun hf => by
          have hf' := (Lab.free_perm HPS.out.1).2 hf
          have z := List.pairwise_iff_getElem.1 hf' ip (ip + 1) (by simp; omega) (by simp; omega) (by omega)
          simp only [List.getElem_map, Array.getElem_toList] at z
          rw [← getElem!_pos d' ip (by omega), ← getElem!_pos d' (ip + 1) (by omega)] at z
          exact z ((Lab.cmpP_zero _ _).2 HB2.out)
        have NF := Aside0.mk nf
        clear nf
        go_wp2_with fail
        refine bodyPost_ret (v := .tuple #[.slice none 0 0, .bool false]) (by simp [results, Tryz.results45, go_sem]) rfl ?_
        unfold OrdPost ordV
        rw [if_neg NF.out]
        exact ⟨_, rfl, Kd.N_nil _ _ _ _ _, HB.out.grown S3.out.gb (below_size HB.out) (fun k e => by have := Option.some.inj e; omega)⟩
    · have hltz : ¬ (i : Int) < (l0.length : Int) := by omega
      go_wp2_with fail
      have hfr : Lab.Free keyE l0 := (Lab.free_perm HPS.out.1).1 (Lab.free_of_next HPS.out.2 (fun j hj => by
        simp only [List.length_map, Array.length_toList] at hj
        simp only [List.getElem_map, Array.getElem_toList]
        rw [← getElem!_pos d' j (by omega), ← getElem!_pos d' (j + 1) (by omega)]
        exact fun e => HK.out j (by omega) ((Lab.cmpP_zero _ _).1 e)))
      have hN := row_shut (base := w.heap.size) (ok := fun k_ => P0_ k_ ∨ w.heap.size ≤ k_) rfl hbase (Or.inr hbase) hnc hcm HC.out HCS.out HL.out H1.out hd' (KK.out ▸ S2.out) (fun j => Kd.FK_grown (FK1.out j) S2.out.gb (fun k hk e => hk.2 (Option.some.inj e)))
      rw [Lab.sortK_of_weak HPS.out.2 HPS.out.1 hfr] at hN
      refine bodyPost_ret (v := .tuple #[.slice (some ⟨gb, 0, none⟩) l0.length cap, .bool true]) (by simp [results, Tryz.results45, go_sem]) rfl ?_
      unfold OrdPost ordV
      rw [if_pos hfr]
      exact ⟨_, rfl, hN, HB.out.grown S2.out.gb (below_size HB.out) (fun k e => by have := Option.some.inj e; omega)⟩
def eval_Sort.f (l0 : List S33) : Option (List S33 × Int) := if (decide (l0.length ≤ 4194304) && l0.all fun x => decide (x.f0.length ≤ 1000000)) = true then some ((ordV l0).1, if (ordV l0).2 = true then 0 else 52) else none
def SortPost (P0_ : Nat → Prop) (r1 : List S33) (r2 : Int) (w : World) (e : Ending) (w' : World) : Prop :=
  ∃ v0_ : Value, e = .returned (.tuple #[v0_, .int .i64 r2]) ∧ Kd.N k33 33 w' w.heap.size (fun k_ => (P0_ k_ ∨ w.heap.size ≤ k_)) v0_ r1 ∧ Below w.heap.size w w'
set_option maxRecDepth 100000 in
theorem sort_any (P0_ : Nat → Prop) (A0 : Option Addr) (c0 : Nat) (l0 : List (S33)) (r1 : List S33) (r2 : Int) (w : World) (hs0 : Kd.V k33 33 w w.heap.size (fun k_ => P0_ k_) (.slice A0 l0.length c0) l0) (h : eval_Sort.f l0 = some (r1, r2)) :
    Calls Tryz.prog 15 #[.slice A0 l0.length c0] w (SortPost P0_ r1 r2 w) := by
  unfold eval_Sort.f at h
  split at h
  · rename_i hc
    simp only [Bool.and_eq_true, decide_eq_true_eq, List.all_eq_true] at hc
    obtain ⟨h1, h2⟩ := by simpa using h
    have CC := Aside0.mk (ordered_any P0_ A0 c0 l0 w hs0 hc.1 hc.2)
    have H1 := Aside0.mk h1
    have H2 := Aside0.mk h2
    clear h h1 h2 hs0
    cases hb : (ordV l0).2 with
    | true =>
      have HB := Aside0.mk hb
      clear hb hc
      go_enter Tryz.func15, Tryz.ntmps15
      go_wp2_with fail
      refine Go.Calls.mono CC.out ?_
      rintro e w1 ⟨v0, rfl, hN, hB⟩
      rw [HB.out]
      have HN := Aside0.mk hN
      have HBe := Aside0.mk hB
      clear hN hB CC
      go_wp2_with fail
      refine bodyPost_ret (v := .tuple #[v0, .int .i64 0]) (by simp [results, Tryz.results15, go_sem]) rfl ?_
      refine ⟨v0, ?_, by rw [← H1.out]; exact HN.out, HBe.out⟩
      rw [← H2.out, HB.out]; rfl
    | false =>
      have HB := Aside0.mk hb
      have HE : Aside0 ((ordV l0).1 = []) := Aside0.mk (by
        unfold ordV at hb ⊢
        by_cases hf : Lab.Free keyE l0
        · rw [if_pos hf] at hb; cases hb
        · rw [if_neg hf])
      clear hb hc
      go_enter Tryz.func15, Tryz.ntmps15
      go_wp2_with fail
      refine Go.Calls.mono CC.out ?_
      rintro e w1 ⟨v0, rfl, hN, hB⟩
      rw [HB.out]
      have HBe := Aside0.mk hB
      clear hN hB CC
      go_wp2_with fail
      refine bodyPost_ret (v := .tuple #[.slice none 0 0, .int .i64 52]) (by simp [results, Tryz.results15, go_sem]) rfl ?_
      refine ⟨.slice none 0 0, ?_, by rw [← H1.out, HE.out]; exact Kd.N_nil _ _ _ _ _, HBe.out⟩
      rw [← H2.out, HB.out]; rfl
  · cases h
theorem eval_Sort.calls (P0_ : Nat → Prop) (A0 : Option Addr) (c0 : Nat) (l0 : List (S33)) (r1 : List (S33)) (r2 : Int) (w : World) (hs0 : Kd.V k33 33 w w.heap.size (fun k_ => P0_ k_) (.slice A0 l0.length c0) l0) (h : eval_Sort.f l0 = some (r1, r2)) :
    Calls Tryz.prog 15 #[.slice A0 l0.length c0] w fun e w' => ∃ v0_ : Value, e = .returned (.tuple #[v0_, .int .i64 r2]) ∧ Kd.N k33 33 w' w.heap.size (fun k_ => (P0_ k_ ∨ w.heap.size ≤ k_)) v0_ r1 ∧ Below w.heap.size w w' := sort_any P0_ A0 c0 l0 r1 r2 w hs0 h


/-! ### manometerref05_Same: function 41 -/
def manometerref05_Same.l0 : Nat → List (S128) → List (S128) → Int → Int → Option (Bool)
  | 0, _, _, _, _ => none
  | k + 1, x0, x1, x12, x13 => if x13 < x12 then (if 0 ≤ x13 then (if x13 < (x0.length : Int) then (if x13 < (x1.length : Int) then (if (!((((rd_T128 x0 x13).f0).toList) == (((rd_T128 x1 x13).f0).toList)) || (!((((rd_T128 x0 x13).f1).toList) == (((rd_T128 x1 x13).f1).toList)))) = true then (some false) else (manometerref05_Same.l0 k x0 x1 x12 (wrap64 (x13 + 1)))) else (none)) else (none)) else (none)) else (some true)
def manometerref05_Same.f (k : Nat) (l0 : List (S128)) (l1 : List (S128)) : Option (Bool) := if (l0.length : Int) = (l1.length : Int) then (manometerref05_Same.l0 k l0 l1 (l0.length : Int) 0) else (some false)
theorem manometerref05_Same.mono_l : ∀ k, (∀ y0 y1 y2 y3, LeO (manometerref05_Same.l0 k y0 y1 y2 y3) (manometerref05_Same.l0 (k + 1) y0 y1 y2 y3))
  | 0 => fun _ _ _ _ r h => by simp [manometerref05_Same.l0] at h
  | k + 1 => by
    have ih0 := manometerref05_Same.mono_l k
    · intro y0 y1 y2 y3
      unfold manometerref05_Same.l0
      repeat' first
      | (with_reducible exact ih0 _ _ _ _)
      | (with_reducible exact LeO.refl _)
      | (with_reducible exact LeO.none _)
      | (with_reducible refine LeO.ite ?_ ?_)
      | (with_reducible refine LeO.bind ?_ (fun _ => ?_))
      | exact ih0 _ _ _ _
      | exact LeO.none _
      | refine LeO.ite ?_ ?_
      | refine LeO.bind ?_ (fun _ => ?_)
theorem manometerref05_Same.mono : ∀ a0 a1 k, LeO (manometerref05_Same.f k a0 a1) (manometerref05_Same.f (k + 1) a0 a1) := by
  intro a0 a1 k
  have ih0 := manometerref05_Same.mono_l k
  unfold manometerref05_Same.f
  repeat' first
      | (with_reducible exact ih0 _ _ _ _)
      | (with_reducible exact LeO.refl _)
      | (with_reducible exact LeO.none _)
      | (with_reducible refine LeO.ite ?_ ?_)
      | (with_reducible refine LeO.bind ?_ (fun _ => ?_))
      | exact ih0 _ _ _ _
      | exact LeO.none _
      | refine LeO.ite ?_ ?_
      | refine LeO.bind ?_ (fun _ => ?_)
set_option maxHeartbeats 8000000 in
set_option maxRecDepth 100000 in
theorem manometerref05_Same.calls (k : Nat) (A0 : Option Addr) (c0 : Nat) (l0 : List (S128)) (A1 : Option Addr) (c1 : Nat) (l1 : List (S128)) (r : Bool) (w : World) (hr0 : Kd.C k128 w A0 l0.length l0) (hc0 : l0.length ≤ c0) (hr1 : Kd.C k128 w A1 l1.length l1) (hc1 : l1.length ≤ c1) (h : manometerref05_Same.f k l0 l1 = some r) :
    Calls Tryz.prog 41 #[.slice A0 l0.length c0, .slice A1 l1.length c1] w fun e w' => e = .returned (.bool r) ∧ Drawn0 w w' := by
  have hu128 := Tryz.underlying128
  have HR0 := Aside0.mk hr0
  have HC0 := Aside0.mk hc0
  clear hr0 hc0
  have HR1 := Aside0.mk hr1
  have HC1 := Aside0.mk hc1
  clear hr1 hc1
  have H : (if (l0.length : Int) = (l1.length : Int) then (manometerref05_Same.l0 k l0 l1 (l0.length : Int) 0) else (some false)) = some r := h
  clear h
  by_cases c3 : (l0.length : Int) = (l1.length : Int)
  · rw [if_pos c3] at H
    have c3b0 : ((l0.length : Int) == (l1.length : Int)) = true := beq_iff_eq.mpr c3
    have c3b1 : ((l0.length : Int) != (l1.length : Int)) = false := bne_eq_false_iff_eq.mpr c3
    have c3b2 : (l0.length == l1.length) = true := by first | simpa using c3 | (simp at c3 ⊢; omega)
    clear c3
    have H' := Aside0.mk H
    clear H
    go_enter Tryz.func41, Tryz.ntmps41
    go_wp2
    repeat (go_quiet (fail); try go_wp2)
    go_loopg [13] k (fun kq v13 w' => ∃ (x13_1 : Int), v13 = .int .i64 x13_1 ∧ Aside0 (manometerref05_Same.l0 kq l0 l1 (l0.length : Int) x13_1 = some r) ∧ Aside0 (kq ≤ k) ∧ Drawn0 w w')
    case atStart => exact ⟨(0), (by first | rfl | (simp; done) | (simp [*]; done)), H', ⟨Nat.le_refl _⟩, by repeat (first | exact Drawn0.refl _ | apply Drawn0.step)⟩
    case round =>
      clear H'
      try clear c1
      try clear p2
      try clear c3
      try clear c3b0
      try clear c3b1
      try clear c3b2
      obtain ⟨x13_1, rfl, HA, HK1, ⟨m1, rfl⟩⟩ := hrel
      cases gk with
      | zero => exact absurd HA.out (by simp [manometerref05_Same.l0])
      | succ k1 =>
        have H := HA.out
        clear HA
        simp only [manometerref05_Same.l0] at H
        by_cases c4 : x13_1 < (l0.length : Int)
        · rw [if_pos c4] at H
          have c4b0 : decide (x13_1 < (l0.length : Int)) = true := decide_eq_true c4
          clear c4
          by_cases c5 : 0 ≤ x13_1
          · rw [if_pos c5] at H
            have c5b0 : decide (0 ≤ x13_1) = true := decide_eq_true c5
            clear c5
            by_cases c6 : x13_1 < (l0.length : Int)
            · rw [if_pos c6] at H
              have c6b0 : decide (x13_1 < (l0.length : Int)) = true := decide_eq_true c6
              clear c6
              by_cases c7 : x13_1 < (l1.length : Int)
              · rw [if_pos c7] at H
                have c7b0 : decide (x13_1 < (l1.length : Int)) = true := decide_eq_true c7
                clear c7
                by_cases c8 : (!((((rd_T128 l0 x13_1).f0).toList) == (((rd_T128 l1 x13_1).f0).toList)) || (!((((rd_T128 l0 x13_1).f1).toList) == (((rd_T128 l1 x13_1).f1).toList)))) = true
                · rw [if_pos c8] at H
                  have c8b0 : (!((((rd_T128 l0 x13_1).f0).toList) == (((rd_T128 l1 x13_1).f0).toList)) || (!((((rd_T128 l0 x13_1).f1).toList) == (((rd_T128 l1 x13_1).f1).toList)))) = true := c8
                  clear c8
                  obtain rfl := Option.some.inj H
                  have p161 : 0 ≤ (x13_1 : Int) := of_decide_eq_true (by first | (with_reducible assumption) | assumption)
                  have q161 : x13_1 < (l0.length : Int) := of_decide_eq_true (by first | (with_reducible assumption) | assumption)
                  obtain ⟨ad161, e161, hx161_0, hx161_1⟩ := at_T128 HR0.out x13_1 p161 q161
                  cases e161
                  replace p161 := eq_true p161
                  replace q161 := eq_true q161
                  have p162 : 0 ≤ (x13_1 : Int) := of_decide_eq_true (by first | (with_reducible assumption) | assumption)
                  have q162 : x13_1 < (l1.length : Int) := of_decide_eq_true (by first | (with_reducible assumption) | assumption)
                  obtain ⟨ad162, e162, hx162_0, hx162_1⟩ := at_T128 HR1.out x13_1 p162 q162
                  cases e162
                  replace p162 := eq_true p162
                  replace q162 := eq_true q162
                  go_wp2
                  repeat (go_quiet (fail); try go_wp2)
                  go_ret
                  exact ⟨by first | rfl | (simp; done) | (simp [*]; done), by repeat (first | exact Drawn0.refl _ | apply Drawn0.step)⟩
                · rw [if_neg c8] at H
                  have c8b0 : (!((((rd_T128 l0 x13_1).f0).toList) == (((rd_T128 l1 x13_1).f0).toList)) || (!((((rd_T128 l0 x13_1).f1).toList) == (((rd_T128 l1 x13_1).f1).toList)))) = false := by simpa using c8
                  clear c8
                  have H' := Aside0.mk H
                  clear H
                  have p161 : 0 ≤ (x13_1 : Int) := of_decide_eq_true (by first | (with_reducible assumption) | assumption)
                  have q161 : x13_1 < (l0.length : Int) := of_decide_eq_true (by first | (with_reducible assumption) | assumption)
                  obtain ⟨ad161, e161, hx161_0, hx161_1⟩ := at_T128 HR0.out x13_1 p161 q161
                  cases e161
                  replace p161 := eq_true p161
                  replace q161 := eq_true q161
                  have p162 : 0 ≤ (x13_1 : Int) := of_decide_eq_true (by first | (with_reducible assumption) | assumption)
                  have q162 : x13_1 < (l1.length : Int) := of_decide_eq_true (by first | (with_reducible assumption) | assumption)
                  obtain ⟨ad162, e162, hx162_0, hx162_1⟩ := at_T128 HR1.out x13_1 p162 q162
                  cases e162
                  replace p162 := eq_true p162
                  replace q162 := eq_true q162
                  go_wp2
                  repeat (go_quiet (fail); try go_wp2)
                  go_roundg k1
                  case measure => have := HK1.out; omega
                  case rel => exact ⟨(wrap64 (x13_1 + 1)), (by first | rfl | (simp; done) | (simp [*]; done)), H', ⟨by have := HK1.out; omega⟩, by repeat (first | exact Drawn0.refl _ | apply Drawn0.step)⟩
              · rw [if_neg c7] at H
                exact absurd H (by simp)
            · rw [if_neg c6] at H
              exact absurd H (by simp)
          · rw [if_neg c5] at H
            exact absurd H (by simp)
        · rw [if_neg c4] at H
          have c4b0 : decide (x13_1 < (l0.length : Int)) = false := decide_eq_false c4
          clear c4
          obtain rfl := Option.some.inj H
          go_wp2
          repeat (go_quiet (fail); try go_wp2)
          go_ret
          exact ⟨by first | rfl | (simp; done) | (simp [*]; done), by repeat (first | exact Drawn0.refl _ | apply Drawn0.step)⟩
  · rw [if_neg c3] at H
    have c3b0 : ((l0.length : Int) == (l1.length : Int)) = false := beq_eq_false_iff_ne.mpr c3
    have c3b1 : ((l0.length : Int) != (l1.length : Int)) = true := bne_iff_ne.mpr c3
    have c3b2 : (l0.length == l1.length) = false := by first | simpa using c3 | (simp at c3 ⊢; omega)
    obtain rfl := Option.some.inj H
    go_enter Tryz.func41, Tryz.ntmps41
    go_wp2
    repeat (go_quiet (fail); try go_wp2)
    go_ret
    exact ⟨by first | rfl | (simp; done) | (simp [*]; done), by repeat (first | exact Drawn0.refl _ | apply Drawn0.step)⟩

/-! ### manometerref05_text: function 95 -/
def manometerref05_text.f (a0 : ByteArray) (a1 : ByteArray) : Option (Int) := if (Op.bytesLess a0.toList a1.toList) = true then (some (-1)) else (if (Op.bytesLess a1.toList a0.toList) = true then (some 1) else (some 0))
set_option maxHeartbeats 8000000 in
set_option maxRecDepth 100000 in
theorem manometerref05_text.calls (a0 : ByteArray) (a1 : ByteArray) (r : Int) (w : World) (h : manometerref05_text.f a0 a1 = some r) :
    Calls Tryz.prog 95 #[.string a0, .string a1] w fun e w' => e = .returned (.int .i64 r) ∧ Drawn0 w w' := by
  have H : (if (Op.bytesLess a0.toList a1.toList) = true then (some (-1)) else (if (Op.bytesLess a1.toList a0.toList) = true then (some 1) else (some 0))) = some r := h
  clear h
  by_cases c3 : (Op.bytesLess a0.toList a1.toList) = true
  · rw [if_pos c3] at H
    have c3b0 : (Op.bytesLess a0.toList a1.toList) = true := c3
    clear c3
    obtain rfl := Option.some.inj H
    go_enter Tryz.func95, Tryz.ntmps95
    go_wp2
    go_ret
    exact ⟨by first | rfl | (simp; done) | (simp [*]; done), by repeat (first | exact Drawn0.refl _ | apply Drawn0.step)⟩
  · rw [if_neg c3] at H
    have c3b0 : (Op.bytesLess a0.toList a1.toList) = false := by simpa using c3
    clear c3
    by_cases c4 : (Op.bytesLess a1.toList a0.toList) = true
    · rw [if_pos c4] at H
      have c4b0 : (Op.bytesLess a1.toList a0.toList) = true := c4
      have c4b1 := (leq_no c4b0).2
      clear c4
      obtain rfl := Option.some.inj H
      go_enter Tryz.func95, Tryz.ntmps95
      go_wp2
      go_ret
      exact ⟨by first | rfl | (simp; done) | (simp [*]; done), by repeat (first | exact Drawn0.refl _ | apply Drawn0.step)⟩
    · rw [if_neg c4] at H
      have c4b0 : (Op.bytesLess a1.toList a0.toList) = false := by simpa using c4
      have c4b1 : (a0.toList == a1.toList) = true := by have := leq_yes c4b0; rw [c3b0] at this; exact this
      clear c4
      obtain rfl := Option.some.inj H
      go_enter Tryz.func95, Tryz.ntmps95
      go_wp2
      go_ret
      exact ⟨by first | rfl | (simp; done) | (simp [*]; done), by repeat (first | exact Drawn0.refl _ | apply Drawn0.step)⟩

end Go.Proofs.YthhbbmebfmfgjaaGreatDoor.PD
