import Derived.Test.YtmbfpichaaanpaaGreatDoorX31
/-! The reader of expressions: signs. -/
namespace Go.Proofs.YtmbfpichaaanpaaGreatDoor
open Go.RowKit Ut Rx Mt

/-- a table of words is laid in block g -/
def Tb (w : World) (g : Nat) (l : List (List UInt8)) : Prop := ∀ i (h : i < l.length), w.cell? ⟨g, i, none⟩ = some (.string ⟨(l[i]'h).toArray⟩)
structure Wt (w : World) : Prop where
  c : Tb w 0 Ex.callsT
  a : Tb w 1 Ex.aggsT
  s : Tb w 2 Ex.setsT
  b : Tb w 3 Ex.binsT
  m : Tb w 4 Ex.cmpsT
theorem Wt.low {w w' : World} {t : Nat} (h : Wt w) (ht : 8 ≤ t) (b : Below t w w') : Wt w' := by
  have k : ∀ {g : Nat} {o : Nat} {v : Value}, g < 8 → w.cell? ⟨g, o, none⟩ = some v → w'.cell? ⟨g, o, none⟩ = some v := by
    intro g o v hb h
    exact (World.cell?_of_block (a := ⟨g, o, none⟩) (b.block g (by omega))).trans h
  exact ⟨fun i hi => k (by omega) (h.c i hi), fun i hi => k (by omega) (h.a i hi), fun i hi => k (by omega) (h.s i hi), fun i hi => k (by omega) (h.b i hi), fun i hi => k (by omega) (h.m i hi)⟩
theorem Wt.grown {w w' : World} {t : Nat} (h : Wt w) (ht : 8 ≤ t) (hs : 8 ≤ w.heap.size) (b : w.grownBy w' (some t)) : Wt w' := by
  refine h.low (t := 8) (Nat.le_refl _) ⟨b.os, b.tape, b.output, b.size, fun q hq => b.block q (by omega) (fun e => by have := Option.some.inj e; omega)⟩
/-- a node of a sign -/
def ndS (k op : Int) (bl : Bool) : Obj := .cells #[.int .i64 k, .int .i64 op, .int .u64 0, .int .u64 0, .slice none 0 0, .bool bl, .bool false, .slice none 0 0] 37 (0, 0)
def ndE (k op : Int) (bl : Bool) : Ex.Nd := ⟨k, op, 0, 0, [], bl, false, []⟩
theorem ndS_cells {w : World} {b : Nat} {k op : Int} {bl : Bool} (h : w.heap[b]? = some (ndS k op bl)) :
    (w.cell? ⟨b, 0, none⟩ = some (.int .i64 k) ∧ w.cell? ⟨b, 1, none⟩ = some (.int .i64 op) ∧ w.cell? ⟨b, 2, none⟩ = some (.int .u64 0) ∧ w.cell? ⟨b, 3, none⟩ = some (.int .u64 0) ∧ w.cell? ⟨b, 4, none⟩ = some (.slice none 0 0) ∧ w.cell? ⟨b, 5, none⟩ = some (.bool bl) ∧ w.cell? ⟨b, 6, none⟩ = some (.bool false) ∧ w.cell? ⟨b, 7, none⟩ = some (.slice none 0 0)) ∧ ∀ j, w.frozen? ⟨b, j, none⟩ = false :=
  ⟨⟨ndAt_blk h 0, ndAt_blk h 1, ndAt_blk h 2, ndAt_blk h 3, ndAt_blk h 4, ndAt_blk h 5, ndAt_blk h 6, ndAt_blk h 7⟩, fun j => by unfold World.frozen?; rw [h]; simp [ndS]⟩
/-- a sign's two nodes in memory: what is told (r), and what is built (n) -/
structure Sg (w wx : World) (t : Nat) (lv : Value) (rk ro : Int) (rb : Bool) (nk no : Int) (p : Ex.P) : Prop where
  g : w.grownBy wx (some t)
  px : Pq wx t lv p
  r : wx.heap[w.heap.size]? = some (ndS rk ro rb)
  n : wx.heap[w.heap.size + 1]? = some (ndS nk no false)
  size : w.heap.size + 2 ≤ wx.heap.size
def SgPost (w : World) (t : Nat) (lv : Value) (x : Option Ex.Nd × Ex.P) (e : Ending) (w' : World) : Prop :=
  (∃ (k op : Int) (bl b : Bool), e = .returned (.tuple #[.agg #[.int .i64 k, .int .i64 op, .int .u64 0, .int .u64 0, .slice none 0 0, .bool bl, .bool false, .slice none 0 0], .bool b]) ∧ b = x.1.isSome ∧ (∀ y, x.1 = some y → y = ndE k op bl)) ∧ w.grownBy w' (some t) ∧ Pq w' t lv x.2
section
variable {w wx w' : World} {t : Nat} {lv : Value} {rk ro nk no : Int} {rb : Bool} {p p' : Ex.P}
theorem Sg.call (h : Sg w wx t lv rk ro rb nk no p) (ht : t < w.heap.size) (g : wx.grownBy w' (some t)) (px : Pq w' t lv p') : Sg w w' t lv rk ro rb nk no p' :=
  ⟨grown_trans h.g g, px, (g.block _ (by have := h.size; omega) (fun e => by have := Option.some.inj e; omega)).trans h.r, (g.block _ (by have := h.size; omega) (fun e => by have := Option.some.inj e; omega)).trans h.n, Nat.le_trans h.size g.size⟩
/-- eight cells written, one after the other -/
def put8 (w : World) (b : Nat) (k op : Int) (bl : Bool) : World := (((((((w.setCell ⟨b, 0, none⟩ (.int .i64 k)).setCell ⟨b, 1, none⟩ (.int .i64 op)).setCell ⟨b, 2, none⟩ (.int .u64 0)).setCell ⟨b, 3, none⟩ (.int .u64 0)).setCell ⟨b, 4, none⟩ (.slice none 0 0)).setCell ⟨b, 5, none⟩ (.bool bl)).setCell ⟨b, 6, none⟩ (.bool false)).setCell ⟨b, 7, none⟩ (.slice none 0 0)
theorem put8_heap {w : World} {b : Nat} {k op k' op' : Int} {bl bl' : Bool} (h : w.heap[b]? = some (ndS k op bl)) : (put8 w b k' op' bl').heap[b]? = some (ndS k' op' bl') := by
  unfold put8 ndS at *
  have h0 := set1 (j := 0) h (.int .i64 k')
  have h1 := set1 (j := 1) h0 (.int .i64 op')
  have h2 := set1 (j := 2) h1 (.int .u64 0)
  have h3 := set1 (j := 3) h2 (.int .u64 0)
  have h4 := set1 (j := 4) h3 (.slice none 0 0)
  have h5 := set1 (j := 5) h4 (.bool bl')
  have h6 := set1 (j := 6) h5 (.bool false)
  have h7 := set1 (j := 7) h6 (.slice none 0 0)
  simpa using h7
theorem put8_grown (w : World) (b : Nat) (k op : Int) (bl : Bool) : w.grownBy (put8 w b k op bl) (some b) := by
  unfold put8
  exact grown_trans (grown_trans (grown_trans (grown_trans (grown_trans (grown_trans (grown_trans (grown_setCell _ _ _ _) (grown_setCell _ _ _ _)) (grown_setCell _ _ _ _)) (grown_setCell _ _ _ _)) (grown_setCell _ _ _ _)) (grown_setCell _ _ _ _)) (grown_setCell _ _ _ _)) (grown_setCell _ _ _ _)
theorem grown_new {w w1 w2 : World} {t b : Nat} (g : w.grownBy w1 (some t)) (k : w1.grownBy w2 (some b)) (hb : w.heap.size ≤ b) : w.grownBy w2 (some t) :=
  ⟨k.os.trans g.os, k.tape.trans g.tape, k.output.trans g.output, Nat.le_trans g.size k.size, fun q hq hn => (k.block q (Nat.lt_of_lt_of_le hq g.size) (fun e => by have := Option.some.inj e; omega)).trans (g.block q hq hn)⟩
/-- the node that is told is written -/
theorem Sg.putr (h : Sg w wx t lv rk ro rb nk no p) (ht : t < w.heap.size) (k op : Int) (bl : Bool) : Sg w (put8 wx w.heap.size k op bl) t lv k op bl nk no p := by
  have g := put8_grown wx w.heap.size k op bl
  exact ⟨grown_new h.g g (Nat.le_refl _), Px.grown h.px g (fun e => by have := Option.some.inj e; omega), put8_heap h.r, (g.block _ (by have := h.size; omega) (fun e => by have := Option.some.inj e; omega)).trans h.n, Nat.le_trans h.size g.size⟩
/-- the node that is built is written -/
theorem Sg.putn (h : Sg w wx t lv rk ro rb nk no p) (ht : t < w.heap.size) (k op : Int) : Sg w (put8 wx (w.heap.size + 1) k op false) t lv rk ro rb k op p := by
  have g := put8_grown wx (w.heap.size + 1) k op false
  exact ⟨grown_new h.g g (Nat.le_succ _), Px.grown h.px g (fun e => by have := Option.some.inj e; omega), (g.block _ (by have := h.size; omega) (fun e => by have := Option.some.inj e; omega)).trans h.r, put8_heap h.n, Nat.le_trans h.size g.size⟩
/-- the built node's sign is written -/
theorem Sg.putop (h : Sg w wx t lv rk ro rb nk no p) (ht : t < w.heap.size) (o : Int) : Sg w (wx.setCell ⟨w.heap.size + 1, 1, none⟩ (.int .i64 o)) t lv rk ro rb nk o p := by
  have g := grown_setCell wx (w.heap.size + 1) 1 (.int .i64 o)
  exact ⟨grown_new h.g g (Nat.le_succ _), Px.grown h.px g (fun e => by have := Option.some.inj e; omega), (g.block _ (by have := h.size; omega) (fun e => by have := Option.some.inj e; omega)).trans h.r, set1 h.n _, Nat.le_trans h.size g.size⟩
theorem Sg.drew (h : Sg w wx t lv rk ro rb nk no p) : Sg w wx.drew t lv rk ro rb nk no p := by
  have b : Below wx.heap.size wx wx.drew := (Below.refl _ _).drew
  exact ⟨grown_then h.g b, Px.below h.px b, (b.block _ (by have := h.size; omega)).trans h.r, (b.block _ (by have := h.size; omega)).trans h.n, Nat.le_trans h.size b.size⟩
def sg5 (w : World) : World := (w.alloc (ndS 0 0 false)).alloc (ndS 5 0 false)
theorem Sg.first (w : World) (t : Nat) (lv : Value) (p : Ex.P) (h : Pq w t lv p) : Sg w (sg5 w) t lv 0 0 false 5 0 p := by
  have b : Below w.heap.size w (sg5 w) := ((Below.refl _ _).alloc (Nat.le_refl _) _).alloc (by simp) _
  refine ⟨grown_below b, Px.below h b, ?_, ?_, by simp [sg5]⟩
  · have h2 : w.heap.size < (w.alloc (ndS 0 0 false)).heap.size := by simp
    exact (heap_alloc_old _ _ h2).trans (heap_alloc_new w _)
  · have := heap_alloc_new (w.alloc (ndS 0 0 false)) (ndS 5 0 false)
    rw [show (w.alloc (ndS 0 0 false)).heap.size = w.heap.size + 1 from by simp] at this
    exact this
end
set_option maxRecDepth 100000 in
set_option maxHeartbeats 2000000 in
theorem sign0_any (t : Nat) (lv : Value) (p : Ex.P) (w : World) (h : Pq w t lv p) (hll : p.s.length ≤ 100000) (ht : t < w.heap.size) : Calls Tryz.prog 55 #[.pointer (some ⟨t, 0, none⟩), .int .i64 0] w (SgPost w t lv (Ex.signE 0 p)) := by
  have SE : Hid (Ex.signE 0 p = (if (Ex.isP [111, 114] p).1 then some (ndE 7 1 false) else none, (Ex.isP [111, 114] p).2)) := by
    show _ = _
    unfold Ex.signE
    rw [if_pos rfl]
    cases hq : (Ex.isP [111, 114] p).1 <;> simp [hq, ndE, Ex.nd0]
  obtain ⟨xr, hxr⟩ : ∃ x, x = Ex.signE 0 p := ⟨_, rfl⟩
  rw [← hxr] at SE ⊢
  clear hxr
  go_enter Tryz.func55, Tryz.ntmps55
  go_upto_region 3 with fail
  obtain ⟨wx, hwx⟩ : ∃ x, x = sg5 w := ⟨_, rfl⟩
  have S0 := Lib.hid (hwx ▸ Sg.first w t lv p h)
  unfold sg5 ndS at hwx
  rw [← hwx]
  clear hwx
  have I0 := Lib.hid (isQ_any t ⟨#[111, 114]⟩ lv p _ S0.out.px (by omega))
  rw [show by_ (⟨#[111, 114]⟩ : ByteArray) = [111, 114] from rfl] at I0
  generalize Ex.isP [111, 114] p = ii at *
  obtain ⟨ib, ip⟩ := ii
  go_wp2_with fail
  refine I0.out.mono ?_
  rintro e w1 ⟨rfl, g1, px1⟩
  have S1 := Lib.hid (S0.out.call ht g1 px1)
  clear I0 S0 g1 px1
  obtain ⟨⟨d0, d1, d2, d3, d4, d5, d6, d7⟩, fz⟩ := ndS_cells S1.out.r
  go_wp2_with fail
  obtain ⟨wf, hwf⟩ : ∃ x, x = put8 w1 w.heap.size 7 1 false := ⟨_, rfl⟩
  have SF := Lib.hid (hwf ▸ S1.out.putr ht 7 1 false)
  unfold put8 at hwf
  rw [← hwf]
  clear hwf d0 d1 d2 d3 d4 d5 d6 d7 fz
  obtain ⟨⟨d0, d1, d2, d3, d4, d5, d6, d7⟩, fz⟩ := ndS_cells SF.out.r
  refine bodyPost_ret (v := .tuple #[.agg #[.int .i64 7, .int .i64 1, .int .u64 0, .int .u64 0, .slice none 0 0, .bool false, .bool false, .slice none 0 0], .bool ib]) (by simp [results, Tryz.results55, go_sem, d0, d1, d2, d3, d4, d5, d6, d7]) rfl ?_
  rw [SE.out]
  exact ⟨⟨7, 1, false, ib, rfl, by cases ib <;> rfl, fun y hy => by cases ib <;> simp_all⟩, SF.out.g, SF.out.px⟩

set_option maxRecDepth 100000 in
set_option maxHeartbeats 2000000 in
theorem sign1_any (t : Nat) (lv : Value) (p : Ex.P) (w : World) (h : Pq w t lv p) (hll : p.s.length ≤ 100000) (ht : t < w.heap.size) : Calls Tryz.prog 55 #[.pointer (some ⟨t, 0, none⟩), .int .i64 1] w (SgPost w t lv (Ex.signE 1 p)) := by
  have SE : Hid (Ex.signE 1 p = if (Ex.isP [97, 110, 100] p).1 then (some (ndE 7 0 false), (Ex.isP [97, 110, 100] p).2) else (if (Ex.isP [117, 110, 108, 101, 115, 115] (Ex.isP [97, 110, 100] p).2).1 then some (ndE 7 2 false) else none, (Ex.isP [117, 110, 108, 101, 115, 115] (Ex.isP [97, 110, 100] p).2).2)) := by
    show _ = _
    unfold Ex.signE
    rw [if_neg (by decide), if_pos rfl]
    cases hq : (Ex.isP [97, 110, 100] p).1
    · cases hq2 : (Ex.isP [117, 110, 108, 101, 115, 115] (Ex.isP [97, 110, 100] p).2).1 <;> simp [hq, hq2, ndE, Ex.nd0]
    · simp [hq, ndE, Ex.nd0]
  obtain ⟨xr, hxr⟩ : ∃ x, x = Ex.signE 1 p := ⟨_, rfl⟩
  rw [← hxr] at SE ⊢
  clear hxr
  have hle := isP_le [97, 110, 100] p
  go_enter Tryz.func55, Tryz.ntmps55
  go_upto_region 3 with fail
  obtain ⟨wx, hwx⟩ : ∃ x, x = sg5 w := ⟨_, rfl⟩
  have S0 := Lib.hid (hwx ▸ Sg.first w t lv p h)
  unfold sg5 ndS at hwx
  rw [← hwx]
  clear hwx
  obtain ⟨⟨d0, d1, d2, d3, d4, d5, d6, d7⟩, fz⟩ := ndS_cells S0.out.n
  go_upto_region 7 with fail
  obtain ⟨wf, hwf⟩ : ∃ x, x = put8 wx (w.heap.size + 1) 7 0 false := ⟨_, rfl⟩
  have S1 := Lib.hid (hwf ▸ S0.out.putn ht 7 0)
  unfold put8 at hwf
  rw [← hwf]
  clear hwf d0 d1 d2 d3 d4 d5 d6 d7 fz S0 wx
  have I0 := Lib.hid (isQ_any t ⟨#[97, 110, 100]⟩ lv p _ S1.out.px (by omega))
  rw [show by_ (⟨#[97, 110, 100]⟩ : ByteArray) = [97, 110, 100] from rfl] at I0
  generalize Ex.isP [97, 110, 100] p = ii at *
  obtain ⟨ib, ip⟩ := ii
  go_wp2_with fail
  refine I0.out.mono ?_
  rintro e w1 ⟨rfl, g1, px1⟩
  have S2 := Lib.hid (S1.out.call ht g1 px1)
  clear I0 S1 g1 px1
  obtain ⟨⟨d0, d1, d2, d3, d4, d5, d6, d7⟩, fz⟩ := ndS_cells S2.out.n
  obtain ⟨⟨c0, c1, c2, c3, c4, c5, c6, c7⟩, fc⟩ := ndS_cells S2.out.r
  cases ib with
  | true =>
    go_wp2_with fail
    clear d0 d1 d2 d3 d4 d5 d6 d7 fz c0 c1 c2 c3 c4 c5 c6 c7 fc
    obtain ⟨wf, hwf⟩ : ∃ x, x = put8 w1 w.heap.size 7 0 false := ⟨_, rfl⟩
    have SF := Lib.hid (hwf ▸ S2.out.putr ht 7 0 false)
    unfold put8 at hwf
    rw [← hwf]
    clear hwf
    obtain ⟨⟨d0, d1, d2, d3, d4, d5, d6, d7⟩, fz⟩ := ndS_cells SF.out.r
    refine bodyPost_ret (v := .tuple #[.agg #[.int .i64 7, .int .i64 0, .int .u64 0, .int .u64 0, .slice none 0 0, .bool false, .bool false, .slice none 0 0], .bool true]) (by simp [results, Tryz.results55, go_sem, d0, d1, d2, d3, d4, d5, d6, d7]) rfl ?_
    rw [SE.out]
    exact ⟨⟨7, 0, false, true, rfl, rfl, fun y hy => by simp_all⟩, SF.out.g, SF.out.px⟩
  | false =>
    go_upto_region 10 with fail
    clear d0 d1 d2 d3 d4 d5 d6 d7 fz c0 c1 c2 c3 c4 c5 c6 c7 fc
    obtain ⟨w2, hw2⟩ : ∃ x, x = w1.setCell ⟨w.heap.size + 1, 1, none⟩ (.int .i64 2) := ⟨_, rfl⟩
    have S3 := Lib.hid (hw2 ▸ S2.out.putop ht 2)
    rw [← hw2]
    clear hw2
    obtain ⟨⟨d0, d1, d2, d3, d4, d5, d6, d7⟩, fz⟩ := ndS_cells S3.out.n
    obtain ⟨⟨c0, c1, c2, c3, c4, c5, c6, c7⟩, fc⟩ := ndS_cells S3.out.r
    have S3d := Lib.hid (S3.out.drew)
    have I1 := Lib.hid (isQ_any t ⟨#[117, 110, 108, 101, 115, 115]⟩ lv ip _ S3d.out.px (by have : ip.s.length ≤ p.s.length := hle; omega))
    rw [show by_ (⟨#[117, 110, 108, 101, 115, 115]⟩ : ByteArray) = [117, 110, 108, 101, 115, 115] from rfl] at I1
    generalize Ex.isP [117, 110, 108, 101, 115, 115] ip = jj at *
    obtain ⟨jb, jp⟩ := jj
    go_region_with (go_at_call 78; refine I1.out.mono ?_; rintro e w3 ⟨rfl, g3, px3⟩; have S4 := Lib.hid (S3d.out.call ht g3 px3); clear g3 px3; obtain ⟨⟨a0, a1, a2, a3, a4, a5, a6, a7⟩, fa⟩ := ndS_cells S4.out.n; obtain ⟨⟨b0, b1, b2, b3, b4, b5, b6, b7⟩, fb⟩ := ndS_cells S4.out.r)
    all_goals
      clear a0 a1 a2 a3 a4 a5 a6 a7 fa b0 b1 b2 b3 b4 b5 b6 b7 fb
      go_wp2_with fail
      obtain ⟨wf, hwf⟩ : ∃ x, x = put8 w3 w.heap.size 7 2 false := ⟨_, rfl⟩
      have SF := Lib.hid (hwf ▸ S4.out.putr ht 7 2 false)
      unfold put8 at hwf
      rw [← hwf]
      clear hwf d0 d1 d2 d3 d4 d5 d6 d7 fz c0 c1 c2 c3 c4 c5 c6 c7 fc
      obtain ⟨⟨d0, d1, d2, d3, d4, d5, d6, d7⟩, fz⟩ := ndS_cells SF.out.r
      refine bodyPost_ret (v := .tuple #[.agg #[.int .i64 7, .int .i64 2, .int .u64 0, .int .u64 0, .slice none 0 0, .bool false, .bool false, .slice none 0 0], .bool jb]) (by simp [results, Tryz.results55, go_sem, d0, d1, d2, d3, d4, d5, d6, d7]) rfl ?_
      rw [SE.out]
      exact ⟨⟨7, 2, false, jb, rfl, by cases jb <;> rfl, fun y hy => by cases jb <;> simp_all⟩, SF.out.g, SF.out.px⟩

set_option maxRecDepth 100000 in
set_option maxHeartbeats 2000000 in
theorem sign3_any (t : Nat) (lv : Value) (p : Ex.P) (w : World) (h : Pq w t lv p) (ht : t < w.heap.size) : Calls Tryz.prog 55 #[.pointer (some ⟨t, 0, none⟩), .int .i64 3] w (SgPost w t lv (Ex.signE 3 p)) := by
  have SE : Hid (Ex.signE 3 p = if (Ex.hasP [43] p).1 then (some (ndE 5 0 false), (Ex.hasP [43] p).2) else (if (Ex.hasP [45] (Ex.hasP [43] p).2).1 then some (ndE 5 1 false) else none, (Ex.hasP [45] (Ex.hasP [43] p).2).2)) := by
    show _ = _
    unfold Ex.signE
    rw [if_neg (by decide), if_neg (by decide), if_neg (by decide), if_pos rfl]
    cases hq : (Ex.hasP [43] p).1
    · cases hq2 : (Ex.hasP [45] (Ex.hasP [43] p).2).1 <;> simp [hq, hq2, ndE, Ex.nd0]
    · simp [hq, ndE, Ex.nd0]
  obtain ⟨xr, hxr⟩ : ∃ x, x = Ex.signE 3 p := ⟨_, rfl⟩
  rw [← hxr] at SE ⊢
  clear hxr
  go_enter Tryz.func55, Tryz.ntmps55
  go_upto_region 3 with fail
  obtain ⟨wx, hwx⟩ : ∃ x, x = sg5 w := ⟨_, rfl⟩
  have S0 := Lib.hid (hwx ▸ Sg.first w t lv p h)
  unfold sg5 ndS at hwx
  rw [← hwx]
  clear hwx
  have I0 := Lib.hid (hasQ_any t ⟨#[43]⟩ lv p _ S0.out.px)
  rw [show by_ (⟨#[43]⟩ : ByteArray) = [43] from rfl] at I0
  generalize Ex.hasP [43] p = ii at *
  obtain ⟨ib, ip⟩ := ii
  go_wp2_with fail
  refine I0.out.mono ?_
  rintro e w1 ⟨rfl, g1, px1⟩
  have S2 := Lib.hid (S0.out.call ht g1 px1)
  clear I0 S0 g1 px1
  obtain ⟨⟨d0, d1, d2, d3, d4, d5, d6, d7⟩, fz⟩ := ndS_cells S2.out.n
  obtain ⟨⟨c0, c1, c2, c3, c4, c5, c6, c7⟩, fc⟩ := ndS_cells S2.out.r
  cases ib with
  | true =>
    go_wp2_with fail
    clear d0 d1 d2 d3 d4 d5 d6 d7 fz c0 c1 c2 c3 c4 c5 c6 c7 fc
    obtain ⟨wf, hwf⟩ : ∃ x, x = put8 w1 w.heap.size 5 0 false := ⟨_, rfl⟩
    have SF := Lib.hid (hwf ▸ S2.out.putr ht 5 0 false)
    unfold put8 at hwf
    rw [← hwf]
    clear hwf
    obtain ⟨⟨d0, d1, d2, d3, d4, d5, d6, d7⟩, fz⟩ := ndS_cells SF.out.r
    refine bodyPost_ret (v := .tuple #[.agg #[.int .i64 5, .int .i64 0, .int .u64 0, .int .u64 0, .slice none 0 0, .bool false, .bool false, .slice none 0 0], .bool true]) (by simp [results, Tryz.results55, go_sem, d0, d1, d2, d3, d4, d5, d6, d7]) rfl ?_
    rw [SE.out]
    exact ⟨⟨5, 0, false, true, rfl, rfl, fun y hy => by simp_all⟩, SF.out.g, SF.out.px⟩
  | false =>
    go_upto_region 23 with fail
    clear d0 d1 d2 d3 d4 d5 d6 d7 fz c0 c1 c2 c3 c4 c5 c6 c7 fc
    obtain ⟨w2, hw2⟩ : ∃ x, x = w1.setCell ⟨w.heap.size + 1, 1, none⟩ (.int .i64 1) := ⟨_, rfl⟩
    have S3 := Lib.hid (hw2 ▸ S2.out.putop ht 1)
    rw [← hw2]
    clear hw2
    obtain ⟨⟨d0, d1, d2, d3, d4, d5, d6, d7⟩, fz⟩ := ndS_cells S3.out.n
    obtain ⟨⟨c0, c1, c2, c3, c4, c5, c6, c7⟩, fc⟩ := ndS_cells S3.out.r
    have S3d := Lib.hid (S3.out.drew)
    have I1 := Lib.hid (hasQ_any t ⟨#[45]⟩ lv ip _ S3d.out.px)
    rw [show by_ (⟨#[45]⟩ : ByteArray) = [45] from rfl] at I1
    generalize Ex.hasP [45] ip = jj at *
    obtain ⟨jb, jp⟩ := jj
    go_region_with (go_at_call 72; refine I1.out.mono ?_; rintro e w3 ⟨rfl, g3, px3⟩; have S4 := Lib.hid (S3d.out.call ht g3 px3); clear g3 px3; obtain ⟨⟨a0, a1, a2, a3, a4, a5, a6, a7⟩, fa⟩ := ndS_cells S4.out.n; obtain ⟨⟨b0, b1, b2, b3, b4, b5, b6, b7⟩, fb⟩ := ndS_cells S4.out.r)
    all_goals
      clear a0 a1 a2 a3 a4 a5 a6 a7 fa b0 b1 b2 b3 b4 b5 b6 b7 fb
      go_wp2_with fail
      obtain ⟨wf, hwf⟩ : ∃ x, x = put8 w3 w.heap.size 5 1 false := ⟨_, rfl⟩
      have SF := Lib.hid (hwf ▸ S4.out.putr ht 5 1 false)
      unfold put8 at hwf
      rw [← hwf]
      clear hwf d0 d1 d2 d3 d4 d5 d6 d7 fz c0 c1 c2 c3 c4 c5 c6 c7 fc
      obtain ⟨⟨d0, d1, d2, d3, d4, d5, d6, d7⟩, fz⟩ := ndS_cells SF.out.r
      refine bodyPost_ret (v := .tuple #[.agg #[.int .i64 5, .int .i64 1, .int .u64 0, .int .u64 0, .slice none 0 0, .bool false, .bool false, .slice none 0 0], .bool jb]) (by simp [results, Tryz.results55, go_sem, d0, d1, d2, d3, d4, d5, d6, d7]) rfl ?_
      rw [SE.out]
      exact ⟨⟨5, 1, false, jb, rfl, by cases jb <;> rfl, fun y hy => by cases jb <;> simp_all⟩, SF.out.g, SF.out.px⟩
end Go.Proofs.YtmbfpichaaanpaaGreatDoor
