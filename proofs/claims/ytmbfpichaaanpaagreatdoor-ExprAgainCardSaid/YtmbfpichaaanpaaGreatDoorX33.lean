import Derived.Test.YtmbfpichaaanpaaGreatDoorX32
import Derived.Deep.AppendLies
/-! The reader of expressions: signs of strength 2 and 4. -/
namespace Go.Proofs.YtmbfpichaaanpaaGreatDoor
open Go.RowKit Ut Rx Mt

theorem tryP_cons (k : Int) (l : List UInt8) (r : List (Int × List UInt8)) (p : Ex.P) : Ex.tryP ((k, l) :: r) p = if (Ex.hasP l p).1 then (some k, (Ex.hasP l p).2) else Ex.tryP r (Ex.hasP l p).2 := rfl
theorem cmp_at (i : Nat) (hi : i < 6) : ∃ (o : Nat) (l : List UInt8), o < 6 ∧ ([0, 1, 4, 5, 2, 3] : List Nat)[i]? = some o ∧ Ex.cmpOrd.drop i = ((o : Int), l) :: Ex.cmpOrd.drop (i + 1) ∧ Ex.cmpsT[o]? = some l := by
  match i, hi with
  | 0, _ => exact ⟨0, [61, 61], by decide, rfl, rfl, rfl⟩
  | 1, _ => exact ⟨1, [33, 61], by decide, rfl, rfl, rfl⟩
  | 2, _ => exact ⟨4, [62, 61], by decide, rfl, rfl, rfl⟩
  | 3, _ => exact ⟨5, [60, 61], by decide, rfl, rfl, rfl⟩
  | 4, _ => exact ⟨2, [62], by decide, rfl, rfl, rfl⟩
  | 5, _ => exact ⟨3, [60], by decide, rfl, rfl, rfl⟩
theorem bin_at (i : Nat) (hi : i < 3) : ∃ (o : Nat) (l : List UInt8), o < 5 ∧ ([2, 3, 4] : List Nat)[i]? = some o ∧ Ex.binOrd.drop i = ((o : Int), l) :: Ex.binOrd.drop (i + 1) ∧ Ex.binsT[o]? = some l := by
  match i, hi with
  | 0, _ => exact ⟨2, [42], by decide, rfl, rfl, rfl⟩
  | 1, _ => exact ⟨3, [47], by decide, rfl, rfl, rfl⟩
  | 2, _ => exact ⟨4, [37], by decide, rfl, rfl, rfl⟩
theorem Tb.at {w : World} {g o : Nat} {l : List (List UInt8)} {x : List UInt8} (h : Tb w g l) (hx : l[o]? = some x) : w.cell? ⟨g, o, none⟩ = some (.string ⟨x.toArray⟩) := by
  obtain ⟨ho, rfl⟩ := List.getElem?_eq_some_iff.1 hx
  exact h o ho
def sl6 : Obj := .cells #[.int .i64 0, .int .i64 1, .int .i64 4, .int .i64 5, .int .i64 2, .int .i64 3] 3 (0, 0)
def sl3 : Obj := .cells #[.int .i64 2, .int .i64 3, .int .i64 4] 3 (0, 0)
theorem sl6_at {w : World} {b i o : Nat} (h : w.heap[b]? = some sl6) (ho : ([0, 1, 4, 5, 2, 3] : List Nat)[i]? = some o) : w.cell? ⟨b, i, none⟩ = some (.int .i64 (o : Int)) := by
  have e := ndAt_blk h i
  rw [e]
  have hi : i < 6 := (List.getElem?_eq_some_iff.1 ho).1
  match i, hi with
  | 0, _ => cases ho; rfl
  | 1, _ => cases ho; rfl
  | 2, _ => cases ho; rfl
  | 3, _ => cases ho; rfl
  | 4, _ => cases ho; rfl
  | 5, _ => cases ho; rfl
theorem sl3_at {w : World} {b i o : Nat} (h : w.heap[b]? = some sl3) (ho : ([2, 3, 4] : List Nat)[i]? = some o) : w.cell? ⟨b, i, none⟩ = some (.int .i64 (o : Int)) := by
  have e := ndAt_blk h i
  rw [e]
  have hi : i < 3 := (List.getElem?_eq_some_iff.1 ho).1
  match i, hi with
  | 0, _ => cases ho; rfl
  | 1, _ => cases ho; rfl
  | 2, _ => cases ho; rfl
theorem Sg.below {w wx w' : World} {t : Nat} {lv : Value} {rk ro nk no : Int} {rb : Bool} {p : Ex.P} (h : Sg w wx t lv rk ro rb nk no p) (b : Below wx.heap.size wx w') : Sg w w' t lv rk ro rb nk no p :=
  ⟨grown_then h.g b, Px.below h.px b, (b.block _ (by have := h.size; omega)).trans h.r, (b.block _ (by have := h.size; omega)).trans h.n, Nat.le_trans h.size b.size⟩

set_option maxRecDepth 100000 in
set_option maxHeartbeats 2000000 in
theorem sign2_any (t : Nat) (lv : Value) (p : Ex.P) (w : World) (h : Pq w t lv p) (hll : p.s.length ≤ 100000) (ht : t < w.heap.size) (ht8 : 8 ≤ t) (hW : Wt w) : Calls Tryz.prog 55 #[.pointer (some ⟨t, 0, none⟩), .int .i64 2] w (SgPost w t lv (Ex.signE 2 p)) := by
  have HW := Lib.hid hW
  have SE : Hid (Ex.signE 2 p = match Ex.tryP Ex.cmpOrd p with | (some o, q) => (some (ndE 6 o (Ex.isP Ex.boolT q).1), (Ex.isP Ex.boolT q).2) | (none, q) => (none, q)) := rfl
  obtain ⟨xr, hxr⟩ : ∃ x, x = Ex.signE 2 p := ⟨_, rfl⟩
  rw [← hxr] at SE ⊢
  clear hxr
  go_enter Tryz.func55, Tryz.ntmps55
  go_upto_region 3 with fail
  obtain ⟨wx, hwx⟩ : ∃ x, x = sg5 w := ⟨_, rfl⟩
  have S0 := Lib.hid (hwx ▸ Sg.first w t lv p h)
  unfold sg5 ndS at hwx
  rw [← hwx]
  clear hwx
  obtain ⟨⟨d0, d1, d2, d3, d4, d5, d6, d7⟩, fz⟩ := ndS_cells S0.out.n
  go_upto_region 13 with fail
  have B1 : Below wx.heap.size wx (wx.alloc sl6) := (Below.refl _ _).alloc (Nat.le_refl _) _
  obtain ⟨b6, hb6⟩ : ∃ n, n = wx.heap.size := ⟨_, rfl⟩
  obtain ⟨wy, hwy⟩ : ∃ x, x = wx.alloc sl6 := ⟨_, rfl⟩
  have S1 := Lib.hid (hwy ▸ S0.out.below B1)
  have HB := Lib.hid (show wy.heap[b6]? = some sl6 from by rw [hwy, hb6]; exact heap_alloc_new wx _)
  have hb2 : w.heap.size + 2 ≤ b6 := by rw [hb6]; exact S0.out.size
  have hby : b6 < wy.heap.size := by rw [hwy, hb6]; simp
  unfold sl6 at hwy
  rw [← hwy, ← hb6]
  clear hwy hb6 B1 S0 d0 d1 d2 d3 d4 d5 d6 d7 fz h
  go_loopg [32] 6 (fun gk vi wr => ∃ (i : Nat) (q : Ex.P), vi = .int .i64 i ∧ i + gk = 6 ∧ q.s.length ≤ 100000 ∧ b6 < wr.heap.size ∧ Hid (Ex.tryP (Ex.cmpOrd.drop i) q = Ex.tryP Ex.cmpOrd p) ∧ Hid (Sg w wr t lv 0 0 false 5 0 q) ∧ Hid (wr.heap[b6]? = some sl6))
  case atStart => exact ⟨0, p, rfl, rfl, hll, hby, rfl, S1, HB⟩
  case round =>
    obtain ⟨i, q, rfl, hgk, hq, hbr, HT, HS, HC⟩ := hrel
    clear S1 HB
    by_cases hi : i < 6
    · obtain ⟨o, l, ho, hio, hdr, hcm⟩ := cmp_at i hi
      have ci := sl6_at HC.out hio
      have WR := HW.out.grown ht8 (by omega) HS.out.g
      have co := Tb.at WR.m hcm
      have HT2 : Hid ((if (Ex.hasP l q).1 then (some (o : Int), (Ex.hasP l q).2) else Ex.tryP (Ex.cmpOrd.drop (i + 1)) (Ex.hasP l q).2) = Ex.tryP Ex.cmpOrd p) := by
        have := HT.out
        rw [hdr, tryP_cons] at this
        exact this
      have HA := Lib.hid (hasQ_any t ⟨l.toArray⟩ lv q wr HS.out.px)
      rw [show by_ (⟨l.toArray⟩ : ByteArray) = l from rfl] at HA
      have hle := hasP_le l q
      clear HT hdr hcm WR hio
      generalize Ex.hasP l q = hh at *
      obtain ⟨hb, hp⟩ := hh
      have hle2 : hp.s.length ≤ 100000 := Nat.le_trans hle hq
      clear hle
      go_wp2_with fail
      refine HA.out.mono ?_
      rintro e w1 ⟨rfl, g1, px1⟩
      have S2 := Lib.hid (HS.out.call ht g1 px1)
      have C2 := Lib.hid ((g1.block b6 hbr (fun e => by have := Option.some.inj e; omega)).trans HC.out)
      have hb1 : b6 < w1.heap.size := Nat.lt_of_lt_of_le hbr g1.size
      clear HA g1 px1 HS HC ci co
      cases hb with
      | true =>
        have IB := Lib.hid (isQ_any t ⟨#[98, 111, 111, 108]⟩ lv hp w1 S2.out.px (by omega))
        rw [show by_ (⟨#[98, 111, 111, 108]⟩ : ByteArray) = Ex.boolT from rfl] at IB
        have SE2 : Hid (xr = (some (ndE 6 o (Ex.isP Ex.boolT hp).1), (Ex.isP Ex.boolT hp).2)) := by
          show _ = _
          rw [SE.out, ← HT2.out]
          rfl
        clear SE HT2
        generalize Ex.isP Ex.boolT hp = ii at *
        obtain ⟨ib, ip⟩ := ii
        go_wp2_with fail
        refine IB.out.mono ?_
        rintro e w3 ⟨rfl, g3, px3⟩
        have S3 := Lib.hid (S2.out.call ht g3 px3)
        obtain ⟨⟨a0, a1, a2, a3, a4, a5, a6, a7⟩, fa⟩ := ndS_cells S3.out.r
        clear IB g3 px3 S2 C2
        go_wp2_with fail
        obtain ⟨wf, hwf⟩ : ∃ x, x = put8 w3 w.heap.size 6 o ib := ⟨_, rfl⟩
        have SF := Lib.hid (hwf ▸ S3.out.putr ht 6 o ib)
        unfold put8 at hwf
        rw [← hwf]
        clear hwf a0 a1 a2 a3 a4 a5 a6 a7 fa
        obtain ⟨⟨d0, d1, d2, d3, d4, d5, d6, d7⟩, fz⟩ := ndS_cells SF.out.r
        refine bodyPost_ret (v := .tuple #[.agg #[.int .i64 6, .int .i64 o, .int .u64 0, .int .u64 0, .slice none 0 0, .bool ib, .bool false, .slice none 0 0], .bool true]) (by simp [results, Tryz.results55, go_sem, d0, d1, d2, d3, d4, d5, d6, d7]) rfl ?_
        rw [SE2.out]
        exact ⟨⟨6, o, ib, true, rfl, rfl, fun y hy => by simp_all⟩, SF.out.g, SF.out.px⟩
      | false =>
        go_wp2_with fail
        go_roundg (6 - (i + 1))
        case measure => omega
        case rel => exact ⟨i + 1, hp, by go_num, by omega, hle2, hb1, HT2, S2, C2⟩
    · obtain rfl : i = 6 := by omega
      have SE2 : Hid (xr = (none, q)) := by
        show _ = _
        rw [SE.out, ← HT.out]
        rfl
      obtain ⟨⟨d0, d1, d2, d3, d4, d5, d6, d7⟩, fz⟩ := ndS_cells HS.out.n
      obtain ⟨⟨a0, a1, a2, a3, a4, a5, a6, a7⟩, fa⟩ := ndS_cells HS.out.r
      go_wp2_with fail
      obtain ⟨wf, hwf⟩ : ∃ x, x = put8 wr w.heap.size 5 0 false := ⟨_, rfl⟩
      have SF := Lib.hid (hwf ▸ HS.out.putr ht 5 0 false)
      unfold put8 at hwf
      rw [← hwf]
      clear hwf a0 a1 a2 a3 a4 a5 a6 a7 fa d0 d1 d2 d3 d4 d5 d6 d7 fz
      obtain ⟨⟨d0, d1, d2, d3, d4, d5, d6, d7⟩, fz⟩ := ndS_cells SF.out.r
      refine bodyPost_ret (v := .tuple #[.agg #[.int .i64 5, .int .i64 0, .int .u64 0, .int .u64 0, .slice none 0 0, .bool false, .bool false, .slice none 0 0], .bool false]) (by simp [results, Tryz.results55, go_sem, d0, d1, d2, d3, d4, d5, d6, d7]) rfl ?_
      rw [SE2.out]
      exact ⟨⟨5, 0, false, false, rfl, rfl, fun y hy => by cases hy⟩, SF.out.g, SF.out.px⟩

set_option maxRecDepth 100000 in
set_option maxHeartbeats 2000000 in
theorem sign4_any (t : Nat) (lv : Value) (p : Ex.P) (w : World) (h : Pq w t lv p) (ht : t < w.heap.size) (ht8 : 8 ≤ t) (hW : Wt w) : Calls Tryz.prog 55 #[.pointer (some ⟨t, 0, none⟩), .int .i64 4] w (SgPost w t lv (Ex.signE 4 p)) := by
  have HW := Lib.hid hW
  have SE : Hid (Ex.signE 4 p = match Ex.tryP Ex.binOrd p with | (some o, q) => (some (ndE 5 o false), q) | (none, q) => (none, q)) := rfl
  obtain ⟨xr, hxr⟩ : ∃ x, x = Ex.signE 4 p := ⟨_, rfl⟩
  rw [← hxr] at SE ⊢
  clear hxr
  go_enter Tryz.func55, Tryz.ntmps55
  go_upto_region 3 with fail
  obtain ⟨wx, hwx⟩ : ∃ x, x = sg5 w := ⟨_, rfl⟩
  have S0 := Lib.hid (hwx ▸ Sg.first w t lv p h)
  unfold sg5 ndS at hwx
  rw [← hwx]
  clear hwx
  obtain ⟨⟨d0, d1, d2, d3, d4, d5, d6, d7⟩, fz⟩ := ndS_cells S0.out.n
  go_upto_region 25 with fail
  have B1 : Below wx.heap.size wx (wx.alloc sl3) := (Below.refl _ _).alloc (Nat.le_refl _) _
  obtain ⟨b6, hb6⟩ : ∃ n, n = wx.heap.size := ⟨_, rfl⟩
  obtain ⟨wy, hwy⟩ : ∃ x, x = wx.alloc sl3 := ⟨_, rfl⟩
  have S1 := Lib.hid (hwy ▸ S0.out.below B1)
  have HB := Lib.hid (show wy.heap[b6]? = some sl3 from by rw [hwy, hb6]; exact heap_alloc_new wx _)
  have hb2 : w.heap.size + 2 ≤ b6 := by rw [hb6]; exact S0.out.size
  have hby : b6 < wy.heap.size := by rw [hwy, hb6]; simp
  unfold sl3 at hwy
  rw [← hwy, ← hb6]
  clear hwy hb6 B1 S0 d0 d1 d2 d3 d4 d5 d6 d7 fz h
  go_loopg [58] 3 (fun gk vi wr => ∃ (i : Nat) (q : Ex.P) (no : Int), vi = .int .i64 i ∧ i + gk = 3 ∧ b6 < wr.heap.size ∧ Hid (Ex.tryP (Ex.binOrd.drop i) q = Ex.tryP Ex.binOrd p) ∧ Hid (Sg w wr t lv 0 0 false 5 no q) ∧ Hid (wr.heap[b6]? = some sl3))
  case atStart => exact ⟨0, p, 0, rfl, rfl, hby, rfl, S1, HB⟩
  case round =>
    obtain ⟨i, q, no, rfl, hgk, hbr, HT, HS, HC⟩ := hrel
    clear S1 HB
    by_cases hi : i < 3
    · obtain ⟨o, l, ho, hio, hdr, hcm⟩ := bin_at i hi
      have ci := sl3_at HC.out hio
      have HT2 : Hid ((if (Ex.hasP l q).1 then (some (o : Int), (Ex.hasP l q).2) else Ex.tryP (Ex.binOrd.drop (i + 1)) (Ex.hasP l q).2) = Ex.tryP Ex.binOrd p) := by
        have := HT.out
        rw [hdr, tryP_cons] at this
        exact this
      obtain ⟨⟨d0, d1, d2, d3, d4, d5, d6, d7⟩, fz⟩ := ndS_cells HS.out.n
      go_upto_region 28 with fail
      have CX := (show (wr.setCell ⟨w.heap.size + 1, 1, none⟩ (.int .i64 o)).heap[b6]? = some sl3 from ((grown_setCell wr (w.heap.size + 1) 1 (.int .i64 o)).block b6 hbr (fun e => by have := Option.some.inj e; omega)).trans HC.out)
      obtain ⟨wz, hwz⟩ : ∃ x, x = wr.setCell ⟨w.heap.size + 1, 1, none⟩ (.int .i64 o) := ⟨_, rfl⟩
      have SZ := Lib.hid (hwz ▸ HS.out.putop ht o)
      rw [← hwz] at CX ⊢
      have hbz : b6 < wz.heap.size := (Array.getElem?_eq_some_iff.1 CX).1
      have CZ := Lib.hid CX
      have WR := HW.out.grown ht8 (by omega) SZ.out.g
      have co := Tb.at WR.b hcm
      clear hwz CX d0 d1 d2 d3 d4 d5 d6 d7 fz HS HC
      have HA := Lib.hid (hasQ_any t ⟨l.toArray⟩ lv q wz SZ.out.px)
      rw [show by_ (⟨l.toArray⟩ : ByteArray) = l from rfl] at HA
      clear HT hdr hcm WR hio
      generalize Ex.hasP l q = hh at *
      obtain ⟨hb, hp⟩ := hh
      go_wp2_with fail
      refine HA.out.mono ?_
      rintro e w1 ⟨rfl, g1, px1⟩
      have S2 := Lib.hid (SZ.out.call ht g1 px1)
      have C2 := Lib.hid ((g1.block b6 hbz (fun e => by have := Option.some.inj e; omega)).trans CZ.out)
      have hb1 : b6 < w1.heap.size := Nat.lt_of_lt_of_le hbz g1.size
      clear HA g1 px1 SZ CZ ci co
      cases hb with
      | true =>
        have SE2 : Hid (xr = (some (ndE 5 o false), hp)) := by
          show _ = _
          rw [SE.out, ← HT2.out]
          rfl
        clear SE HT2
        obtain ⟨⟨d0, d1, d2, d3, d4, d5, d6, d7⟩, fz⟩ := ndS_cells S2.out.n
        obtain ⟨⟨a0, a1, a2, a3, a4, a5, a6, a7⟩, fa⟩ := ndS_cells S2.out.r
        go_wp2_with fail
        obtain ⟨wf, hwf⟩ : ∃ x, x = put8 w1 w.heap.size 5 o false := ⟨_, rfl⟩
        have SF := Lib.hid (hwf ▸ S2.out.putr ht 5 o false)
        unfold put8 at hwf
        rw [← hwf]
        clear hwf a0 a1 a2 a3 a4 a5 a6 a7 fa d0 d1 d2 d3 d4 d5 d6 d7 fz
        obtain ⟨⟨d0, d1, d2, d3, d4, d5, d6, d7⟩, fz⟩ := ndS_cells SF.out.r
        refine bodyPost_ret (v := .tuple #[.agg #[.int .i64 5, .int .i64 o, .int .u64 0, .int .u64 0, .slice none 0 0, .bool false, .bool false, .slice none 0 0], .bool true]) (by simp [results, Tryz.results55, go_sem, d0, d1, d2, d3, d4, d5, d6, d7]) rfl ?_
        rw [SE2.out]
        exact ⟨⟨5, o, false, true, rfl, rfl, fun y hy => by simp_all⟩, SF.out.g, SF.out.px⟩
      | false =>
        go_wp2_with fail
        go_roundg (3 - (i + 1))
        case measure => omega
        case rel => exact ⟨i + 1, hp, o, by go_num, by omega, hb1, HT2, S2, C2⟩
    · obtain rfl : i = 3 := by omega
      have SE2 : Hid (xr = (none, q)) := by
        show _ = _
        rw [SE.out, ← HT.out]
        rfl
      obtain ⟨⟨d0, d1, d2, d3, d4, d5, d6, d7⟩, fz⟩ := ndS_cells HS.out.n
      obtain ⟨⟨a0, a1, a2, a3, a4, a5, a6, a7⟩, fa⟩ := ndS_cells HS.out.r
      go_wp2_with fail
      obtain ⟨wf, hwf⟩ : ∃ x, x = put8 wr w.heap.size 5 no false := ⟨_, rfl⟩
      have SF := Lib.hid (hwf ▸ HS.out.putr ht 5 no false)
      unfold put8 at hwf
      rw [← hwf]
      clear hwf a0 a1 a2 a3 a4 a5 a6 a7 fa d0 d1 d2 d3 d4 d5 d6 d7 fz
      obtain ⟨⟨d0, d1, d2, d3, d4, d5, d6, d7⟩, fz⟩ := ndS_cells SF.out.r
      refine bodyPost_ret (v := .tuple #[.agg #[.int .i64 5, .int .i64 no, .int .u64 0, .int .u64 0, .slice none 0 0, .bool false, .bool false, .slice none 0 0], .bool false]) (by simp [results, Tryz.results55, go_sem, d0, d1, d2, d3, d4, d5, d6, d7]) rfl ?_
      rw [SE2.out]
      exact ⟨⟨5, no, false, false, rfl, rfl, fun y hy => by cases hy⟩, SF.out.g, SF.out.px⟩
end Go.Proofs.YtmbfpichaaanpaaGreatDoor

/-! The reader of expressions: levels. -/
namespace Go.Proofs.YtmbfpichaaanpaaGreatDoor
open Go.RowKit Ut Rx Mt

theorem signX_any (k : Nat) (hk : k ≤ 4) (t : Nat) (lv : Value) (p : Ex.P) (w : World) (h : Pq w t lv p) (hll : p.s.length ≤ 100000) (ht : t < w.heap.size) (ht8 : 8 ≤ t) (hW : Wt w) : Calls Tryz.prog 55 #[.pointer (some ⟨t, 0, none⟩), .int .i64 (k : Int)] w (SgPost w t lv (Ex.signE (k : Int) p)) := by
  match k, hk with
  | 0, _ => exact sign0_any t lv p w h hll ht
  | 1, _ => exact sign1_any t lv p w h hll ht
  | 2, _ => exact sign2_any t lv p w h hll ht ht8 hW
  | 3, _ => exact sign3_any t lv p w h ht
  | 4, _ => exact sign4_any t lv p w h ht ht8 hW
/-- the reader, and what it needs about it -/
structure Rdr (w : World) (B t : Nat) (lv : Value) (R : List NdV) (p : Ex.P) : Prop where
  pn : Pn w B t lv R p
  tabs : Lib.Utf8Tabs 6 7 w
  wt : Wt w
  t8 : 8 ≤ t
  few : wtP p ≤ 1100
section
variable {w w' : World} {B t : Nat} {lv lv' : Value} {R R' : List NdV} {p p' : Ex.P}
theorem Rdr.fe (h : Rdr w B t lv R p) (pn : Pn w' B t lv' R' p') (f : Fe w w' t lv lv') (few : wtP p' ≤ 1100) : Rdr w' B t lv' R' p' :=
  ⟨pn, tabs_low h.tabs h.t8 (h.pn.lowBelow f), h.wt.low h.t8 (h.pn.lowBelow f), h.t8, few⟩
theorem Rdr.small (h : Rdr w B t lv R p) (g : w.grownBy w' (some t)) (px : Pq w' t lv p') (hl : p'.l = p.l) (few : wtP p' ≤ wtP p) : Rdr w' B t lv R p' ∧ Fe w w' t lv lv := by
  obtain ⟨pn, f⟩ := h.pn.small g px hl
  exact ⟨h.fe pn f (Nat.le_trans few h.few), f⟩
theorem Rdr.below (h : Rdr w B t lv R p) (b : Below w.heap.size w w') : Rdr w' B t lv R p ∧ Fe w w' t lv lv := by
  obtain ⟨pn, f⟩ := h.pn.below b
  exact ⟨h.fe pn f h.few, f⟩
theorem Rdr.lt (h : Rdr w B t lv R p) : t < w.heap.size := Nat.lt_of_lt_of_le h.pn.low h.pn.size
theorem Rdr.len (h : Rdr w B t lv R p) : p.s.length ≤ 1100 := by
  have := h.few
  unfold wtP at this
  omega
theorem Rdr.lenl (h : Rdr w B t lv R p) : p.l.length ≤ 1100 := by
  have := h.few
  unfold wtP at this
  omega
theorem Rdr.lenR (h : Rdr w B t lv R p) : R.length ≤ 1100 := by
  have h1 := congrArg List.length h.pn.nds
  rw [List.length_map] at h1
  have := h.lenl
  omega
theorem Rdr.low (h : Rdr w B t lv R p) : 8 < w.heap.size := by
  have h1 := h.t8
  have h2 := h.pn.low
  have h3 := h.pn.size
  omega
/-- a block of one's own is kept -/
theorem Rdr.keep (_h : Rdr w B t lv R p) (f : Fe w w' t lv lv') {b : Nat} (hb : b < w.heap.size) (ht : b ≠ t) (hl : some b ≠ lv.ownBlock) : w'.heap[b]? = w.heap[b]? := f.block b hb ht hl
end
def RecPost (w : World) (B t : Nat) (lv : Value) (q : Ex.P) (e : Ending) (w' : World) : Prop := e = .returned (.tuple #[]) ∧ ∃ lv' R', Pn w' B t lv' R' q ∧ Fe w w' t lv lv'
def LevC (of : Int → Nat) (n : Nat) : Prop := ∀ (k : Nat), k ≤ 4 → ∀ (B t : Nat) (lv : Value) (R : List NdV) (p : Ex.P) (w : World), Rdr w B t lv R p → ∀ q, Ex.parE of n (.level k) p = some q → Calls Tryz.prog 26 #[.pointer (some ⟨t, 0, none⟩), .int .i64 (k : Int)] w (RecPost w B t lv q)
def TerC (of : Int → Nat) (n : Nat) : Prop := ∀ (B t : Nat) (lv : Value) (R : List NdV) (p : Ex.P) (w : World), Rdr w B t lv R p → ∀ q, Ex.parE of n .term p = some q → Calls Tryz.prog 54 #[.pointer (some ⟨t, 0, none⟩)] w (RecPost w B t lv q)
/-- what is below a level -/
def belM (k : Nat) : Ex.Md := if k = 4 then .term else .level (k + 1)
set_option maxRecDepth 100000 in
set_option maxHeartbeats 2000000 in
theorem below_of {of : Int → Nat} {n : Nat} (hl : LevC of n) (hr : TerC of n) (k : Nat) (hk : k ≤ 4) (B t kb pb : Nat) (lv : Value) (R : List NdV) (p : Ex.P) (w : World) (h : Rdr w B t lv R p) (q : Ex.P) (hq : Ex.parE of n (belM k) p = some q)
    (ck : w.cell? ⟨kb, 0, none⟩ = some (.int .i64 (k : Int))) (cp : w.cell? ⟨pb, 0, none⟩ = some (.pointer (some ⟨t, 0, none⟩))) : Calls Tryz.prog 53 #[.pointer (some ⟨kb, 0, none⟩), .pointer (some ⟨pb, 0, none⟩)] w (RecPost w B t lv q) := by
  by_cases h4 : k = 4
  · have hT := Lib.hid (hr B t lv R p w h q (by unfold belM at hq; rw [if_pos h4] at hq; exact hq))
    have h4i : (k : Int) = 4 := by omega
    clear hq h
    go_enter Tryz.func53, Tryz.ntmps53
    go_wp2_with fail
    refine hT.out.mono ?_
    rintro e w1 ⟨rfl, hp⟩
    clear hT
    go_wp2_with fail
    exact bodyPost_ret (v := .tuple #[]) (by simp [results, Tryz.results53, go_sem]) rfl ⟨rfl, hp⟩
  · have hT := Lib.hid (hl (k + 1) (by omega) B t lv R p w h q (by unfold belM at hq; rw [if_neg h4] at hq; exact hq))
    have h4i : ¬ (k : Int) = 4 := by omega
    rw [show ((k + 1 : Nat) : Int) = (k : Int) + 1 from by omega] at hT
    clear hq h
    go_enter Tryz.func53, Tryz.ntmps53
    go_wp2_with fail
    refine hT.out.mono ?_
    rintro e w1 ⟨rfl, hp⟩
    clear hT
    go_wp2_with fail
    exact bodyPost_ret (v := .tuple #[]) (by simp [results, Tryz.results53, go_sem]) rfl ⟨rfl, hp⟩
end Go.Proofs.YtmbfpichaaanpaaGreatDoor

/-! The reader of expressions: one node more, wherever it is pushed. -/
namespace Go.Proofs.YtmbfpichaaanpaaGreatDoor
open Go.RowKit Ut Rx Mt

/-- a value that is a slice -/
def IsSl (v : Value) : Prop := ∃ A m c, v = .slice A m c
theorem ndV_one' {n : Ex.Nd} {sv nv : Value} (hs : IsSl sv) (hn : IsSl nv) : ∀ u ∈ ndV n sv nv, u.oneCell' = true := by
  obtain ⟨A, m, c, rfl⟩ := hs
  obtain ⟨A2, m2, c2, rfl⟩ := hn
  exact ndV_one n A A2 m c m2 c2
theorem news_nd' {w : World} {b : Nat} {n : Ex.Nd} {sv nv : Value} (h : w.heap[b]? = some (ndB n sv nv)) : ∀ j u, (ndV n sv nv)[j]? = some u → w.cell? ((⟨b, 0, none⟩ : Addr).add j) = some u := by
  intro j u hu
  unfold ndB at h
  have e : (⟨b, 0, none⟩ : Addr).add j = ⟨b, j, none⟩ := by cases j <;> simp [Addr.add]
  rw [e, ndAt_blk h j]
  unfold ndV at hu
  simpa using hu
/-- what stands behind a push -/
structure Pd (w0 w' : World) (B t g cap : Nat) (lv : Value) (R : List NdV) (p : Ex.P) (x : NdV) : Prop where
  c : w'.cell? ⟨t, 1, none⟩ = some lv
  f : w'.frozen? ⟨t, 1, none⟩ = false
  k : ∀ q, q < w0.heap.size → some q ≠ lv.ownBlock → w'.heap[q]? = w0.heap[q]?
  pn : Pn (w'.setCell ⟨t, 1, none⟩ (.slice (some ⟨g, 0, none⟩) (R.length + 1) cap)) B t (.slice (some ⟨g, 0, none⟩) (R.length + 1) cap) (R ++ [x]) (Ex.putP x.1 p)
  fe : Fe w0 (w'.setCell ⟨t, 1, none⟩ (.slice (some ⟨g, 0, none⟩) (R.length + 1) cap)) t lv (.slice (some ⟨g, 0, none⟩) (R.length + 1) cap)
theorem push_pd {w0 w4 w5 : World} {B t g H cap : Nat} {lv : Value} {R : List NdV} {p : Ex.P} {x : NdV} (h : Rdr w0 B t lv R p) (b : Below w0.heap.size w0 w4) (gr : w4.grownBy w5 lv.ownBlock)
    (own : w5.ownsRow B 37 8 (.slice (some ⟨g, 0, none⟩) (R.length + 1) cap) (R.length + 1) (nodeC R ++ ndV x.1 x.2.1 x.2.2)) (at_ : lv.ownBlock = some g ∨ g = H) (hH : w4.heap.size = H) (hx : NdIn w0 B lv x) : Pd w0 w5 B t g cap lv R p x := by
  obtain ⟨c1, f1, pn, fe⟩ := h.pn.push2 b gr own at_ hH hx
  exact ⟨c1, f1, fun q hq hn => (gr.block q (Nat.lt_of_lt_of_le hq b.size) hn).trans (b.block q hq), pn, fe⟩
section
variable {ops : Array Oper} {o : Oper} {a : Act} {w0 w4 : World} {B t nb : Nat} {lv sv nv : Value} {R : List NdV} {p : Ex.P} {n : Ex.Nd} {s x : Operand}
set_option maxRecDepth 100000 in
/-- a node is pushed: at a step of a region that draws its order -/
theorem step_push {K : Act → World → Prop} {Q : Exit → Act → World → Prop} {E : Prop} (h : Rdr w0 B t lv R p) (hx0 : NdIn w0 B lv (n, sv, nv)) (h1 : IsSl sv) (h2 : IsSl nv) (b : Below w0.heap.size w0 w4) (hnb : w4.heap[nb]? = some (ndB n sv nv)) (hgd : o.guard = none)
    (ho : o.op = .call { callee := .builtin .append, args := #[s, x], argTypes := #[22, 22] }) (hs : a.eval s = lv) (hx : a.eval x = .slice (some ⟨nb, 0, none⟩) 1 1)
    (k : ∀ g cap w', Pd w0 w' B t g cap lv R p (n, sv, nv) → K (a.put o.dst (.slice (some ⟨g, 0, none⟩) (R.length + 1) cap)) w') :
    if Region.wanted o (yielded ops a.tmps) = true then Oper.wp Tryz.prog o a w4 K Q else E := by
  obtain ⟨i0, hi, hz0, hz1, hz2⟩ := info_parts infoNode
  have hR := h.lenR
  exact step_append_lies _ hgd s x 22 ho B 37 i0 _ 8 88 Tryz.underlying22 hi hz0 hz1 hz2 rfl (by decide) lv R.length (nodeC R) hs (h.pn.below b).1.row ⟨nb, 0, none⟩ 1 1 (ndV n sv nv) hx rfl (news_nd' hnb) (ndV_one' h1 h2) (by decide)
    (by unfold maxLen; omega) (by omega) (Nat.le_trans h.pn.size b.size) _ rfl fun g cap w' own gr at_ _ => k g cap w' (push_pd h b gr own at_ rfl hx0)
set_option maxRecDepth 100000 in
/-- a node is pushed: in a region in the text's order -/
theorem wpList_push {rest : List Oper} {Q : Exit → Act → World → Prop} (h : Rdr w0 B t lv R p) (hx0 : NdIn w0 B lv (n, sv, nv)) (h1 : IsSl sv) (h2 : IsSl nv) (b : Below w0.heap.size w0 w4) (hnb : w4.heap[nb]? = some (ndB n sv nv)) (hgd : o.guard = none)
    (ho : o.op = .call { callee := .builtin .append, args := #[s, x], argTypes := #[22, 22] }) (hs : a.eval s = lv) (hx : a.eval x = .slice (some ⟨nb, 0, none⟩) 1 1)
    (k : ∀ g cap w', Pd w0 w' B t g cap lv R p (n, sv, nv) → wpList Tryz.prog ops Q rest (a.put o.dst (.slice (some ⟨g, 0, none⟩) (R.length + 1) cap)) w') : wpList Tryz.prog ops Q (o :: rest) a w4 := by
  obtain ⟨i0, hi, hz0, hz1, hz2⟩ := info_parts infoNode
  have hR := h.lenR
  exact wpList_append_lies _ hgd s x 22 ho B 37 i0 _ 8 88 Tryz.underlying22 hi hz0 hz1 hz2 rfl (by decide) lv R.length (nodeC R) hs (h.pn.below b).1.row ⟨nb, 0, none⟩ 1 1 (ndV n sv nv) hx rfl (news_nd' hnb) (ndV_one' h1 h2) (by decide)
    (by unfold maxLen; omega) (by omega) (Nat.le_trans h.pn.size b.size) _ rfl fun g cap w' own gr at_ _ => k g cap w' (push_pd h b gr own at_ rfl hx0)
end
theorem isSl_nil : IsSl (.slice none 0 0) := ⟨_, _, _, rfl⟩
/-- a node without matchers and names -/
theorem ndIn_plain {w : World} {B : Nat} {lv : Value} {n : Ex.Nd} (hs : n.sel = []) (hn : n.nm = []) (hv : n.v < 18446744073709551616) (hw : n.wd < 18446744073709551616) : NdIn w B lv (n, .slice none 0 0, .slice none 0 0) := by
  refine ⟨?_, ?_, (fun q hq => by cases hq), (fun q hq => by cases hq), hv, hw, ?_⟩
  · show Ms0 w _ n.sel
    rw [hs]
    exact ⟨none, 0, rfl, Nat.le_refl _, fun e => absurd rfl e⟩
  · show Ws0 w _ n.nm
    rw [hn]
    exact ⟨none, 0, rfl, Nat.le_refl _, fun e => absurd rfl e⟩
  · show n.sel.length ≤ _; rw [hs]; decide
/-- a block made for a node: nothing below is touched -/
theorem nd_new (w : World) (n : Ex.Nd) (sv nv : Value) : Below w.heap.size w ((w.alloc (ndB n sv nv)).drew) ∧ ((w.alloc (ndB n sv nv)).drew).heap[w.heap.size]? = some (ndB n sv nv) := by
  have b0 : Below w.heap.size w (w.alloc (ndB n sv nv)) := (Below.refl _ _).alloc (Nat.le_refl _) _
  refine ⟨b0.drew, ?_⟩
  have b : Below (w.alloc (ndB n sv nv)).heap.size (w.alloc (ndB n sv nv)) ((w.alloc (ndB n sv nv)).drew) := (Below.refl _ _).drew
  exact (b.block _ (by simp)).trans (heap_alloc_new w _)
end Go.Proofs.YtmbfpichaaanpaaGreatDoor
