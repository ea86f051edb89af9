import Derived.Test.YtmbfpichaaanpaaGreatDoorX07
/-! What a part's matches lead to: parts one behind the other; one of parts. -/
namespace Go.Proofs.YtmbfpichaaanpaaGreatDoor
open Go.RowKit Ut Rx

theorem row_moved {w w' : World} {base e size n : Nat} {v : Value} {xs : List Value} (h : w.ownsRow base e size v n xs) (hb : ∀ k, v.ownBlock = some k → w'.heap[k]? = w.heap[k]?) : w'.ownsRow base e size v n xs := by
  refine ⟨h.1, ?_⟩
  rcases h.2 with hn | ⟨g, cap, cur, rfl, h1, h2, h3⟩
  · exact Or.inl hn
  · exact Or.inr ⟨g, cap, cur, rfl, h1, (hb g rfl).trans h2, h3⟩

/-- keeps how many places there are -/
def Keeps (f : Fi) : Prop := ∀ (l : List Int) (v : List Bool), v.length = l.length + 1 → (f l v).length = l.length + 1
/-- a part's parts, and where each leads -/
structure Parts (fr : Bool) (F : Nat → Prop) (w : World) (pv : Value) (ps : List (Nat × Fi)) : Prop where
  row : w.ownsRow 0 125 1 pv ps.length (ps.map fun p => .pointer (some ⟨p.1, 0, none⟩))
  den : ∀ p ∈ ps, Den fr F w p.1 p.2
  len : ∀ p ∈ ps, Keeps p.2
/-- a part in block b of a kind, its parts' slice and sign -/
def PartAt (w : World) (b : Nat) (kind : Int) (pv : Value) (sg : Int) : Prop :=
  ∃ sv but pl, w.heap[b]? = some (.cells #[.int .i64 kind, sv, .bool but, .bool pl, pv, .int .i32 sg] 156 (0, 0))
theorem PartAt.cells {w : World} {b : Nat} {kind : Int} {pv : Value} {sg : Int} (h : PartAt w b kind pv sg) : w.cell? ⟨b, 0, none⟩ = some (.int .i64 kind) ∧ w.cell? ⟨b, 4, none⟩ = some pv ∧ w.cell? ⟨b, 5, none⟩ = some (.int .i32 sg) := by
  obtain ⟨sv, but, pl, hb⟩ := h
  unfold World.cell?; rw [hb]; exact ⟨rfl, rfl, rfl⟩

def manyK (ps : List (Nat × Fi)) (l : List Int) (v : List Bool) (k : Nat) : List Bool := manyF ((ps.take k).map (·.2)) l v
theorem manyK_succ (ps : List (Nat × Fi)) (l : List Int) (v : List Bool) {k : Nat} (hk : k < ps.length) : manyK ps l v (k + 1) = (ps[k]'hk).2 l (manyK ps l v k) := by
  unfold manyK manyF
  rw [List.take_succ_eq_append_getElem hk, List.map_append, List.foldl_append]
  rfl
theorem manyK_all (ps : List (Nat × Fi)) (l : List Int) (v : List Bool) : manyK ps l v ps.length = manyF (ps.map (·.2)) l v := by unfold manyK; rw [List.take_length]
theorem manyK_length {ps : List (Nat × Fi)} (hp : ∀ p ∈ ps, Keeps p.2) (l : List Int) (v : List Bool) (hv : v.length = l.length + 1) : ∀ k, k ≤ ps.length → (manyK ps l v k).length = l.length + 1
  | 0, _ => hv
  | k + 1, hk => by rw [manyK_succ ps l v (by omega)]; exact hp _ (List.getElem_mem _) l _ (manyK_length hp l v hv k (by omega))

set_option maxRecDepth 100000 in
set_option maxHeartbeats 4000000 in
theorem den_many (F : Nat → Prop) (b : Nat) (w0 : World) (ps : List (Nat × Fi)) (pv : Value) (sg : Int) (hF : ∀ k, F k → k < w0.heap.size) (hFb : F b) (hFp : ∀ k, pv.ownBlock = some k → F k)
    (hp0 : PartAt w0 b 1 pv sg) (hps : Parts true F w0 pv ps) (hlen : ps.length ≤ 4000000) : Den false F w0 b (manyF (ps.map (·.2))) := by
  intro w hsz hw l lv v fv hl hv hvl hll
  have hp : PartAt w b 1 pv sg := by obtain ⟨sv, but, pl, hb⟩ := hp0; exact ⟨sv, but, pl, (hw b hFb).trans hb⟩
  have hrow := row_moved hps.row (fun k hk => hw k (hFp k hk))
  obtain ⟨k0, k4, _⟩ := hp.cells
  have DEN : Hid (∀ wr, Below w.heap.size w wr → ∀ i (hi : i < ps.length) (fk : Value) (x : List Bool), Bls wr fk x → x.length = l.length + 1 → Calls Tryz.prog 132 #[.pointer (some ⟨(ps[i]'hi).1, 0, none⟩), lv, fk] wr (EndsPost true wr fk ((ps[i]'hi).2 l x))) := fun wr hb i hi fk x hx hxl =>
    hps.den _ (List.getElem_mem hi) wr (Nat.le_trans hsz hb.size) (fun k hk => (hb.block k (Nat.lt_of_lt_of_le (hF k hk) hsz)).trans (hw k hk)) l lv x fk (hl.below hb) hx hxl hll
  have LEN := Lib.hid (fun k hk => manyK_length hps.len l v hvl k hk)
  have HV := Lib.hid hv
  have ALL := Lib.hid (manyK_all ps l v)
  clear hps hp hp0 hv hvl hl hw hF hFb hFp
  rcases row_kinds hrow with ⟨rfl, hn⟩ | ⟨g, cap, rfl, hcap⟩
  · obtain rfl : ps = [] := List.eq_nil_of_length_eq_zero hn
    clear hrow hn
    go_enter Tryz.func132, Tryz.ntmps132
    go_wp2_with fail
    go_loopg [2, 53] 0 (fun gk vf vk wr => vk = .int .i64 0 ∧ vf = fv ∧ wr = w)
    case atStart => exact ⟨rfl, rfl, rfl⟩
    case round =>
      obtain ⟨rfl, rfl, rfl⟩ := hrel
      go_wp2_with fail
      go_ret
      exact ⟨_, rfl, HV.out, Or.inl ⟨rfl, rfl⟩, Below.refl _ _⟩
  · have CP := Lib.hid (row_cell hrow rfl).2.2
    clear hrow
    go_enter Tryz.func132, Tryz.ntmps132
    go_wp2_with fail
    go_loopg [2, 53] ps.length (fun gk vf vk wr => ∃ k : Nat, vk = .int .i64 k ∧ k + gk = ps.length ∧ Hid (Below w.heap.size w wr) ∧ Hid (Bls wr vf (manyK ps l v k)) ∧ Hid (vf = fv ∨ ∀ k, vf.ownBlock = some k → w.heap.size ≤ k))
    case atStart => exact ⟨0, rfl, by omega, Below.refl _ _, HV.out, Or.inl rfl⟩
    case round =>
      obtain ⟨k, rfl, hk, HB, HO, HX⟩ := hrel
      by_cases hlt : k < ps.length
      · have lg := World.block_lt_of_cell? w _ (CP.out k _ (by rw [List.getElem?_map, List.getElem?_eq_getElem hlt]; rfl))
        have cp : wr.cell? ⟨g, k, none⟩ = some (.pointer (some ⟨(ps[k]'hlt).1, 0, none⟩)) := (HB.out.cell (p := ⟨g, k, none⟩) lg).trans (CP.out k _ (by rw [List.getElem?_map, List.getElem?_eq_getElem hlt]; rfl))
        have D := Lib.hid (DEN.out wr HB.out k hlt _ _ HO.out (LEN.out k (Nat.le_of_lt hlt)))
        have SU := Lib.hid (manyK_succ ps l v hlt)
        generalize (ps[k]'hlt).1 = pb at cp D
        generalize (ps[k]'hlt).2 = pf at D SU
        go_wp2_with fail
        refine D.out.mono ?_
        rintro e wq ⟨rv, rfl, hrv, hfr, hbq⟩
        have HRV := Lib.hid hrv
        have HFR := Lib.hid hfr
        have HBQ := Lib.hid hbq
        clear hrv hfr hbq D
        go_wp2_with fail
        go_roundg (gk - 1)
        case measure => omega
        case rel =>
          refine ⟨k + 1, by go_num, by omega, HB.out.trans (HBQ.out.mono HB.out.size), ?_, Or.inr fun q hq => ?_⟩
          · show Bls _ _ _
            rw [SU.out]; exact HRV.out
          · rcases HFR.out with ⟨h1, _⟩ | h1
            · cases h1
            · exact Nat.le_trans HB.out.size (h1 q hq)
      · obtain rfl : k = ps.length := by omega
        go_wp2_with fail
        go_ret
        have ho := HO.out
        rw [ALL.out] at ho
        refine ⟨_, rfl, ho, ?_, HB.out⟩
        rcases HX.out with h1 | h1
        · exact Or.inl ⟨rfl, h1⟩
        · exact Or.inr h1

def alikeK (ps : List (Nat × Fi)) (l : List Int) (v : List Bool) (k : Nat) : List Bool := alikeF ((ps.take k).map (·.2)) l v
theorem alikeK_succ (ps : List (Nat × Fi)) (l : List Int) (v : List Bool) {k : Nat} (hk : k < ps.length) : alikeK ps l v (k + 1) = orF (alikeK ps l v k) ((ps[k]'hk).2 l v) := by
  unfold alikeK alikeF
  rw [List.take_succ_eq_append_getElem hk, List.map_append, List.foldl_append]
  rfl
theorem alikeK_all (ps : List (Nat × Fi)) (l : List Int) (v : List Bool) : alikeK ps l v ps.length = alikeF (ps.map (·.2)) l v := by unfold alikeK; rw [List.take_length]
theorem alikeK_length {ps : List (Nat × Fi)} (hp : ∀ p ∈ ps, Keeps p.2) (l : List Int) (v : List Bool) (hv : v.length = l.length + 1) : ∀ k, k ≤ ps.length → (alikeK ps l v k).length = v.length
  | 0, _ => by unfold alikeK alikeF; simp
  | k + 1, hk => by
    have h1 := alikeK_length hp l v hv k (by omega)
    rw [alikeK_succ ps l v (by omega), orF_length (by rw [h1, hp _ (List.getElem_mem _) l v hv, hv]), h1]

set_option maxRecDepth 100000 in
set_option maxHeartbeats 4000000 in
theorem den_alike (F : Nat → Prop) (b : Nat) (w0 : World) (ps : List (Nat × Fi)) (pv : Value) (sg : Int) (hF : ∀ k, F k → k < w0.heap.size) (hFb : F b) (hFp : ∀ k, pv.ownBlock = some k → F k)
    (hp0 : PartAt w0 b 2 pv sg) (hps : Parts false F w0 pv ps) (hlen : ps.length ≤ 4000000) : Den true F w0 b (alikeF (ps.map (·.2))) := by
  intro w hsz hw l lv v fv hl hv hvl hll
  have hp : PartAt w b 2 pv sg := by obtain ⟨sv, but, pl, hb⟩ := hp0; exact ⟨sv, but, pl, (hw b hFb).trans hb⟩
  have hrow := row_moved hps.row (fun k hk => hw k (hFp k hk))
  obtain ⟨k0, k4, _⟩ := hp.cells
  have l4 := World.block_lt_of_cell? w _ k4
  have DEN : Hid (∀ wr, Below w.heap.size w wr → ∀ i (hi : i < ps.length), Calls Tryz.prog 132 #[.pointer (some ⟨(ps[i]'hi).1, 0, none⟩), lv, fv] wr (EndsPost false wr fv ((ps[i]'hi).2 l v))) := fun wr hb i hi =>
    hps.den _ (List.getElem_mem hi) wr (Nat.le_trans hsz hb.size) (fun k hk => (hb.block k (Nat.lt_of_lt_of_le (hF k hk) hsz)).trans (hw k hk)) l lv v fv (hl.below hb) (hv.below hb) hvl hll
  have LEN := Lib.hid (fun k hk => alikeK_length hps.len l v hvl k hk)
  have LENF : Hid (∀ i (hi : i < ps.length), ((ps[i]'hi).2 l v).length = v.length) := fun i hi => by rw [hps.len _ (List.getElem_mem hi) l v hvl, hvl]
  have HV := Lib.hid hv
  have hv1 : v.length ≤ 1000001 := by omega
  have hv0 : 0 < v.length := by omega
  have ALL := Lib.hid (alikeK_all ps l v)
  obtain ⟨gf, cf, rfl, hcf⟩ : ∃ g c, fv = .slice (some ⟨g, 0, none⟩) v.length c ∧ v.length ≤ c := by
    rcases row_kinds hv with ⟨_, hn⟩ | h
    · omega
    · exact h
  have lgf : gf < w.heap.size := (hv.lt gf rfl).2
  have hmk := run_mk v.length (by omega) w
  have MR : Hid ((w.alloc (.cells (bz v.length) 4)).ownsRow 0 4 1 (.slice (some ⟨w.heap.size, 0, none⟩) v.length v.length) v.length ((alikeK ps l v 0).map Value.bool)) := by
    have := mk_row v.length (by omega) w
    show World.ownsRow _ _ _ _ _ _ _
    have e : alikeK ps l v 0 = List.replicate v.length false := rfl
    rw [e]; exact this
  have B0 : Hid (Below w.heap.size w (w.alloc (.cells (bz v.length) 4))) := (Below.refl _ _).alloc (Nat.le_refl _) _
  have OUT : Hid (∀ wr, wr.ownsRow 0 4 1 (.slice (some ⟨w.heap.size, 0, none⟩) v.length v.length) v.length ((alikeK ps l v ps.length).map Value.bool) → Below w.heap.size w wr → EndsPost true w (.slice (some ⟨gf, 0, none⟩) v.length cf) (alikeF (ps.map (·.2)) l v) (.returned (.slice (some ⟨w.heap.size, 0, none⟩) v.length v.length)) wr) := fun wr h1 h2 => by
    have hl := LEN.out ps.length (Nat.le_refl _)
    rw [ALL.out] at h1 hl
    refine ⟨_, rfl, ?_, Or.inr fun k hk => ?_, h2⟩
    · unfold Bls; rw [hl]; exact h1
    · have : w.heap.size = k := Option.some.inj hk
      omega
  have K4 : Hid ((w.alloc (.cells (bz v.length) 4)).cell? ⟨b, 4, none⟩ = some pv) := (B0.out.cell (p := ⟨b, 4, none⟩) l4).trans k4
  clear hps hp hp0 hv hvl hl hw hF hFb hFp k4
  rcases row_kinds hrow with ⟨rfl, hn⟩ | ⟨g, cap, rfl, hcap⟩
  · obtain rfl : ps = [] := List.eq_nil_of_length_eq_zero hn
    clear hrow hn
    have k4 := K4.out
    go_enter Tryz.func132, Tryz.ntmps132
    go_wp2_with fail
    go_loopg [73] 0 (fun gk vk wr => vk = .int .i64 0 ∧ wr = w.alloc (.cells (bz v.length) 4))
    case atStart => exact ⟨rfl, rfl⟩
    case round =>
      obtain ⟨rfl, rfl⟩ := hrel
      go_wp2_with fail
      go_ret
      exact OUT.out _ MR.out B0.out
  · have CP := Lib.hid (row_cell hrow rfl).2.2
    clear hrow
    have k4 := K4.out
    go_enter Tryz.func132, Tryz.ntmps132
    go_wp2_with fail
    go_loopg [73] ps.length (fun gk vk wr => ∃ k : Nat, vk = .int .i64 k ∧ k + gk = ps.length ∧ Hid (Below w.heap.size w wr) ∧ Hid (wr.ownsRow 0 4 1 (.slice (some ⟨w.heap.size, 0, none⟩) v.length v.length) v.length ((alikeK ps l v k).map Value.bool)))
    case atStart => exact ⟨0, rfl, by omega, B0, MR⟩
    case round =>
      obtain ⟨k, rfl, hk, HB, HO⟩ := hrel
      clear MR B0 k4 hmk K4
      by_cases hlt : k < ps.length
      · have lg := World.block_lt_of_cell? w _ (CP.out k _ (by rw [List.getElem?_map, List.getElem?_eq_getElem hlt]; rfl))
        have cp : wr.cell? ⟨g, k, none⟩ = some (.pointer (some ⟨(ps[k]'hlt).1, 0, none⟩)) := (HB.out.cell (p := ⟨g, k, none⟩) lg).trans (CP.out k _ (by rw [List.getElem?_map, List.getElem?_eq_getElem hlt]; rfl))
        have D := Lib.hid (DEN.out wr HB.out k hlt)
        have SU := Lib.hid (alikeK_succ ps l v hlt)
        have LF := Lib.hid (LENF.out k hlt)
        have LK := Lib.hid (LEN.out k (Nat.le_of_lt hlt))
        have lw : w.heap.size < wr.heap.size := (HO.out.lt w.heap.size rfl).2
        generalize (ps[k]'hlt).1 = pb at cp D
        generalize (ps[k]'hlt).2 l v = out at D SU LF
        go_wp2_with fail
        refine D.out.mono ?_
        rintro e wq ⟨rv, rfl, hrv, hfr, hbq⟩
        have hne : rv.ownBlock ≠ some w.heap.size := by
          intro e
          rcases hfr with ⟨_, h1⟩ | h1
          · rw [h1] at e
            have : gf = w.heap.size := Option.some.inj e
            omega
          · have := h1 _ e; omega
        have J : Hid (Calls Tryz.prog 150 #[.slice (some ⟨w.heap.size, 0, none⟩) v.length v.length, rv] wq (JoinPost wq w.heap.size (.slice (some ⟨w.heap.size, 0, none⟩) v.length v.length) (alikeK ps l v k) out)) := by
          have ho := HO.out.kept (w' := wq) (row := none) ⟨hbq.os, hbq.tape, hbq.output, hbq.size, fun k hk _ => hbq.block k hk⟩ (by simp [Value.ownBlock])
          have hlk := LK.out
          rw [← hlk] at ho ⊢
          have := join_any w.heap.size (alikeK ps l v k).length rv (alikeK ps l v k) out wq ho hrv hne (by rw [LF.out, hlk]) (by omega)
          exact this
        have HBQ := Lib.hid hbq
        clear hrv hfr hbq D hne
        go_wp2_with fail
        refine J.out.mono ?_
        rintro e wz ⟨rfl, hz, gz⟩
        have HZ := Lib.hid hz
        have GZ := Lib.hid gz
        clear hz gz J
        go_wp2_with fail
        go_roundg (gk - 1)
        case measure => omega
        case rel =>
          refine ⟨k + 1, by go_num, by omega, ?_, ?_⟩
          · have hb := HB.out.trans (HBQ.out.mono HB.out.size)
            have gz := GZ.out
            exact ⟨gz.os.trans hb.os, gz.tape.trans hb.tape, gz.output.trans hb.output, Nat.le_trans hb.size gz.size, fun q hq => (gz.block q (Nat.lt_of_lt_of_le hq hb.size) (fun e => by have : q = w.heap.size := Option.some.inj e; omega)).trans (hb.block q hq)⟩
          · show World.ownsRow _ _ _ _ _ _ _
            have hz := HZ.out
            rw [LK.out] at hz
            rw [SU.out]; exact hz
      · obtain rfl : k = ps.length := by omega
        go_wp2_with fail
        go_ret
        exact OUT.out wr HO.out HB.out
end Go.Proofs.YtmbfpichaaanpaaGreatDoor

/-! What a part's matches lead to: a part that comes again. -/
namespace Go.Proofs.YtmbfpichaaanpaaGreatDoor
open Go.RowKit Ut Rx

theorem below_grown {w wa wb : World} {k : Nat} (hb : Below w.heap.size w wa) (g : wa.grownBy wb (some k)) (hk : w.heap.size ≤ k) : Below w.heap.size w wb :=
  ⟨g.os.trans hb.os, g.tape.trans hb.tape, g.output.trans hb.output, Nat.le_trans hb.size g.size, fun q hq => (g.block q (Nat.lt_of_lt_of_le hq hb.size) (fun e => by have : q = k := Option.some.inj e; omega)).trans (hb.block q hq)⟩
/-- the copy in block T holds the n places xs, and the rest is as it was -/
def OutAt (w wr : World) (T ct n : Nat) (xs : List Bool) : Prop :=
  xs.length = n ∧ Below w.heap.size w wr ∧ w.heap.size ≤ T ∧ wr.ownsRow 0 4 1 (.slice (some ⟨T, 0, none⟩) n ct) n (xs.map Value.bool)
theorem OutAt.bls {w wr : World} {T ct n : Nat} {xs : List Bool} (h : OutAt w wr T ct n xs) : Bls wr (.slice (some ⟨T, 0, none⟩) n ct) xs := by
  unfold Bls; rw [h.1]; exact h.2.2.2
theorem OutAt.below {w wr wq : World} {T ct n : Nat} {xs : List Bool} (h : OutAt w wr T ct n xs) (b : Below wr.heap.size wr wq) : OutAt w wq T ct n xs :=
  ⟨h.1, h.2.1.trans (b.mono h.2.1.size), h.2.2.1, h.2.2.2.kept (row := none) ⟨b.os, b.tape, b.output, b.size, fun k hk _ => b.block k hk⟩ (by simp [Value.ownBlock])⟩
theorem OutAt.join {w wr : World} {T ct n : Nat} {xs : List Bool} (h : OutAt w wr T ct n xs) (lv : Value) (b : List Bool) (hb : Bls wr lv b) (hne : lv.ownBlock ≠ some T) (hl : xs.length = b.length) (hlen : xs.length ≤ 4000000) :
    Calls Tryz.prog 150 #[.slice (some ⟨T, 0, none⟩) n ct, lv] wr fun e w' => e = .returned (.bool (decide (orF xs b ≠ xs))) ∧ OutAt w w' T ct n (orF xs b) := by
  obtain ⟨rfl, h1, h2, h3⟩ := h
  refine (join_any T ct lv xs b wr h3 hb hne hl hlen).mono fun e w' hj => ⟨hj.1, orF_length hl, below_grown h1 hj.2.2 h2, h2, hj.2.1⟩
theorem OutAt.post {w wr : World} {T ct n : Nat} {xs : List Bool} {fv : Value} (h : OutAt w wr T ct n xs) : EndsPost true w fv xs (.returned (.slice (some ⟨T, 0, none⟩) n ct)) wr :=
  ⟨_, rfl, h.bls, Or.inr fun k hk => by have : T = k := Option.some.inj hk; have := h.2.2.1; omega, h.2.1⟩

set_option maxRecDepth 100000 in
set_option maxHeartbeats 4000000 in
theorem den_again (F : Nat → Prop) (b : Nat) (w0 : World) (xb : Nat) (f : Fi) (pv : Value) (sg : Int) (hF : ∀ k, F k → k < w0.heap.size) (hFb : F b) (hFp : ∀ k, pv.ownBlock = some k → F k)
    (hp0 : PartAt w0 b 3 pv sg) (hps : Parts true F w0 pv [(xb, f)]) : Den true F w0 b (oftenF f sg) := by
  intro w hsz hw l lv v fv hl hv hvl hll
  have hp : PartAt w b 3 pv sg := by obtain ⟨sv, but, pl, hb⟩ := hp0; exact ⟨sv, but, pl, (hw b hFb).trans hb⟩
  have hrow := row_moved hps.row (fun k hk => hw k (hFp k hk))
  obtain ⟨k0, k4, k5⟩ := hp.cells
  have l5 := World.block_lt_of_cell? w _ k5
  have DEN : Hid (∀ wr, Below w.heap.size w wr → ∀ (fk : Value) (x : List Bool), Bls wr fk x → x.length = l.length + 1 → Calls Tryz.prog 132 #[.pointer (some ⟨xb, 0, none⟩), lv, fk] wr (EndsPost true wr fk (f l x))) := fun wr hb fk x hx hxl =>
    hps.den (xb, f) (by simp) wr (Nat.le_trans hsz hb.size) (fun k hk => (hb.block k (Nat.lt_of_lt_of_le (hF k hk) hsz)).trans (hw k hk)) l lv x fk (hl.below hb) hx hxl hll
  have LEN : Hid (∀ x : List Bool, x.length = l.length + 1 → (f l x).length = l.length + 1) := fun x hx => hps.len (xb, f) (by simp) l x hx
  have HV := Lib.hid hv
  have VL := Lib.hid hvl
  have K5 : Hid (∀ wr, Below w.heap.size w wr → wr.cell? ⟨b, 5, none⟩ = some (.int .i32 sg)) := fun wr hb => (hb.cell (p := ⟨b, 5, none⟩) l5).trans k5
  have K4 : Hid (∀ wr, Below w.heap.size w wr → wr.cell? ⟨b, 4, none⟩ = some pv) := fun wr hb => (hb.cell (p := ⟨b, 4, none⟩) l5).trans k4
  obtain ⟨g, cap, rfl, hcap⟩ : ∃ g c, pv = .slice (some ⟨g, 0, none⟩) 1 c ∧ 1 ≤ c := by
    rcases row_kinds hrow with ⟨_, hn⟩ | h
    · cases hn
    · exact h
  have cp : w.cell? ⟨g, 0, none⟩ = some (.pointer (some ⟨xb, 0, none⟩)) := (row_cell hrow rfl).2.2 0 _ rfl
  have lgf : ∀ k, fv.ownBlock = some k → k < w.heap.size := fun k hk => (hv.lt k hk).2
  have LF := Lib.hid lgf
  clear hps hp hp0 hv hvl hl hw hF hFb hFp hrow k5 lgf
  have OFT : Hid (Calls Tryz.prog 151 #[.pointer (some ⟨b, 0, none⟩), lv, fv] w (EndsPost true w fv (oftenF f sg l v))) := by
    show Calls _ _ _ _ _
    have k4 := K4.out w (Below.refl _ _)
    clear k0
    go_enter Tryz.func151, Tryz.ntmps151
    go_wp2_with fail
    refine (DEN.out w (Below.refl _ _) fv v HV.out VL.out).mono ?_
    rintro e w1 ⟨rv, rfl, hrv, hfr, hb1⟩
    have LO := Lib.hid (LEN.out v VL.out)
    obtain ⟨go, co, rfl, hco⟩ : ∃ g c, rv = .slice (some ⟨g, 0, none⟩) (f l v).length c ∧ (f l v).length ≤ c := by
      rcases row_kinds hrv with ⟨_, hn⟩ | h
      · have := LO.out; omega
      · exact h
    have CLO : Hid (Calls Tryz.prog 161 #[.slice (some ⟨go, 0, none⟩) (f l v).length co] w1 fun e w2 => ∃ T ct, e = .returned (.slice (some ⟨T, 0, none⟩) (f l v).length ct) ∧ OutAt w w2 T ct (f l v).length (f l v)) := by
      obtain ⟨i0, hi, hz0, hz1, hz2⟩ := info_parts infoBo
      refine (Tryz.slices_Clone i0 (.bool false) 1 1 hi hz0 hz1 hz2 rfl (by decide) (fun _ => by kernel_rfl) go 0 (f l v).length co ((f l v).map Value.bool) w1 (by simp) (by have := LO.out; unfold maxLen; omega) (by have := LO.out; omega) (fun j u hj => ?_) (fun u hu => ?_)).mono ?_
      · rw [Nat.zero_add]; exact (row_cell hrv rfl).2.2 j u hj
      · obtain ⟨x, _, rfl⟩ := List.mem_map.1 hu; rfl
      · rintro e w2 ⟨v', rfl, ho, hn, hb2⟩
        rcases row_kinds ho with ⟨h1, _⟩ | ⟨T, ct, rfl, _⟩
        · exact absurd h1 hn
        · refine ⟨T, ct, rfl, rfl, hb1.trans (hb2.mono hb1.size), Nat.le_trans hb1.size (ho.lt T rfl).1, ho.1, ?_⟩
          rcases ho.2 with ⟨h1, _⟩ | ⟨g', c', cur, h1, h2, h3⟩
          · cases h1
          · cases h1
            exact Or.inr ⟨T, ct, cur, rfl, Nat.zero_le _, h3⟩
    clear hrv hfr hb1 cp k4
    go_wp2_with fail
    refine CLO.out.mono ?_
    rintro e w2 ⟨T, ct, rfl, ho⟩
    have HO := Lib.hid ho
    have k5 := K5.out w2 ho.2.1
    have TF : Hid (fv.ownBlock ≠ some T) := fun e => by have := LF.out _ e; have := ho.2.2.1; omega
    clear ho CLO
    go_upto_if 26 with fail
    go_cut [] (fun wx => Hid (OutAt w wx T ct (f l v).length (if sg = 43 then f l v else orF (f l v) v)))
    case first =>
      by_cases h43 : sg = 43
      · have e1 : Hid ((if sg = 43 then f l v else orF (f l v) v) = f l v) := if_pos h43
        have h43b : (sg != 43) = false := by simp [h43]
        clear h43
        go_wp2_with fail
        go_meet
        case rel => show OutAt _ _ _ _ _ _; rw [e1.out]; exact HO.out
      · have e1 : Hid ((if sg = 43 then f l v else orF (f l v) v) = orF (f l v) v) := if_neg h43
        have h43b : (sg != 43) = true := by simp [h43]
        have J := Lib.hid (HO.out.join fv v (HV.out.below HO.out.2.1) TF.out (by rw [LO.out, VL.out]) (by rw [LO.out]; omega))
        clear h43
        go_wp2_with fail
        refine J.out.mono ?_
        rintro e w3 ⟨rfl, h3⟩
        have H3 := Lib.hid h3
        clear h3 J
        go_wp2_with fail
        go_meet
        case rel => show OutAt _ _ _ _ _ _; rw [e1.out]; exact H3.out
    case rest =>
      have OL : Hid ((if sg = 43 then f l v else orF (f l v) v).length = l.length + 1) := by
        show _ = _
        split
        · exact LO.out
        · rw [orF_length (by rw [LO.out, VL.out]), LO.out]
      have EO : Hid (oftenF f sg l v = if sg = 63 then (if sg = 43 then f l v else orF (f l v) v) else clos (f l) (v.length + 1) (if sg = 43 then f l v else orF (f l v) v)) := rfl
      generalize (if sg = 43 then f l v else orF (f l v) v) = out at hcut OL EO
      clear HO k5
      have k5 := K5.out _ hcut.out.2.1
      by_cases h63 : sg = 63
      · have h63b : (sg == 63) = true := by simp [h63]
        have E : Hid (oftenF f sg l v = out) := by show _ = _; rw [EO.out, if_pos h63]
        clear h63
        go_wp2_with fail
        go_ret
        rw [E.out]
        exact hcut.out.post
      · have h63b : (sg == 63) = false := by simp [h63]
        have E : Hid (oftenF f sg l v = clos (f l) (v.length + 1) out) := by show _ = _; rw [EO.out, if_neg h63]
        have C0 : Hid (v.length < cnt out + (v.length + 1)) := by show _ < _; omega
        clear h63 EO
        go_wp2_with fail
        clear k5
        go_loopg [] (v.length + 1) (fun gk wr => ∃ xs, Hid (OutAt w wr T ct (f l v).length xs) ∧ Hid (clos (f l) (v.length + 1) out = clos (f l) gk xs) ∧ Hid (v.length < cnt xs + gk) ∧ Hid (xs.length = l.length + 1))
        case atStart => exact ⟨out, hcut, rfl, C0, OL⟩
        case round =>
          obtain ⟨xs, HX, HC, HN, HL⟩ := hrel
          clear C0 hcut OL
          cases gk with
          | zero =>
            have h1 := HN.out
            have h2 := cnt_le xs
            have h3 := HL.out
            have h4 := VL.out
            omega
          | succ m =>
            have D := Lib.hid (DEN.out _ HX.out.2.1 _ xs HX.out.bls HL.out)
            have FX := Lib.hid (LEN.out xs HL.out)
            go_wp2_with fail
            refine D.out.mono ?_
            rintro e w3 ⟨rv, rfl, hrv, hfr, hb3⟩
            have hne : rv.ownBlock ≠ some T := by
              intro e
              rcases hfr with ⟨h1, _⟩ | h1
              · cases h1
              · have := h1 _ e
                have := (HX.out.2.2.2.lt T rfl).2
                omega
            have J := Lib.hid ((HX.out.below hb3).join rv (f l xs) hrv hne (by rw [HL.out, FX.out]) (by rw [HL.out]; omega))
            clear hrv hfr hb3 hne D
            go_wp2_with fail
            refine J.out.mono ?_
            rintro e w4 ⟨rfl, h4⟩
            have H4 := Lib.hid h4
            clear h4 J
            by_cases hs : orF xs (f l xs) = xs
            · have hd : decide (orF xs (f l xs) ≠ xs) = false := by simp [hs]
              have E2 : Hid (clos (f l) (m + 1) xs = xs) := by show _ = _; unfold clos; rw [if_pos hs]
              have E3 : Hid (orF xs (f l xs) = xs) := hs
              rw [hd]
              clear hs hd
              go_wp2_with fail
              go_ret
              rw [E.out, HC.out, E2.out]
              have h5 := H4.out
              rw [E3.out] at h5
              exact h5.post
            · have hd : decide (orF xs (f l xs) ≠ xs) = true := by simp [hs]
              have E2 : Hid (clos (f l) (m + 1) xs = clos (f l) m (orF xs (f l xs))) := by show _ = _; rw [clos]; rw [if_neg hs]
              have hll2 : xs.length = (f l xs).length := by rw [HL.out, FX.out]
              have CN : Hid (cnt xs < cnt (orF xs (f l xs))) := cnt_lt (by rw [orF_length hll2]) (sub_or_left hll2) (fun e => hs e.symm)
              have OL2 : Hid ((orF xs (f l xs)).length = l.length + 1) := by show _ = _; rw [orF_length hll2, HL.out]
              rw [hd]
              clear hs hd hll2
              go_wp2_with fail
              go_roundg m
              case measure => omega
              case rel => exact ⟨_, H4, by show _ = _; rw [HC.out, E2.out], by show _ < _; have := HN.out; have := CN.out; omega, OL2⟩
  clear cp K4
  go_enter Tryz.func132, Tryz.ntmps132
  go_wp2_with fail
  refine OFT.out.mono ?_
  rintro e w1 h1
  obtain ⟨rv, rfl, h2⟩ := id h1
  have H1 := Lib.hid h1
  clear h1 h2
  go_wp2_with fail
  go_ret
  exact H1.out
end Go.Proofs.YtmbfpichaaanpaaGreatDoor
