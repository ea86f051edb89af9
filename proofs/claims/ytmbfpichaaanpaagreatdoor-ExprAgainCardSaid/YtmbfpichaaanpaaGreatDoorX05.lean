import Derived.Test.YtmbfpichaaanpaaGreatDoorX04
import Derived.Deep.RegionWith
import Derived.BigRegion
/-! The second rune of a span. -/
namespace Go.Proofs.YtmbfpichaaanpaaGreatDoor
open Go.RowKit Ut Rx

theorem escF_single {l : List Int} {sp : List Span} {t : List Int} (h : escF l = .ok (sp, true, t)) : ∃ c, sp = [(c, c)] := by
  cases l with
  | nil => cases h
  | cons c u =>
    unfold escF at h
    simp only at h
    split at h
    · cases h
    · split at h
      · cases h; exact ⟨c, rfl⟩
      · cases h
theorem memF_single {l : List Int} {sp : List Span} {t : List Int} (h : memF l = .ok (sp, true, t)) : ∃ c, sp = [(c, c)] := by
  cases l with
  | nil => cases h
  | cons c u =>
    simp only [memF] at h
    split at h
    · cases h
    · split at h
      · exact escF_single h
      · cases h; exact ⟨c, rfl⟩

def UppPost (w : World) (r : Nat) (s : ByteArray) (d z : Int) (res : Except Int (Int × List Int)) (e : Ending) (w' : World) : Prop :=
  w.grownBy w' (some r) ∧ match res with
  | .error er => Bad er e
  | .ok (hi, t) => e = .returned (.int .i32 hi) ∧ At w' r s t d z

set_option maxRecDepth 100000 in
set_option maxHeartbeats 2000000 in
theorem upper_any (r : Nat) (s : ByteArray) (lo : Int) (l : List Int) (d z : Int) (w : World) (h : At w r s l d z) (hr : 8 ≤ r) (hT : Lib.Utf8Tabs 6 7 w) (hs : s.size ≤ 256) :
    Calls Tryz.prog 173 #[.pointer (some ⟨r, 0, none⟩), .int .i32 lo] w (UppPost w r s d z (uppF lo l)) := by
  have lt := h.lt
  obtain ⟨p, hrd, hpos⟩ := id h
  have k1 := hrd.p
  have hp0 : (0 : Int) ≤ (p : Int) := by omega
  have hp1 : (p : Int) ≤ 256 := by have := hpos.le; omega
  have P := Lib.hid (peek_at r s l d z w h hT)
  have H := Lib.hid h
  have HT := Lib.hid hT
  clear h hT hrd hpos
  by_cases hbad : (pk l == 92) = true ∧ lo > 125
  · obtain ⟨h1, h2⟩ := hbad
    have E : Hid (uppF lo l = .error 8) := by
      show uppF lo l = _
      unfold uppF
      rw [if_pos (by rw [h1, decide_eq_true h2]; rfl)]
    go_enter Tryz.func173, Tryz.ntmps173
    go_wp2_with fail
    refine P.out.mono ?_
    rintro e w1 ⟨rfl, hb1⟩
    go_wp2_with fail
    refine (bad_at r s l d z 8 w1 (H.out.below hb1)).mono ?_
    rintro e w3 ⟨⟨at_, rfl⟩, rfl⟩
    rw [E.out]
    exact ⟨rfl, grown_below hb1, ⟨_, rfl⟩⟩
  · have hw : (∃ h92 : (pk l == 92) = true, ¬ lo > 125) ∨ (pk l == 92) = false := by
      cases hx : (pk l == 92) with
      | false => exact Or.inr rfl
      | true => exact Or.inl ⟨rfl, fun h2 => hbad ⟨hx, h2⟩⟩
    have E : Hid (uppF lo l = match memF l with | .error e => .error e | .ok (s, single, t) => if !single || decide (lowF s < lo) then .error 8 else .ok (lowF s, t)) := by
      show uppF lo l = _
      unfold uppF
      rw [if_neg (by
        intro h2
        simp only [Bool.and_eq_true, decide_eq_true_eq] at h2
        exact hbad h2)]
      rfl
    clear hbad
    rcases hw with ⟨h92, hlo⟩ | h92
    all_goals
      go_enter Tryz.func173, Tryz.ntmps173
      go_wp2_with fail
      refine P.out.mono ?_
      rintro e w1 ⟨rfl, hb1⟩
      have HT1 := Lib.hid (tabs_below HT.out hb1)
      go_wp2_with fail
      refine (member_any r s l d z w1 (H.out.below hb1) hr HT1.out hs).mono ?_
      rintro e w2 h2
      have h2b := h2.after (grown_below hb1)
      have HT2 := Lib.hid (tabs_grown HT1.out hr h2.1)
      clear h2
      cases hm : memF l with
      | error er =>
        have E2 : Hid (uppF lo l = .error er) := by show uppF lo l = _; rw [E.out, hm]
        rw [hm] at h2b
        obtain ⟨g3, at_, rfl⟩ := id h2b
        rw [E2.out]
        exact ⟨rfl, h2b⟩
      | ok x =>
        obtain ⟨sp, single, u⟩ := x
        rw [hm] at h2b
        obtain ⟨g3, v, rfl, hsp, hat⟩ := h2b
        cases single with
        | false =>
          have E2 : Hid (uppF lo l = .error 8) := by show uppF lo l = _; rw [E.out, hm]; rfl
          obtain ⟨q, hrd, hpos⟩ := id hat
          have q1 := hrd.p
          have q2 := hrd.free 1
          have HR := Lib.hid hrd
          have G := Lib.hid g3
          clear hm hsp hrd hpos hat g3
          go_wp2_with fail
          (first
            | (refine (bad_any r s (p + 1) d z 8 _ (rd_set HR.out (p + 1) ((p : Int) + 1) (by omega))).mono ?_)
            | (refine (bad_any r s p d z 8 _ (rd_set HR.out p (p : Int) rfl)).mono ?_))
          rintro e w4 ⟨⟨at_, rfl⟩, rfl⟩
          rw [E2.out]
          exact ⟨rfl, grown_trans G.out (grown_setCell _ _ _ _), ⟨_, rfl⟩⟩
        | true =>
          obtain ⟨c, rfl⟩ := memF_single hm
          obtain ⟨g, rfl, hg1, hg2⟩ := hsp
          have cc : w2.cell? ⟨g, 0, none⟩ = some (.int .i32 c) := by unfold World.cell?; rw [hg2]; rfl
          have hlow : lowF [(c, c)] = c := rfl
          have HA := Lib.hid hat
          have G := Lib.hid g3
          by_cases hlt : c < lo
          · have E2 : Hid (uppF lo l = .error 8) := by show uppF lo l = _; rw [E.out, hm]; simp [hlow, hlt]
            obtain ⟨q, hrd, hpos⟩ := id hat
            have q1 := hrd.p
            have q2 := hrd.free 1
            have HR := Lib.hid hrd
            clear hm hrd hpos hat g3 hg2 hlow
            go_wp2_with fail
            (first
              | (refine (bad_any r s (p + 1) d z 8 _ (rd_set HR.out (p + 1) ((p : Int) + 1) (by omega))).mono ?_)
              | (refine (bad_any r s p d z 8 _ (rd_set HR.out p (p : Int) rfl)).mono ?_))
            rintro e w4 ⟨⟨at_, rfl⟩, rfl⟩
            rw [E2.out]
            exact ⟨rfl, grown_trans G.out (grown_setCell _ _ _ _), ⟨_, rfl⟩⟩
          · have E2 : Hid (uppF lo l = .ok (c, u)) := by show uppF lo l = _; rw [E.out, hm]; simp [hlow, hlt]
            clear hm hat g3 hg2 hlow
            go_wp2_with fail
            go_ret
            rw [E2.out]
            exact ⟨G.out, rfl, HA.out⟩
end Go.Proofs.YtmbfpichaaanpaaGreatDoor

/-! A class: its worlds. -/
namespace Go.Proofs.YtmbfpichaaanpaaGreatDoor
open Go.RowKit Ut Rx

/-- the worlds of `class`: w where it begins, wr now; the part is in the block w.heap.size -/
structure Cl (w wr : World) (r : Nat) (s : ByteArray) (d z : Int) (but : Bool) (v : Value) (acc : List Span) (l : List Int) : Prop where
  here : At wr r s l d z
  grown : w.grownBy wr (some r)
  tabs : Lib.Utf8Tabs 6 7 wr
  part : wr.heap[w.heap.size]? = some (.cells #[.int .i64 0, v, .bool but, .bool false, .slice none 0 0, .int .i32 0] 156 (0, 0))
  own : wr.ownsRow (w.heap.size + 1) 177 2 v acc.length (spC acc)

theorem Cl.call {w wr w' : World} {r : Nat} {s : ByteArray} {d z : Int} {but : Bool} {v : Value} {acc : List Span} {l l' : List Int} (h : Cl w wr r s d z but v acc l) (hr : 8 ≤ r) (lt : r < w.heap.size) (g : wr.grownBy w' (some r)) (ha : At w' r s l' d z) : Cl w w' r s d z but v acc l' := by
  refine ⟨ha, grown_trans h.grown g, tabs_grown h.tabs hr g, ?_, ?_⟩
  · have hp := h.part
    rw [g.block _ (Array.getElem?_eq_some_iff.1 hp).1 (fun e => by have : w.heap.size = r := Option.some.inj e; omega)]
    exact hp
  · refine h.own.kept g ?_
    cases hv : v.ownBlock with
    | none => exact Or.inl rfl
    | some k =>
      have := h.own.lt k hv
      exact Or.inr (fun e => by have : k = r := Option.some.inj e; omega)
theorem Cl.cell {w wr : World} {r : Nat} {s : ByteArray} {d z : Int} {but : Bool} {v : Value} {acc : List Span} {l : List Int} (h : Cl w wr r s d z but v acc l) : wr.cell? ⟨w.heap.size, 1, none⟩ = some v ∧ wr.frozen? ⟨w.heap.size, 1, none⟩ = false := by
  unfold World.cell? World.frozen?
  rw [h.part]
  exact ⟨rfl, rfl⟩

theorem spC_length (s : List Span) : (spC s).length = s.length * 2 := by
  induction s with
  | nil => rfl
  | cons a t ih => show (spC (a :: t)).length = _; unfold spC at *; simp [List.flatMap_cons, ih]; omega
theorem spC_append (a b : List Span) : spC (a ++ b) = spC a ++ spC b := by unfold spC; exact List.flatMap_append
theorem spC_plain (s : List Span) : ∀ u ∈ spC s, u.oneCell' = true := by
  intro u hu
  unfold spC at hu
  obtain ⟨x, _, hx⟩ := List.mem_flatMap.1 hu
  simp at hx
  rcases hx with rfl | rfl <;> rfl
theorem span_cells {w : World} {g : Nat} {sp : List Span} (h : w.heap[g]? = some (.cells (spC sp).toArray 177 (0, 0))) : ∀ j u, (spC sp)[j]? = some u → w.cell? ((⟨g, 0, none⟩ : Addr).add j) = some u := by
  intro j u hu
  have hadd : (⟨g, 0, none⟩ : Addr).add j = ⟨g, j, none⟩ := by unfold Addr.add; split <;> simp_all
  rw [hadd, cell_of_row w g j _ _ (0, 0) h]
  simpa using hu

/-- behind the append -/
theorem Cl.appended {w wr w1 : World} {r : Nat} {s : ByteArray} {d z : Int} {but : Bool} {v v' : Value} {acc sp : List Span} {l : List Int} (h : Cl w wr r s d z but v acc l) (hr : 8 ≤ r) (lt : r < w.heap.size)
    (own : w1.ownsRow (w.heap.size + 1) 177 2 v' (acc.length + sp.length) (spC acc ++ spC sp)) (g : wr.grownBy w1 v.ownBlock) :
    w1.cell? ⟨w.heap.size, 1, none⟩ = some v ∧ w1.frozen? ⟨w.heap.size, 1, none⟩ = false ∧ Cl w (w1.setCell ⟨w.heap.size, 1, none⟩ v') r s d z but v' (acc ++ sp) l := by
  have hne : ∀ k, k ≤ w.heap.size → some k ≠ v.ownBlock := fun k hk e => by have := h.own.lt k e.symm; omega
  have hp := h.part
  have hlt := (Array.getElem?_eq_some_iff.1 hp).1
  have hp1 : w1.heap[w.heap.size]? = _ := (g.block _ hlt (hne _ (Nat.le_refl _))).trans hp
  have hlt1 := (Array.getElem?_eq_some_iff.1 hp1).1
  have hset : (w1.setCell ⟨w.heap.size, 1, none⟩ v').heap[w.heap.size]? = some (.cells #[.int .i64 0, v', .bool but, .bool false, .slice none 0 0, .int .i32 0] 156 (0, 0)) := by
    unfold World.setCell
    simp only [Array.getElem?_modify, ↓reduceIte, hp1, Option.map_some]
    rfl
  have gs : w1.grownBy (w1.setCell ⟨w.heap.size, 1, none⟩ v') (some w.heap.size) := grown_setCell _ _ _ _
  refine ⟨?_, ?_, ?_, ?_, ?_, hset, ?_⟩
  · unfold World.cell?; rw [hp1]; rfl
  · unfold World.frozen?; rw [hp1]; rfl
  · obtain ⟨p, hrd, hpos⟩ := h.here
    have ltr := hrd.lt
    have kk : ∀ j u, wr.cell? ⟨r, j, none⟩ = some u → (w1.setCell ⟨w.heap.size, 1, none⟩ v').cell? ⟨r, j, none⟩ = some u := fun j u hu =>
      gs.cell (g.cell hu (hne r (by omega))) (fun e => by have : r = w.heap.size := Option.some.inj e; omega)
    refine ⟨p, ⟨kk _ _ hrd.s, kk _ _ hrd.p, kk _ _ hrd.d, kk _ _ hrd.z, fun j => ?_, Nat.lt_of_lt_of_le ltr (by rw [World.size_setCell]; exact g.size)⟩, hpos⟩
    rw [World.frozen?_setCell]
    exact (World.frozen?_of_block (a := ⟨r, j, none⟩) (g.block r ltr (hne r (by omega)))).trans (hrd.free j)
  · refine ⟨g.os.trans h.grown.os, g.tape.trans h.grown.tape, g.output.trans h.grown.output, Nat.le_trans h.grown.size (by rw [World.size_setCell]; exact g.size), fun k hk hne' => ?_⟩
    rw [gs.block k (Nat.lt_of_lt_of_le hk (Nat.le_trans h.grown.size g.size)) (fun e => by have : k = w.heap.size := Option.some.inj e; omega),
      g.block k (Nat.lt_of_lt_of_le hk h.grown.size) (hne k (by omega))]
    exact h.grown.block k hk hne'
  · have ht := h.tabs
    have kk : ∀ {b j u}, b < 8 → wr.cell? ⟨b, j, none⟩ = some u → (w1.setCell ⟨w.heap.size, 1, none⟩ v').cell? ⟨b, j, none⟩ = some u := fun hb hu =>
      gs.cell (g.cell hu (hne _ (by simp; omega))) (fun e => by have := Option.some.inj e; simp at this; omega)
    exact ⟨fun c hc => kk (by omega) (ht.1 c hc), fun i hi => ⟨kk (by omega) (ht.2 i hi).1, kk (by omega) (ht.2 i hi).2⟩⟩
  · rw [List.length_append, spC_append]
    exact own.kept gs (by
      cases hv : v'.ownBlock with
      | none => exact Or.inl rfl
      | some k =>
        have := own.lt k hv
        exact Or.inr (fun e => by have : k = w.heap.size := Option.some.inj e; omega))
end Go.Proofs.YtmbfpichaaanpaaGreatDoor
