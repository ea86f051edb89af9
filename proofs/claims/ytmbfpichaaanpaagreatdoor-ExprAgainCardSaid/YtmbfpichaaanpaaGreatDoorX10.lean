import Derived.Test.YtmbfpichaaanpaaGreatDoorX09
import Derived.Maps.AppendAt
/-! Parts put together: their worlds. -/
namespace Go.Proofs.YtmbfpichaaanpaaGreatDoor
open Go.RowKit Ut Rx

def ptrs (ps : List (Nat × Fi)) : List Value := ps.map fun p => .pointer (some ⟨p.1, 0, none⟩)
/-- the worlds of `branch`, `pattern`: w where it begins, wr now; the part is in block pb, its parts' slice is pv -/
structure Pa (kind : Int) (fr : Bool) (w wr : World) (pb r : Nat) (s : ByteArray) (d z : Int) (pv : Value) (ps : List (Nat × Fi)) (l : List Int) : Prop where
  here : At wr r s l d z
  grown : w.grownBy wr (some r)
  tabs : Lib.Utf8Tabs 6 7 wr
  lo : w.heap.size ≤ pb
  part : wr.heap[pb]? = some (.cells #[.int .i64 kind, .slice none 0 0, .bool false, .bool false, pv, .int .i32 0] 156 (0, 0))
  own : wr.ownsRow w.heap.size 125 1 pv ps.length (ptrs ps)
  apart : pv.ownBlock ≠ some pb
  den : ∃ F : Nat → Prop, (∀ k, F k → w.heap.size ≤ k ∧ k < wr.heap.size ∧ k ≠ pb ∧ some k ≠ pv.ownBlock) ∧ ∀ p ∈ ps, Den fr F wr p.1 p.2
  len : ∀ p ∈ ps, Keeps p.2

section
variable {kind : Int} {fr : Bool} {w wr w' : World} {pb r : Nat} {s : ByteArray} {d z z' : Int} {pv : Value} {ps : List (Nat × Fi)} {l l' : List Int}
theorem Pa.ltp (h : Pa kind fr w wr pb r s d z pv ps l) : pb < wr.heap.size := (Array.getElem?_eq_some_iff.1 h.part).1
theorem Pa.call (h : Pa kind fr w wr pb r s d z pv ps l) (hr : 8 ≤ r) (lt : r < w.heap.size) (g : wr.grownBy w' (some r)) (ha : At w' r s l' d z') : Pa kind fr w w' pb r s d z' pv ps l' := by
  have ne : ∀ k, w.heap.size ≤ k → some k ≠ some r := fun k hk e => by have : k = r := Option.some.inj e; omega
  refine ⟨ha, grown_trans h.grown g, tabs_grown h.tabs hr g, h.lo, (g.block _ h.ltp (ne _ h.lo)).trans h.part, ?_, h.apart, ?_, h.len⟩
  · refine h.own.kept g ?_
    cases hv : pv.ownBlock with
    | none => exact Or.inl rfl
    | some k => exact Or.inr (ne k (h.own.lt k hv).1)
  · obtain ⟨F, hF, hD⟩ := h.den
    refine ⟨F, fun k hk => ?_, fun p hp => (hD p hp).move g.size (fun k hk => g.block k (hF k hk).2.1 (ne k (hF k hk).1)) (fun _ h => h)⟩
    obtain ⟨a, b, c⟩ := hF k hk
    exact ⟨a, Nat.lt_of_lt_of_le b g.size, c⟩
theorem Pa.below (h : Pa kind fr w wr pb r s d z pv ps l) (hr : 8 ≤ r) (lt : r < w.heap.size) (b : Below wr.heap.size wr w') : Pa kind fr w w' pb r s d z pv ps l := h.call hr lt (grown_below b) (h.here.below b)
theorem Pa.cell (h : Pa kind fr w wr pb r s d z pv ps l) : wr.cell? ⟨pb, 4, none⟩ = some pv := by unfold World.cell?; rw [h.part]; rfl

/-- a part more to come -/
def More (fr : Bool) (w wr : World) (pb : Nat) (pv : Value) (nb : Nat) (f : Fi) : Prop :=
  ∃ G : Nat → Prop, (∀ k, G k → w.heap.size ≤ k ∧ k < wr.heap.size ∧ k ≠ pb ∧ some k ≠ pv.ownBlock) ∧ Den fr G wr nb f

theorem Pa.appended {w0 w1 : World} {nb : Nat} {f : Fi} {v' : Value} (h : Pa kind fr w wr pb r s d z pv ps l) (hr : 8 ≤ r) (lt : r < w.heap.size) (hm : More fr w wr pb pv nb f) (hk : Keeps f) (e0 : w0 = wr.alloc (.cells #[.pointer (some ⟨nb, 0, none⟩)] 125))
    (own : w1.ownsRow w.heap.size 125 1 v' (ps.length + 1) (ptrs ps ++ [.pointer (some ⟨nb, 0, none⟩)])) (g : w0.grownBy w1 pv.ownBlock) (at_ : v'.ownBlock = pv.ownBlock ∨ v'.ownBlock = some w0.heap.size) :
    w1.cell? ⟨pb, 4, none⟩ = some pv ∧ w1.frozen? ⟨pb, 4, none⟩ = false ∧ Pa kind fr w (w1.setCell ⟨pb, 4, none⟩ v') pb r s d z v' (ps ++ [(nb, f)]) l := by
  have h0 : wr.heap.size < w0.heap.size := by rw [e0]; simp
  have g1 : wr.grownBy w1 pv.ownBlock := by
    have b : Below wr.heap.size wr w0 := by rw [e0]; exact (Below.refl _ _).alloc (Nat.le_refl _) _
    exact grown_trans (grown_below b) g
  have hp1 : w1.heap[pb]? = _ := (g1.block _ h.ltp (fun e => h.apart e.symm)).trans h.part
  have hset : (w1.setCell ⟨pb, 4, none⟩ v').heap[pb]? = some (.cells #[.int .i64 kind, .slice none 0 0, .bool false, .bool false, v', .int .i32 0] 156 (0, 0)) := by
    unfold World.setCell
    simp only [Array.getElem?_modify, ↓reduceIte, hp1, Option.map_some]
    rfl
  have gs : w1.grownBy (w1.setCell ⟨pb, 4, none⟩ v') (some pb) := grown_setCell _ _ _ _
  have hv : v'.ownBlock ≠ some pb := by
    rcases at_ with e | e
    · rw [e]; exact h.apart
    · rw [e]; intro e2
      have : w0.heap.size = pb := Option.some.inj e2
      have := h.ltp; omega
  have rne : some r ≠ pv.ownBlock := fun e => by have := h.own.lt r e.symm; omega
  have keep : ∀ k, k < wr.heap.size → some k ≠ pv.ownBlock → k ≠ pb → (w1.setCell ⟨pb, 4, none⟩ v').heap[k]? = wr.heap[k]? := fun k h1 h2 h3 =>
    (gs.block k (Nat.lt_of_lt_of_le h1 g1.size) (fun e => h3 (Option.some.inj e))).trans (g1.block k h1 h2)
  have hlo := h.lo
  have hgs := h.grown.size
  refine ⟨by unfold World.cell?; rw [hp1]; rfl, by unfold World.frozen?; rw [hp1]; rfl, ?_, ?_, ?_, h.lo, hset, ?_, hv, ?_, ?_⟩
  · obtain ⟨p, hrd, hpos⟩ := h.here
    have kr := keep r hrd.lt rne (by omega)
    have kk : ∀ j, (w1.setCell ⟨pb, 4, none⟩ v').cell? ⟨r, j, none⟩ = wr.cell? ⟨r, j, none⟩ := fun j => World.cell?_of_block (a := ⟨r, j, none⟩) kr
    exact ⟨p, ⟨(kk 0).trans hrd.s, (kk 1).trans hrd.p, (kk 2).trans hrd.d, (kk 3).trans hrd.z, fun j => (World.frozen?_of_block (a := ⟨r, j, none⟩) kr).trans (hrd.free j), Nat.lt_of_lt_of_le hrd.lt (by rw [World.size_setCell]; exact g1.size)⟩, hpos⟩
  · refine ⟨g1.os.trans h.grown.os, g1.tape.trans h.grown.tape, g1.output.trans h.grown.output, by rw [World.size_setCell]; exact Nat.le_trans hgs g1.size, fun k hk hne => ?_⟩
    rw [keep k (Nat.lt_of_lt_of_le hk hgs) (fun e => by have := h.own.lt k e.symm; omega) (by omega)]
    exact h.grown.block k hk hne
  · have ht := h.tabs
    have kk : ∀ {b j u}, b < 8 → wr.cell? ⟨b, j, none⟩ = some u → (w1.setCell ⟨pb, 4, none⟩ v').cell? ⟨b, j, none⟩ = some u := fun {b j u} hb hu =>
      (World.cell?_of_block (a := ⟨b, j, none⟩) (keep b (World.block_lt_of_cell? wr _ hu) (fun e => by have := h.own.lt b e.symm; omega) (by omega))).trans hu
    exact ⟨fun c hc => kk (by omega) (ht.1 c hc), fun i hi => ⟨kk (by omega) (ht.2 i hi).1, kk (by omega) (ht.2 i hi).2⟩⟩
  · have e : ptrs (ps ++ [(nb, f)]) = ptrs ps ++ [.pointer (some ⟨nb, 0, none⟩)] := by unfold ptrs; simp
    rw [e, List.length_append]
    exact own.kept gs (by
      cases hv' : v'.ownBlock with
      | none => exact Or.inl rfl
      | some k => rw [hv'] at hv; exact Or.inr hv)
  · obtain ⟨F, hF, hD⟩ := h.den
    obtain ⟨G, hG, hN⟩ := hm
    have sz : wr.heap.size ≤ (w1.setCell ⟨pb, 4, none⟩ v').heap.size := by rw [World.size_setCell]; exact g1.size
    refine ⟨fun k => F k ∨ G k, fun k hk => ?_, fun p hp => ?_⟩
    · have h5 : w.heap.size ≤ k ∧ k < wr.heap.size ∧ k ≠ pb ∧ some k ≠ pv.ownBlock := by
        rcases hk with hk | hk
        · exact hF k hk
        · exact hG k hk
      refine ⟨h5.1, Nat.lt_of_lt_of_le h5.2.1 sz, h5.2.2.1, ?_⟩
      rcases at_ with e | e
      · rw [e]; exact h5.2.2.2
      · rw [e]; intro e2
        have : k = w0.heap.size := Option.some.inj e2
        omega
    · rcases List.mem_append.1 hp with hp | hp
      · exact (hD p hp).move sz (fun k hk => keep k (hF k hk).2.1 (hF k hk).2.2.2 (hF k hk).2.2.1) (fun _ h => Or.inl h)
      · have e : p = (nb, f) := by simpa using hp
        subst e
        exact hN.move sz (fun k hk => keep k (hG k hk).2.1 (hG k hk).2.2.2 (hG k hk).2.2.1) (fun _ h => Or.inr h)
  · intro p hp
    rcases List.mem_append.1 hp with hp | hp
    · exact h.len p hp
    · have e : p = (nb, f) := by simpa using hp
      subst e; exact hk

theorem Pa.parts (h : Pa kind fr w wr pb r s d z pv ps l) : (∀ k, pv.ownBlock = some k → w.heap.size ≤ k ∧ k < wr.heap.size) ∧ PartAt wr pb kind pv 0 ∧ Parts fr (fun k => w.heap.size ≤ k ∧ k < wr.heap.size) wr pv ps := by
  refine ⟨fun k hk => h.own.lt k hk, ⟨_, _, _, h.part⟩, ⟨?_, fun p hp => ?_, h.len⟩⟩
  · refine ⟨h.own.1, ?_⟩
    rcases h.own.2 with h1 | ⟨g, cap, cur, e1, e2, e3⟩
    · exact Or.inl h1
    · exact Or.inr ⟨g, cap, cur, e1, Nat.zero_le _, e3⟩
  · obtain ⟨F, hF, hD⟩ := h.den
    exact (hD p hp).move (Nat.le_refl _) (fun _ _ => rfl) (fun k hk => ⟨(hF k hk).1, (hF k hk).2.1⟩)
end
theorem Pa.many {w wr : World} {pb r : Nat} {s : ByteArray} {d z : Int} {pv : Value} {ps : List (Nat × Fi)} {l : List Int} (h : Pa 1 true w wr pb r s d z pv ps l) (hlen : ps.length ≤ 4000000) : Den false (fun k => w.heap.size ≤ k ∧ k < wr.heap.size) wr pb (manyF (ps.map (·.2))) :=
  den_many _ pb wr ps pv 0 (fun _ hk => hk.2) ⟨h.lo, h.ltp⟩ h.parts.1 h.parts.2.1 h.parts.2.2 hlen
theorem Pa.alike {w wr : World} {pb r : Nat} {s : ByteArray} {d z : Int} {pv : Value} {ps : List (Nat × Fi)} {l : List Int} (h : Pa 2 false w wr pb r s d z pv ps l) (hlen : ps.length ≤ 4000000) : Den true (fun k => w.heap.size ≤ k ∧ k < wr.heap.size) wr pb (alikeF (ps.map (·.2))) :=
  den_alike _ pb wr ps pv 0 (fun _ hk => hk.2) ⟨h.lo, h.ltp⟩ h.parts.1 h.parts.2.1 h.parts.2.2 hlen
end Go.Proofs.YtmbfpichaaanpaaGreatDoor

/-! A branch, read. -/
namespace Go.Proofs.YtmbfpichaaanpaaGreatDoor
open Go.RowKit Ut Rx

set_option maxRecDepth 100000 in
theorem infoPt : (Tryz.prog.info? 125).map (fun i => (i.zero, i.size, i.bytes)) = some (some (.pointer none), 1, 8) := by kernel_rfl
theorem Pa.start {kind : Int} {fr : Bool} {w wr : World} {r : Nat} {s : ByteArray} {d z : Int} {l : List Int} (h : At wr r s l d z) (g : w.grownBy wr (some r)) (hT : Lib.Utf8Tabs 6 7 wr) :
    Pa kind fr w (wr.alloc (.cells #[.int .i64 kind, .slice none 0 0, .bool false, .bool false, .slice none 0 0, .int .i32 0] 156)) wr.heap.size r s d z (.slice none 0 0) [] l := by
  have b : Below wr.heap.size wr (wr.alloc (.cells #[.int .i64 kind, .slice none 0 0, .bool false, .bool false, .slice none 0 0, .int .i32 0] 156)) := (Below.refl _ _).alloc (Nat.le_refl _) _
  exact ⟨h.below b, grown_then g b, tabs_below hT b, g.size, heap_alloc_new wr _, World.ownsRow_nil _ _ _ _, by simp [Value.ownBlock], ⟨fun _ => False, fun _ h => h.elim, fun p hp => by cases hp⟩, fun p hp => by cases hp⟩
theorem More.call {fr : Bool} {w wr w' : World} {pb r nb : Nat} {pv : Value} {f : Fi} (h : More fr w wr pb pv nb f) (lt : r < w.heap.size) (g : wr.grownBy w' (some r)) : More fr w w' pb pv nb f := by
  obtain ⟨G, hG, hD⟩ := h
  refine ⟨G, fun k hk => ?_, hD.move g.size (fun k hk => g.block k (hG k hk).2.1 (fun e => by have : k = r := Option.some.inj e; have := (hG k hk).1; omega)) (fun _ h => h)⟩
  obtain ⟨a, b, c⟩ := hG k hk
  exact ⟨a, Nat.lt_of_lt_of_le b g.size, c⟩
/-- what was just read is one more -/
theorem Pa.more {kind : Int} {fr fr' : Bool} {w wr w1 : World} {pb r nb : Nat} {s : ByteArray} {d z : Int} {pv : Value} {ps : List (Nat × Fi)} {l : List Int} {f : Fi} (h : Pa kind fr w wr pb r s d z pv ps l) (hd : Den fr' (fun k => wr.heap.size ≤ k ∧ k < w1.heap.size) w1 nb f) : More fr' w w1 pb pv nb f := by
  refine ⟨_, fun k hk => ⟨Nat.le_trans h.grown.size hk.1, hk.2, fun e => ?_, fun e => ?_⟩, hd⟩
  · have := h.ltp; omega
  · have := (h.own.lt k e.symm).2; omega
/-- with a sign behind it -/
theorem More.again {w wr : World} {pb nb : Nat} {pv : Value} {f : Fi} (h : More true w wr pb pv nb f) (hk : Keeps f) (hpb : pb < wr.heap.size) (hw : w.heap.size ≤ wr.heap.size) (hpv : ∀ k, pv.ownBlock = some k → k < wr.heap.size) (sg : Int) :
    More true w ((wr.alloc (.cells #[.pointer (some ⟨nb, 0, none⟩)] 125)).alloc (.cells #[.int .i64 3, .slice none 0 0, .bool false, .bool false, .slice (some ⟨wr.heap.size, 0, none⟩) 1 1, .int .i32 sg] 156)) pb pv (wr.heap.size + 1) (oftenF f sg) := by
  obtain ⟨G, hG, hD⟩ := h
  have sz : ((wr.alloc (.cells #[.pointer (some ⟨nb, 0, none⟩)] 125)).alloc (.cells #[.int .i64 3, .slice none 0 0, .bool false, .bool false, .slice (some ⟨wr.heap.size, 0, none⟩) 1 1, .int .i32 sg] 156)).heap.size = wr.heap.size + 1 + 1 := by simp
  have sz1 : (wr.alloc (.cells #[.pointer (some ⟨nb, 0, none⟩)] 125)).heap.size = wr.heap.size + 1 := by simp
  have old : ∀ k, k < wr.heap.size → ((wr.alloc (.cells #[.pointer (some ⟨nb, 0, none⟩)] 125)).alloc (.cells #[.int .i64 3, .slice none 0 0, .bool false, .bool false, .slice (some ⟨wr.heap.size, 0, none⟩) 1 1, .int .i32 sg] 156)).heap[k]? = wr.heap[k]? := fun k hk => by
    rw [heap_alloc_old _ _ (show k < _ by omega), heap_alloc_old _ _ hk]
  refine ⟨fun k => G k ∨ k = wr.heap.size ∨ k = wr.heap.size + 1, fun k hk => ?_, ?_⟩
  · rw [sz]
    rcases hk with hk | rfl | rfl
    · obtain ⟨a, b, c⟩ := hG k hk
      exact ⟨a, by omega, c⟩
    · exact ⟨hw, by omega, by omega, fun e => by have := hpv _ e.symm; omega⟩
    · exact ⟨by omega, by omega, by omega, fun e => by have := hpv _ e.symm; omega⟩
  · refine den_again _ (wr.heap.size + 1) _ nb f (.slice (some ⟨wr.heap.size, 0, none⟩) 1 1) sg (fun k hk => ?_) (Or.inr (Or.inr rfl)) (fun k hk => ?_) ⟨.slice none 0 0, false, false, ?_⟩ ⟨?_, fun p hp => ?_, fun p hp => ?_⟩
    · rw [sz]
      rcases hk with hk | rfl | rfl
      · have := (hG k hk).2.1; omega
      · omega
      · omega
    · have : wr.heap.size = k := Option.some.inj hk
      exact Or.inr (Or.inl this.symm)
    · rw [← sz1]; exact heap_alloc_new _ _
    · refine ⟨rfl, Or.inr ⟨wr.heap.size, 1, #[.pointer (some ⟨nb, 0, none⟩)], rfl, Nat.zero_le _, ?_, Nat.le_refl _, by unfold maxLen; omega, rfl, rfl⟩⟩
      rw [heap_alloc_old _ _ (show wr.heap.size < _ by rw [sz1]; omega)]
      exact heap_alloc_new wr _
    · have e : p = (nb, f) := by simpa using hp
      subst e
      exact hD.move (by rw [sz]; omega) (fun k hk => old k (hG k hk).2.1) (fun _ h => Or.inl h)
    · have e : p = (nb, f) := by simpa using hp
      subst e; exact hk

def contB (l : List Int) : Bool := decide (pk l ≥ 0) && pk l != 124 && pk l != 41
theorem contB_ways (l : List Int) : (contB l = true ∧ (0 : Int) ≤ pk l ∧ (pk l != 124) = true ∧ (pk l != 41) = true) ∨ (contB l = false ∧ pk l < 0) ∨ (contB l = false ∧ (0 : Int) ≤ pk l ∧ (pk l != 124) = false) ∨ (contB l = false ∧ (0 : Int) ≤ pk l ∧ (pk l != 124) = true ∧ (pk l != 41) = false) := by
  unfold contB
  by_cases h1 : (0 : Int) ≤ pk l
  · cases h2 : (pk l != 124) <;> cases h3 : (pk l != 41) <;> simp [h1]
  · simp [h1]; omega
theorem signB_ways (c : Int) : (signB c = true ∧ (c == 42) = true) ∨ (signB c = true ∧ (c == 42) = false ∧ (c == 43) = true) ∨ (signB c = true ∧ (c == 42) = false ∧ (c == 43) = false ∧ (c == 63) = true) ∨ (signB c = false ∧ (c == 42) = false ∧ (c == 43) = false ∧ (c == 63) = false) := by
  unfold signB
  cases h1 : (c == 42) <;> cases h2 : (c == 43) <;> cases h3 : (c == 63) <;> simp

/-- a piece, read: the part in slot 5 -/
def Piece (w wx : World) (pb r : Nat) (s : ByteArray) (d : Nat) (pv : Value) (ps : List (Nat × Fi)) (m : Nat) (acc : Pat) (res : Out) (v5 : Value) : Prop :=
  ∃ nb z p u, v5 = .pointer (some ⟨nb, 0, none⟩) ∧ parF m (.bra (.cat acc p)) d u = some res ∧ Pa 1 true w wx pb r s d z pv ps u ∧ More true w wx pb pv nb (den p)

set_option maxRecDepth 100000 in
set_option maxHeartbeats 4000000 in
theorem branch_of (n : Nat) (hn : n ≤ 900000) (ih : ∀ m, m < n → CAtom m) : CBra n := by
  intro d l res hres r s z w h hr hT hs hd
  have lt := h.lt
  obtain ⟨i0, hi, hz0, hz1, hz2⟩ := info_parts infoPt
  have I0 : Hid (i0.zero = some (.pointer none) ∧ i0.size = 1 ∧ i0.bytes = 8 ∧ Tryz.prog.info? 125 = some i0) := ⟨hz0, hz1, hz2, hi⟩
  have P0 : Hid (Pa 1 true w (w.alloc (.cells #[.int .i64 1, .slice none 0 0, .bool false, .bool false, .slice none 0 0, .int .i32 0] 156)) w.heap.size r s d z (.slice none 0 0) [] l) := Pa.start h (grown_refl _ _) hT
  have RES := Lib.hid hres
  clear h hT hz0 hz1 hz2 hi hres
  go_enter Tryz.func146, Tryz.ntmps146
  go_wp2_with fail
  refine (peek_at r s l d z _ P0.out.here P0.out.tabs).mono ?_
  rintro e w1 ⟨rfl, hb1⟩
  have P1 := Lib.hid (P0.out.below hr lt hb1)
  clear hb1 P0
  go_wp2_with fail
  go_loopg [4] n (fun gk vc wr => ∃ z pv ps acc l', vc = .int .i32 (pk l') ∧ ps.length + gk ≤ 1000000 ∧ gk ≤ n ∧ Hid (parF gk (.bra acc) d l' = some res) ∧ Hid (Pa 1 true w wr w.heap.size r s d z pv ps l') ∧ Hid (∀ l v, v.length = l.length + 1 → manyF (ps.map (·.2)) l v = den acc l v))
  case atStart => exact ⟨z, _, [], .nil, l, rfl, by simp; omega, Nat.le_refl _, RES.out, P1.out, fun l v _ => rfl⟩
  case round =>
    obtain ⟨z, pv, ps, acc, l', rfl, hlen, hgn, HC, HP, HM⟩ := hrel
    clear P1 RES
    cases gk with
    | zero => exact absurd HC.out (by simp [parF])
    | succ m =>
      go_upto_region 3 with fail
      go_cut [20] (fun vt wx => vt = .bool (contB l') ∧ wx = wr)
      case first =>
        rcases contB_ways l' with ⟨h0, h1, h2, h3⟩ | ⟨h0, h1⟩ | ⟨h0, h1, h2⟩ | ⟨h0, h1, h2, h3⟩
        · have H0 := Lib.hid h0
          clear h0
          go_wp2_with fail
          go_meet
          case rel => exact ⟨by rw [H0.out], rfl⟩
        · have h1d : decide ((0 : Int) ≤ pk l') = false := by simpa using h1
          have H0 := Lib.hid h0
          clear h0
          go_wp2_with fail
          go_meet
          case rel => exact ⟨by rw [H0.out], rfl⟩
        · have H0 := Lib.hid h0
          clear h0
          go_wp2_with fail
          go_meet
          case rel => exact ⟨by rw [H0.out], rfl⟩
        · have H0 := Lib.hid h0
          clear h0
          go_wp2_with fail
          go_meet
          case rel => exact ⟨by rw [H0.out], rfl⟩
      case rest =>
        obtain ⟨rfl, rfl⟩ := hcut
        by_cases hgo : contB l' = true
        · have HC2 : Hid (thenF (parF m .atom d l') (fun p l => if signB (pk l) then parF m (.bra (.cat acc (.again p (pk l)))) d l.tail else parF m (.bra (.cat acc p)) d l) = some res) := by
            have := HC.out
            rw [parF, if_pos (show (decide (pk l' ≥ 0) && pk l' != 124 && pk l' != 41) = true from hgo)] at this
            exact this
          have hpk : pk l' ≥ 0 := by
            unfold contB at hgo
            simp only [Bool.and_eq_true, decide_eq_true_eq] at hgo
            exact hgo.1.1
          cases hp : parF m .atom d l' with
          | none => exact absurd HC2.out (by rw [hp]; simp [thenF])
          | some rp =>
            have IH := Lib.hid (ih m (by omega) d l' rp hp hpk r s z _ HP.out.here hr HP.out.tabs hs hd)
            have R2 := HC2.out
            rw [hp] at R2
            rw [hgo]
            clear hgo hpk HC hp HC2
            go_wp2_with fail
            refine IH.out.mono ?_
            rintro e w2 ⟨g2, h2⟩
            cases rp with
            | error er =>
              obtain ⟨at_, rfl⟩ := h2
              have E : res = .error er := (Option.some.inj R2).symm
              rw [E]
              exact ⟨rfl, grown_trans HP.out.grown g2, ⟨_, rfl⟩⟩
            | ok x =>
              obtain ⟨p, u⟩ := x
              obtain ⟨nb, z2, rfl, hat, hden⟩ := h2
              have R3 : Hid ((if signB (pk u) then parF m (.bra (.cat acc (.again p (pk u)))) d u.tail else parF m (.bra (.cat acc p)) d u) = some res) := R2
              have HP2 := Lib.hid (HP.out.call hr lt g2 hat)
              have MO2 : Hid (More true w w2 w.heap.size pv nb (den p)) := HP.out.more hden
              clear IH R2 hat hden g2 HP
              go_wp2_with fail
              refine (peek_at r s u _ z2 w2 HP2.out.here HP2.out.tabs).mono ?_
              rintro e w3 ⟨rfl, hb3⟩
              have HP3 := Lib.hid (HP2.out.below hr lt hb3)
              have MO3 := Lib.hid (MO2.out.call lt (grown_below hb3))
              clear hb3 HP2 MO2
              go_upto_region 7 with fail
              go_cut [36] (fun vt wx => vt = .bool (signB (pk u)) ∧ wx = w3)
              case first =>
                rcases signB_ways (pk u) with ⟨h0, h1⟩ | ⟨h0, h1, h2⟩ | ⟨h0, h1, h2, h3⟩ | ⟨h0, h1, h2, h3⟩
                all_goals
                  have H0 := Lib.hid h0
                  clear h0
                  go_wp2_with fail
                  go_meet
                  case rel => exact ⟨by rw [H0.out], rfl⟩
              case rest =>
                obtain ⟨rfl, rfl⟩ := hcut
                go_upto_if 36 with fail
                go_cut [5] (fun v5 wx => Piece w wx w.heap.size r s d pv ps m acc res v5)
                case first =>
                  cases hsg : signB (pk u) with
                  | true =>
                    obtain ⟨c, u', rfl⟩ : ∃ c u', u = c :: u' := by
                      cases u with
                      | nil => cases hsg
                      | cons c u' => exact ⟨c, u', rfl⟩
                    have hpc : pk (c :: u') = c := rfl
                    have R4 : Hid (parF m (.bra (.cat acc (.again p c))) d u' = some res) := by
                      have := R3.out
                      rw [if_pos hsg] at this
                      exact this
                    rw [hpc]
                    clear hsg hpc R3
                    go_wp2_with fail
                    refine (skip_any r s c u' _ z2 _ HP3.out.here hs).mono ?_
                    rintro e w4 ⟨rfl, h4, g4⟩
                    have HP4 := Lib.hid (HP3.out.call hr lt g4 h4)
                    have MO4 := Lib.hid (MO3.out.call lt g4)
                    clear h4 g4 HP3 MO3
                    go_wp2_with fail
                    go_meet
                    case rel =>
                      refine ⟨w4.heap.size + 1, z2, .again p c, u', rfl, R4.out, HP4.out.below hr lt ?_, MO4.out.again (den_keeps p) HP4.out.ltp HP4.out.grown.size (fun k hk => (HP4.out.own.lt k hk).2) c⟩
                      exact ((Below.refl _ _).alloc (Nat.le_refl _) _).alloc (by simp) _
                  | false =>
                    have R4 : Hid (parF m (.bra (.cat acc p)) d u = some res) := by
                      have := R3.out
                      rw [if_neg (by rw [hsg]; simp)] at this
                      exact this
                    clear hsg R3
                    go_wp2_with fail
                    go_meet
                    case rel => exact ⟨nb, z2, p, u, rfl, R4.out, HP3.out, MO3.out⟩
                case rest =>
                  clear HP3 MO3 R3
                  obtain ⟨nb, z3, p, u, rfl, hr4, hpa, hmo⟩ := hcut
                  have R4 := Lib.hid hr4
                  have HP4 := Lib.hid hpa
                  have MO4 := Lib.hid hmo
                  have kc0 := hpa.cell
                  have OW := Lib.hid (fun (o : Obj) => hpa.own.alloc o)
                  have SZ := Lib.hid hpa.grown.size
                  clear hr4 hpa hmo
                  go_wp2_with (at_builtin; refine wpList_append_own_at _ rfl (.tmp 49) (.tmp 51) 153 rfl w.heap.size 125 i0 (.pointer none) 1 8 Tryz.underlying153 I0.out.2.2.2 I0.out.1 I0.out.2.1 I0.out.2.2.1 rfl (by decide) _ ps.length _ rfl (OW.out _) _ 1 1 [.pointer (some ⟨nb, 0, none⟩)] rfl rfl ?c1 ?c2 (by unfold maxLen; omega) (by omega) ?c3 ?_)
                  case c1 =>
                    intro j u hu
                    cases j with
                    | zero =>
                      have : u = .pointer (some ⟨nb, 0, none⟩) := by simpa using hu.symm
                      subst this
                      exact World.cell?_alloc_at _ _ _ _ rfl
                    | succ j => simp at hu
                  case c2 => intro u hu; have : u = .pointer (some ⟨nb, 0, none⟩) := (by simpa using hu); subst this; rfl
                  case c3 => have := SZ.out; simp; omega
                  intro v' w5 own5 grow5 _ at5
                  obtain ⟨A5, n5, c5, rfl⟩ := ownsRow_is own5
                  obtain ⟨kc5, kf5, HP5'⟩ := HP4.out.appended hr lt MO4.out (den_keeps p) rfl own5 grow5 (by simpa using at5)
                  have HP5 := Lib.hid HP5'
                  clear HP5' own5 grow5 at5 kc0
                  go_wp2_with fail
                  refine (peek_at r s u _ z3 _ HP5.out.here HP5.out.tabs).mono ?_
                  rintro e w6 ⟨rfl, hb6⟩
                  have HP6 := Lib.hid (HP5.out.below hr lt hb6)
                  clear hb6 HP5
                  go_wp2_with fail
                  go_roundg m
                  case measure => omega
                  case rel =>
                    refine ⟨z3, _, _, .cat acc p, u, rfl, by rw [List.length_append]; simp only [List.length_cons, List.length_nil]; omega, by omega, R4, HP6, fun l v hv => ?_⟩
                    have := HM.out l v hv
                    simp only [den, ← this]
                    simp [manyF, List.map_append, List.foldl_append]
        · have E : Hid (res = .ok (acc, l')) := by
            have := HC.out
            rw [parF, if_neg (by unfold contB at hgo; exact hgo)] at this
            exact (Option.some.inj this).symm
          have hgf : contB l' = false := by simpa using hgo
          rw [hgf]
          clear hgo hgf HC
          go_wp2_with fail
          go_ret
          rw [E.out]
          exact ⟨HP.out.grown, w.heap.size, z, rfl, HP.out.here, (HP.out.many (by omega)).congr HM.out⟩
end Go.Proofs.YtmbfpichaaanpaaGreatDoor
