import Derived.Test.YthhbbmebfmfgjaaGreatDoorR3
/-! An expression of one number, checked: the walks, at one number. -/
namespace Go.Proofs.YthhbbmebfmfgjaaGreatDoor
open Go.RowKit

set_option maxRecDepth 100000 in
theorem ops_num (w : World) : Calls Tryz.prog 140 #[.int .i64 0] w fun e w' => e = .returned (.int .i64 0) ∧ w' = w := by
  go_enter Tryz.func140, Tryz.ntmps140
  go_wp2
  go_ret
  exact ⟨rfl, rfl⟩

set_option maxRecDepth 100000 in
theorem takes_num (v : Int) (A4 : Option Addr) (c4 : Nat) (A7 : Option Addr) (c7 : Nat) (w : World) :
    Calls Tryz.prog 110 #[.agg #[.int .i64 0, .int .i64 0, .int .u64 v, .int .u64 0, .slice A4 0 c4, .bool false, .bool false, .slice A7 0 c7]] w fun e w' => e = .returned (.int .i64 0) ∧ w' = w.alloc (.cells #[.int .i64 0, .int .i64 0, .int .u64 v, .int .u64 0, .slice A4 0 c4, .bool false, .bool false, .slice A7 0 c7] 66) := by
  go_enter Tryz.func110, Tryz.ntmps110
  go_wp2
  go_ret
  exact ⟨rfl, rfl⟩

set_option maxRecDepth 100000 in
theorem plain_num (v : Int) (A4 : Option Addr) (c4 : Nat) (A7 : Option Addr) (c7 : Nat) (w : World) :
    Calls Tryz.prog 141 #[.agg #[.int .i64 0, .int .i64 0, .int .u64 v, .int .u64 0, .slice A4 0 c4, .bool false, .bool false, .slice A7 0 c7]] w fun e w' => e = .returned (.bool true) ∧ w' = w.alloc (.cells #[.int .i64 0, .int .i64 0, .int .u64 v, .int .u64 0, .slice A4 0 c4, .bool false, .bool false, .slice A7 0 c7] 66) := by
  go_enter Tryz.func141, Tryz.ntmps141
  go_wp2
  go_ret
  exact ⟨rfl, rfl⟩



set_option maxRecDepth 100000 in
theorem alone_num (v : Int) (A4 : Option Addr) (c4 : Nat) (A7 : Option Addr) (c7 : Nat) (w : World) :
    Calls Tryz.prog 109 #[.agg #[.int .i64 0, .int .i64 0, .int .u64 v, .int .u64 0, .slice A4 0 c4, .bool false, .bool false, .slice A7 0 c7]] w fun e w' => e = .returned (.int .i64 0) ∧ w' = (w.alloc (.cells #[.int .i64 0, .int .i64 0, .int .u64 v, .int .u64 0, .slice A4 0 c4, .bool false, .bool false, .slice A7 0 c7] 66)).alloc (.cells #[.int .i64 0, .int .i64 0, .int .u64 v, .int .u64 0, .slice A4 0 c4, .bool false, .bool false, .slice A7 0 c7] 66) := by
  go_enter Tryz.func109, Tryz.ntmps109
  go_wp2_with (first | (go_at_call 140; refine (ops_num _).mono ?_; rintro e w' ⟨rfl, rfl⟩) | (go_at_call 141; refine (plain_num v A4 c4 A7 c7 _).mono ?_; rintro e w' ⟨rfl, rfl⟩))
  go_loopw [75] (fun i wr => i = .int .i64 0 ∧ wr = (w.alloc (.cells #[.int .i64 0, .int .i64 0, .int .u64 v, .int .u64 0, .slice A4 0 c4, .bool false, .bool false, .slice A7 0 c7] 66)).alloc (.cells #[.int .i64 0, .int .i64 0, .int .u64 v, .int .u64 0, .slice A4 0 c4, .bool false, .bool false, .slice A7 0 c7] 66)) (fun _ _ => 0)
  case atStart => exact ⟨rfl, rfl⟩
  case round =>
    obtain ⟨rfl, rfl⟩ := hrel
    go_wp2
    go_ret
    exact ⟨rfl, rfl⟩


theorem cell_last (W : World) (c : Array Value) (t : TypeId) (n : Nat) (x : Value) (hn : n = W.heap.size) (hx : c[0]? = some x) : ((W.alloc (.cells c t)).drew).cell? ⟨n, 0, none⟩ = some x := by
  subst hn
  have h : ((W.alloc (.cells c t)).drew).heap[W.heap.size]? = some (.cells c t (0, 0)) := heap_alloc_new W _
  unfold World.cell?
  simp only [h]
  simpa using hx

/-- a node in memory -/
def NodeAt (w : World) (ad : Addr) (v : Int) (A4 : Option Addr) (c4 : Nat) (A7 : Option Addr) (c7 : Nat) : Prop :=
  w.cell? ad = some (.int .i64 0) ∧ w.cell? ⟨ad.block, ad.off + 1, none⟩ = some (.int .i64 0) ∧ w.cell? ⟨ad.block, ad.off + 2, none⟩ = some (.int .u64 v) ∧ w.cell? ⟨ad.block, ad.off + 3, none⟩ = some (.int .u64 0) ∧ w.cell? ⟨ad.block, ad.off + 4, none⟩ = some (.slice A4 0 c4) ∧ w.cell? ⟨ad.block, ad.off + 5, none⟩ = some (.bool false) ∧ w.cell? ⟨ad.block, ad.off + 6, none⟩ = some (.bool false) ∧ w.cell? ⟨ad.block, ad.off + 7, none⟩ = some (.slice A7 0 c7)

set_option maxRecDepth 100000 in
theorem check_num (ad : Addr) (cap : Nat) (v : Int) (A4 : Option Addr) (c4 : Nat) (A7 : Option Addr) (c7 : Nat) (w : World) (hn : NodeAt w ad v A4 c4 A7 c7) :
    Calls Tryz.prog 79 #[.slice (some ad) 1 cap] w fun e w' => e = .returned (.tuple #[.int .i64 1, .int .i64 0]) ∧ Below w.heap.size w w' := by
  obtain ⟨h0, h1, h2, h3, h4, h5, h6, h7⟩ := hn
  go_enter Tryz.func79, Tryz.ntmps79
  go_wp2
  go_loopw [2, 3, 4, 15] (fun t f l i wr => (i = .int .i64 0 ∧ t = .int .i64 0 ∧ f = .int .i64 0 ∧ l = .slice none 0 0 ∧ wr = w) ∨ (i = .int .i64 1 ∧ t = .int .i64 0 ∧ f = .int .i64 0 ∧ ∃ g cap, l = .slice (some ⟨g, 0, none⟩) 1 cap ∧ wr.cell? ⟨g, 0, none⟩ = some (.int .i64 1) ∧ Below w.heap.size w wr)) (fun _ _ _ i _ => 1 - (intOf i).toNat)
  case atStart => exact .inl ⟨rfl, rfl, rfl, rfl, rfl⟩
  case round =>
    rcases hrel with ⟨rfl, rfl, rfl, rfl, rfl⟩ | ⟨rfl, rfl, rfl, g, cap2, rfl, hg, hb⟩
    · go_wp2_with (first | (go_at_call 109; refine (alone_num v A4 c4 A7 c7 _).mono ?_; rintro e w' ⟨rfl, rfl⟩) | (go_at_call 110; refine (takes_num v A4 c4 A7 c7 _).mono ?_; rintro e w' ⟨rfl, rfl⟩))
      refine ⟨.inr ⟨rfl, rfl, rfl, _, _, rfl, ?_, ?_⟩, by decide⟩
      · exact cell_last _ _ _ _ _ (by simp [go_sem]) (by rw [Array.getElem?_append_left (by simp)]; rfl)
      · repeat (first | exact Below.refl _ _ | apply Below.drew | apply Go.Proofs.YthhbbmebfmfgjaaGreatDoorW.PrintWords.below_alloc)
    · have HB := Lib.hid hb
      clear hb h0 h1 h2 h3 h4 h5 h6 h7
      go_wp2
      go_ret2
      exact ⟨rfl, HB.out⟩
end Go.Proofs.YthhbbmebfmfgjaaGreatDoor

/-! What an expression of one number comes to. -/
namespace Go.Proofs.YthhbbmebfmfgjaaGreatDoor
open Go.RowKit

theorem NodeAt.later {w w' : World} {ad : Addr} {v : Int} {A4 : Option Addr} {c4 : Nat} {A7 : Option Addr} {c7 : Nat} (h : NodeAt w ad v A4 c4 A7 c7) (hb : Below w.heap.size w w') : NodeAt w' ad v A4 c4 A7 c7 := by
  have go : ∀ p x, w.cell? p = some x → w'.cell? p = some x := fun p x hx => (hb.cell (World.block_lt_of_cell? _ _ hx)).trans hx
  exact ⟨go _ _ h.1, go _ _ h.2.1, go _ _ h.2.2.1, go _ _ h.2.2.2.1, go _ _ h.2.2.2.2.1, go _ _ h.2.2.2.2.2.1, go _ _ h.2.2.2.2.2.2.1, go _ _ h.2.2.2.2.2.2.2⟩

/-- what the machine holds in its stack: one number -/
def HeldAt (w : World) (gs : Nat) (v : Int) : Prop :=
  ∃ cap, w.heap[gs]? = some (.cells (#[.int .i64 1, .int .u64 v, .slice none 0 0, .slice none 0 0, .int .u64 0] ++ cap) 121 (0, 0))

open Go.Proofs.YthhbbmebfmfgjaaGreatDoorW.PrintWords in
theorem push_end {B g : Nat} {w : World} {x0 x1 x2 x3 : Value} (hB : B ≤ g) (hg : w.heap[g]? = some (.cells #[x0, x1, x2, x3] 118 (0, 0))) (o1 : Obj) (c2 : Array Value) (u : Value) :
    ((((w.alloc o1).alloc (.cells c2 121)).setCell ⟨g, 3, none⟩ u).drew).heap[g]? = some (.cells #[x0, x1, x2, u] 118 (0, 0)) ∧
    ((((w.alloc o1).alloc (.cells c2 121)).setCell ⟨g, 3, none⟩ u).drew).heap[w.heap.size + 1]? = some (.cells c2 121 (0, 0)) ∧
    Below B w ((((w.alloc o1).alloc (.cells c2 121)).setCell ⟨g, 3, none⟩ u).drew) := by
  have hl := blk_lt hg
  refine ⟨blk_drew (blk_set (blk_alloc (blk_alloc hg o1) (.cells c2 121)) 3 u), ?_, ?_⟩
  · have h : (w.alloc o1).heap.size = w.heap.size + 1 := by simp
    have h2 := blk_new (w.alloc o1) (.cells c2 121)
    rw [h] at h2
    exact blk_drew (blk_far h2 (by simp; omega) u)
  · have hB2 : B ≤ w.heap.size := by omega
    exact ((((Below.refl B w).alloc hB2 o1).alloc (by simp; omega) _).setCell hB u).drew

set_option maxRecDepth 100000 in
theorem scalar_any (B g : Nat) (v : Int) (A : Option Addr) (n c : Nat) (t : Int) (back : Int) (w : World) (hB : B ≤ g)
    (hg : w.heap[g]? = some (.cells #[.slice A n c, .int .i64 t, .int .u64 back, .slice none 0 0] 118 (0, 0))) :
    Calls Tryz.prog 113 #[.pointer (some ⟨g, 0, none⟩), .int .u64 v] w fun e w' => e = .returned (.int .i64 0) ∧
      ∃ gs cap, w'.heap[g]? = some (.cells #[.slice A n c, .int .i64 t, .int .u64 back, .slice (some ⟨gs, 0, none⟩) 1 cap] 118 (0, 0)) ∧ HeldAt w' gs v ∧ B ≤ gs ∧ Below B w w' := by
  have h3 : w.cell? ⟨g, 3, none⟩ = some (.slice none 0 0) := (Go.Proofs.YthhbbmebfmfgjaaGreatDoorW.PrintWords.blk_cell hg 3).trans rfl
  have f3 : ∀ o1 o2, (((w.alloc o1).alloc o2).drew).frozen? ⟨g, 3, none⟩ = false := fun o1 o2 => Go.Proofs.YthhbbmebfmfgjaaGreatDoorW.PrintWords.blk_frozen (Go.Proofs.YthhbbmebfmfgjaaGreatDoorW.PrintWords.blk_drew (Go.Proofs.YthhbbmebfmfgjaaGreatDoorW.PrintWords.blk_alloc (Go.Proofs.YthhbbmebfmfgjaaGreatDoorW.PrintWords.blk_alloc hg o1) o2)) 3
  have c3 : ∀ o1 o2, ((w.alloc o1).alloc o2).cell? ⟨g, 3, none⟩ = some (.slice none 0 0) := fun o1 o2 => (Go.Proofs.YthhbbmebfmfgjaaGreatDoorW.PrintWords.blk_cell (Go.Proofs.YthhbbmebfmfgjaaGreatDoorW.PrintWords.blk_alloc (Go.Proofs.YthhbbmebfmfgjaaGreatDoorW.PrintWords.blk_alloc hg o1) o2) 3).trans rfl
  have HG := Lib.hid hg
  have HB := Lib.hid hB
  clear hg hB
  go_enter Tryz.func113, Tryz.ntmps113
  go_wp2
  go_ret
  have hl := Go.Proofs.YthhbbmebfmfgjaaGreatDoorW.PrintWords.blk_lt HG.out
  have hb := HB.out
  exact ⟨rfl, _, _, (push_end HB.out HG.out _ _ _).1, ⟨_, (push_end HB.out HG.out _ _ _).2.1⟩, by omega, (push_end HB.out HG.out _ _ _).2.2⟩

set_option maxRecDepth 100000 in
theorem does_num (B g : Nat) (v : Int) (A : Option Addr) (n c : Nat) (t : Int) (back : Int) (A4 : Option Addr) (c4 : Nat) (A7 : Option Addr) (c7 : Nat) (w : World) (hB : B ≤ g)
    (hg : w.heap[g]? = some (.cells #[.slice A n c, .int .i64 t, .int .u64 back, .slice none 0 0] 118 (0, 0))) :
    Calls Tryz.prog 80 #[.pointer (some ⟨g, 0, none⟩), .agg #[.int .i64 0, .int .i64 0, .int .u64 v, .int .u64 0, .slice A4 0 c4, .bool false, .bool false, .slice A7 0 c7]] w fun e w' => e = .returned (.int .i64 0) ∧
      ∃ gs cap, w'.heap[g]? = some (.cells #[.slice A n c, .int .i64 t, .int .u64 back, .slice (some ⟨gs, 0, none⟩) 1 cap] 118 (0, 0)) ∧ HeldAt w' gs v ∧ B ≤ gs ∧ Below B w w' := by
  have hl : B ≤ w.heap.size := by have := Go.Proofs.YthhbbmebfmfgjaaGreatDoorW.PrintWords.blk_lt hg; omega
  have c := fun o => scalar_any B g v A n c t back (w.alloc o) hB (Go.Proofs.YthhbbmebfmfgjaaGreatDoorW.PrintWords.blk_alloc hg o)
  have HL := Lib.hid hl
  clear hg hB hl
  go_enter Tryz.func80, Tryz.ntmps80
  go_wp2_with (first | (go_at_call 113; refine (c _).mono ?_; rintro e w' ⟨rfl, gs, cap, q1, q2, q3, q4⟩; have Q := Lib.hid (And.intro q1 (And.intro q2 (And.intro q3 q4))); clear q1 q2 q3 q4))
  go_ret
  obtain ⟨q1, q2, q3, q4⟩ := Q.out
  exact ⟨rfl, gs, cap, q1, q2, q3, ((Below.refl B w).alloc HL.out _).trans q4⟩
end Go.Proofs.YthhbbmebfmfgjaaGreatDoor

/-! What an expression of one number comes to: the stack's last. -/
namespace Go.Proofs.YthhbbmebfmfgjaaGreatDoor
open Go.RowKit

open Go.Proofs.YthhbbmebfmfgjaaGreatDoorW.PrintWords in
theorem HeldAt.cells {w : World} {gs : Nat} {v : Int} (h : HeldAt w gs v) : w.cell? ⟨gs, 0, none⟩ = some (.int .i64 1) ∧ w.cell? ⟨gs, 1, none⟩ = some (.int .u64 v) ∧ w.cell? ⟨gs, 2, none⟩ = some (.slice none 0 0) ∧ w.cell? ⟨gs, 3, none⟩ = some (.slice none 0 0) ∧ w.cell? ⟨gs, 4, none⟩ = some (.int .u64 0) := by
  obtain ⟨cap, h⟩ := h
  refine ⟨?_, ?_, ?_, ?_, ?_⟩ <;> (rw [blk_cell h, Array.getElem?_append_left (by simp)]; rfl)

set_option maxRecDepth 100000 in
theorem pop_num (B g gs cap : Nat) (v : Int) (A : Option Addr) (n c : Nat) (t : Int) (back : Int) (w : World) (hB : B ≤ g)
    (hg : w.heap[g]? = some (.cells #[.slice A n c, .int .i64 t, .int .u64 back, .slice (some ⟨gs, 0, none⟩) 1 cap] 118 (0, 0))) (hs : HeldAt w gs v) :
    Calls Tryz.prog 81 #[.pointer (some ⟨g, 0, none⟩)] w fun e w' => e = .returned (.agg #[.int .i64 1, .int .u64 v, .slice none 0 0, .slice none 0 0, .int .u64 0]) ∧ Below B w w' := by
  have hl : B ≤ w.heap.size := by have := Go.Proofs.YthhbbmebfmfgjaaGreatDoorW.PrintWords.blk_lt hg; omega
  have c3 : w.cell? ⟨g, 3, none⟩ = some (.slice (some ⟨gs, 0, none⟩) 1 cap) := (Go.Proofs.YthhbbmebfmfgjaaGreatDoorW.PrintWords.blk_cell hg 3).trans rfl
  have f3 : w.frozen? ⟨g, 3, none⟩ = false := Go.Proofs.YthhbbmebfmfgjaaGreatDoorW.PrintWords.blk_frozen hg 3
  obtain ⟨s0, s1, s2, s3, s4⟩ := hs.cells
  have c3a : ∀ o, (w.alloc o).cell? ⟨g, 3, none⟩ = some (.slice (some ⟨gs, 0, none⟩) 1 cap) := fun o => (Go.Proofs.YthhbbmebfmfgjaaGreatDoorW.PrintWords.blk_cell (Go.Proofs.YthhbbmebfmfgjaaGreatDoorW.PrintWords.blk_alloc hg o) 3).trans rfl
  have hsa : ∀ o, HeldAt (w.alloc o) gs v := fun o => hs.imp fun _ h => Go.Proofs.YthhbbmebfmfgjaaGreatDoorW.PrintWords.blk_alloc h o
  have s0a : ∀ o, (w.alloc o).cell? ⟨gs, 0, none⟩ = some (.int .i64 1) := fun o => (hsa o).cells.1
  have s1a : ∀ o, (w.alloc o).cell? ⟨gs, 1, none⟩ = some (.int .u64 v) := fun o => (hsa o).cells.2.1
  have s2a : ∀ o, (w.alloc o).cell? ⟨gs, 2, none⟩ = some (.slice none 0 0) := fun o => (hsa o).cells.2.2.1
  have s3a : ∀ o, (w.alloc o).cell? ⟨gs, 3, none⟩ = some (.slice none 0 0) := fun o => (hsa o).cells.2.2.2.1
  have s4a : ∀ o, (w.alloc o).cell? ⟨gs, 4, none⟩ = some (.int .u64 0) := fun o => (hsa o).cells.2.2.2.2
  have hsb : ∀ o1 o2, HeldAt ((w.alloc o1).alloc o2) gs v := fun o1 o2 => (hsa o1).imp fun _ h => Go.Proofs.YthhbbmebfmfgjaaGreatDoorW.PrintWords.blk_alloc h o2
  have c3b : ∀ o1 o2, ((w.alloc o1).alloc o2).cell? ⟨g, 3, none⟩ = some (.slice (some ⟨gs, 0, none⟩) 1 cap) := fun o1 o2 => (Go.Proofs.YthhbbmebfmfgjaaGreatDoorW.PrintWords.blk_cell (Go.Proofs.YthhbbmebfmfgjaaGreatDoorW.PrintWords.blk_alloc (Go.Proofs.YthhbbmebfmfgjaaGreatDoorW.PrintWords.blk_alloc hg o1) o2) 3).trans rfl
  have f3b : ∀ o1 o2, ((w.alloc o1).alloc o2).frozen? ⟨g, 3, none⟩ = false := fun o1 o2 => (Go.Proofs.YthhbbmebfmfgjaaGreatDoorW.PrintWords.blk_frozen (Go.Proofs.YthhbbmebfmfgjaaGreatDoorW.PrintWords.blk_alloc (Go.Proofs.YthhbbmebfmfgjaaGreatDoorW.PrintWords.blk_alloc hg o1) o2) 3)
  have s0b : ∀ o1 o2, ((w.alloc o1).alloc o2).cell? ⟨gs, 0, none⟩ = some (.int .i64 1) := fun o1 o2 => (hsb o1 o2).cells.1
  have s1b : ∀ o1 o2, ((w.alloc o1).alloc o2).cell? ⟨gs, 1, none⟩ = some (.int .u64 v) := fun o1 o2 => (hsb o1 o2).cells.2.1
  have s2b : ∀ o1 o2, ((w.alloc o1).alloc o2).cell? ⟨gs, 2, none⟩ = some (.slice none 0 0) := fun o1 o2 => (hsb o1 o2).cells.2.2.1
  have s3b : ∀ o1 o2, ((w.alloc o1).alloc o2).cell? ⟨gs, 3, none⟩ = some (.slice none 0 0) := fun o1 o2 => (hsb o1 o2).cells.2.2.2.1
  have s4b : ∀ o1 o2, ((w.alloc o1).alloc o2).cell? ⟨gs, 4, none⟩ = some (.int .u64 0) := fun o1 o2 => (hsb o1 o2).cells.2.2.2.2
  have hlg : g < w.heap.size := Go.Proofs.YthhbbmebfmfgjaaGreatDoorW.PrintWords.blk_lt hg
  have hls : gs < w.heap.size := Go.Proofs.YthhbbmebfmfgjaaGreatDoorW.PrintWords.blk_lt hs.choose_spec
  clear hsa hsb
  have HB := Lib.hid hB
  have HL := Lib.hid hl
  clear hg hB hl hs
  go_enter Tryz.func81, Tryz.ntmps81
  go_wp2
  go_region
  all_goals go_wp2
  go_region
  all_goals go_wp2
  have hbel : ∀ u o1 o2, Below B w (((((w.setCell ⟨g, 3, none⟩ u).alloc o1).alloc o2).drew).drew) := fun u o1 o2 =>
    (((((Below.refl B w).setCell HB.out u).alloc (by have := HL.out; simpa using this) o1).alloc (by have := HL.out; simp; omega) o2).drew).drew
  simp [bodyPost, results, Tryz.results81, go_sem]
  exact hbel _ _ _
end Go.Proofs.YthhbbmebfmfgjaaGreatDoor

/-! What an expression of one number comes to, at any time. -/
namespace Go.Proofs.YthhbbmebfmfgjaaGreatDoor
open Go.RowKit Go.Proofs.YthhbbmebfmfgjaaGreatDoorW.PrintWords

set_option maxRecDepth 100000 in
theorem value_of (v : Int) (W : World) : Sem.run Tryz.prog (Instr.field 121 (.agg #[.int .i64 1, .int .u64 v, .slice none 0 0, .slice none 0 0, .int .u64 0]) 0) W = .ok (.agg #[.int .i64 1, .int .u64 v, .slice none 0 0]) W := by
  first | rfl | kernel_rfl | go_simp

set_option maxRecDepth 100000 in
theorem at_num (ad : Addr) (cap : Nat) (v : Int) (A4 : Option Addr) (c4 : Nat) (A7 : Option Addr) (c7 : Nat) (A1 : Option Addr) (n1 c1 : Nat) (t back : Int) (w : World) (hn : NodeAt w ad v A4 c4 A7 c7) :
    Calls Tryz.prog 36 #[.slice (some ad) 1 cap, .slice A1 n1 c1, .int .i64 t, .int .u64 back] w fun e w' => e = .returned (.tuple #[.agg #[.int .i64 1, .int .u64 v, .slice none 0 0], .int .i64 0]) ∧ Below w.heap.size w w' := by
  have HN := Lib.hid hn
  clear hn
  go_enter Tryz.func36, Tryz.ntmps36
  go_wp2_with (first | (go_at_call 79; refine (check_num ad cap v A4 c4 A7 c7 _ (HN.out.later ((Below.refl _ w).alloc (Nat.le_refl _) _))).mono ?_; rintro e w1 ⟨rfl, hb⟩; have HB1 := Lib.hid hb; clear hb))
  have hres : w1.heap[w.heap.size]? = some (.cells #[.int .i64 0, .int .u64 0, .slice none 0 0] 69 (0, 0)) := blk_below (blk_new w _) HB1.out
  have hlt : w.heap.size < w1.heap.size := blk_lt hres
  have hbw : Below w.heap.size w w1 := ((Below.refl _ w).alloc (Nat.le_refl _) _).trans (HB1.out.mono (by simp))
  have HR := Lib.hid hres
  have HLT := Lib.hid hlt
  have HBW := Lib.hid hbw
  clear hres hlt hbw HB1
  go_loopw [32] (fun i wr => (i = .int .i64 0 ∧ wr = w1.alloc (.cells #[.slice A1 n1 c1, .int .i64 t, .int .u64 back, .slice none 0 0] 118)) ∨ (i = .int .i64 1 ∧ ∃ gs cap, wr.heap[w1.heap.size]? = some (.cells #[.slice A1 n1 c1, .int .i64 t, .int .u64 back, .slice (some ⟨gs, 0, none⟩) 1 cap] 118 (0, 0)) ∧ HeldAt wr gs v ∧ Below w1.heap.size w1 wr)) (fun i _ => 1 - (intOf i).toNat)
  case atStart => exact .inl ⟨rfl, rfl⟩
  case round =>
    rcases hrel with ⟨rfl, rfl⟩ | ⟨rfl, gs, cap2, hm, hs, hb⟩
    · have hm : (w1.alloc (.cells #[.slice A1 n1 c1, .int .i64 t, .int .u64 back, .slice none 0 0] 118)).heap[w1.heap.size]? = some (.cells #[.slice A1 n1 c1, .int .i64 t, .int .u64 back, .slice none 0 0] 118) := blk_new _ _
      have hba : Below w1.heap.size w1 (w1.alloc (.cells #[.slice A1 n1 c1, .int .i64 t, .int .u64 back, .slice none 0 0] 118)) := (Below.refl _ w1).alloc (Nat.le_refl _) _
      obtain ⟨h0, h1, h2, h3, h4, h5, h6, h7⟩ := HN.out.later (HBW.out.trans (hba.mono (Nat.le_of_lt HLT.out)))
      have c := fun o => does_num w1.heap.size w1.heap.size v A1 n1 c1 t back A4 c4 A7 c7 ((w1.alloc (.cells #[.slice A1 n1 c1, .int .i64 t, .int .u64 back, .slice none 0 0] 118)).alloc o) (Nat.le_refl _) (blk_alloc hm o)
      have ha : ∀ o, Below w1.heap.size w1 ((w1.alloc (.cells #[.slice A1 n1 c1, .int .i64 t, .int .u64 back, .slice none 0 0] 118)).alloc o) := fun o => hba.alloc (by simp) o
      have HA := Lib.hid ha
      clear hm hba ha
      go_wp2_with (first | (go_at_call 80; refine (c _).mono ?_; rintro e w' ⟨rfl, gs, cap, q1, q2, q3, q4⟩; have Q := Lib.hid (And.intro q1 (And.intro q2 (And.intro q3 ((HA.out _).trans q4)))); clear q1 q2 q3 q4))
      obtain ⟨q1, q2, q3, q4⟩ := Q.out
      exact ⟨.inr ⟨rfl, gs, _, q1, q2, q4⟩, by decide⟩
    · have c := pop_num w1.heap.size w1.heap.size gs cap2 v A1 n1 c1 t back wr (Nat.le_refl _) hm hs
      have HB := Lib.hid hb
      have hfd := value_of v
      clear hm hs hb
      go_wp2_with (first | (go_at_call 81; refine c.mono ?_; rintro e w' ⟨rfl, hq⟩; have Q := Lib.hid (HB.out.trans hq); have hr := (Q.out.block _ HLT.out).trans HR.out; have r0 := (blk_cell hr 0).trans rfl; have r1 := (blk_cell hr 1).trans rfl; have r2 := (blk_cell hr 2).trans rfl; have f0 := blk_frozen hr 0; have f1 := blk_frozen hr 1; have f2 := blk_frozen hr 2; have HR2 := Lib.hid hr; clear hr hq))
      have hfin := blk_set (blk_set (blk_set HR2.out 0 (.int .i64 1)) 1 (.int .u64 v)) 2 (.slice none 0 0)
      have e0 := (blk_cell hfin 0).trans (rfl : _ = some (Value.int .i64 1))
      have e1 := (blk_cell hfin 1).trans (rfl : _ = some (Value.int .u64 v))
      have e2 := (blk_cell hfin 2).trans (rfl : _ = some (Value.slice none 0 0))
      have hbel : Below w.heap.size w (((w'.setCell ⟨w.heap.size, 0, none⟩ (.int .i64 1)).setCell ⟨w.heap.size, 1, none⟩ (.int .u64 v)).setCell ⟨w.heap.size, 2, none⟩ (.slice none 0 0)) :=
        (((HBW.out.trans (Q.out.mono (Nat.le_of_lt HLT.out))).setCell (Nat.le_refl _) _).setCell (Nat.le_refl _) _).setCell (Nat.le_refl _) _
      have HE := Lib.hid hbel
      clear hfin hbel r0 r1 r2 f0 f1 f2
      simp [bodyPost, results, Tryz.results36, go_sem, e0, e1, e2]
      exact HE.out
end Go.Proofs.YthhbbmebfmfgjaaGreatDoor
