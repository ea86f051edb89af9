/- Sort: the walk. -/
import Derived.Test.YtiieppaalffgjaaW14
import Derived.Test.YtiieppaalffgjaaF4
import Derived.OneCell
import Derived.Deep.DeepMust
import Derived.RegionTactic
import Derived.BigRegion
import Derived.ChangeAlike
namespace Go.Proofs.Ytiieppaalffgjaa
open Go.RowKit Go.WideShapes

set_option maxHeartbeats 800000 in
theorem less_any (bx g cap n : Nat) (x y : Nat) (i k : Int) (hi0 : 0 ≤ i) (hk0 : 0 ≤ k) (hi : i < n) (hk : k < n) (w : World)
    (hb : w.cell? ⟨bx, 0, none⟩ = some (.slice (some ⟨g, 0, none⟩) n cap)) (h1 : w.cell? ⟨g, i.toNat, none⟩ = some (.int .u64 (x : Int))) (h2 : w.cell? ⟨g, k.toNat, none⟩ = some (.int .u64 (y : Int))) :
    Calls Try.prog 49 #[.int .i64 i, .int .i64 k, .pointer (some ⟨bx, 0, none⟩)] w fun e w' => e = .returned (.bool (decide (orderS x y < 0))) ∧ ∃ m, w' = w.drewN m := by
  go_enter Try.func49, Try.ntmps49
  go_wp2
  go_quiet ((go_at_call 18; exact Calls.quiet_of_same ((order_any _ _ _).mono fun _ _ h => ⟨h.1, h.2.symm⟩)))
  go_wp2
  go_ret
  exact ⟨rfl, _, rfl⟩

/-- what is known of memory while it is sorted -/
def SortMem (w : World) (bx g cap n : Nat) (A : List Nat) (wr : World) : Prop :=
  A.length = n ∧ g ≠ bx ∧ w.heap.size ≤ bx ∧ wr.heap[bx]? = some (.cells #[.slice (some ⟨g, 0, none⟩) n cap] 30 (0, 0)) ∧
    wr.ownsRow w.heap.size 22 1 (.slice (some ⟨g, 0, none⟩) n cap) n (A.map fun (x : Nat) => Value.int .u64 (x : Int)) ∧ Below w.heap.size w wr

theorem SortMem.var {w wr : World} {bx g cap n : Nat} {A : List Nat} (h : SortMem w bx g cap n A wr) : wr.cell? ⟨bx, 0, none⟩ = some (.slice (some ⟨g, 0, none⟩) n cap) := cell_of_one h.2.2.2.1
theorem SortMem.at {w wr : World} {bx g cap n : Nat} {A : List Nat} (h : SortMem w bx g cap n A wr) {j : Nat} (hj : j < n) : wr.cell? ⟨g, j, none⟩ = some (.int .u64 ((A.getD j 0 : Nat) : Int)) := by
  obtain ⟨hl, _, _, _, ho, _⟩ := h
  rw [ho.cellAt j (by omega), List.getElem?_map, List.getElem?_eq_getElem (by omega), List.getD_eq_getElem?_getD, List.getElem?_eq_getElem (by omega)]
  rfl
theorem SortMem.free {w wr : World} {bx g cap n : Nat} {A : List Nat} (h : SortMem w bx g cap n A wr) (j : Nat) : wr.frozen? ⟨g, j, none⟩ = false := h.2.2.2.2.1.frozenAt j
theorem SortMem.drewN {w wr : World} {bx g cap n : Nat} {A : List Nat} (h : SortMem w bx g cap n A wr) (m : Nat) : SortMem w bx g cap n A (wr.drewN m) :=
  ⟨h.1, h.2.1, h.2.2.1, h.2.2.2.1, h.2.2.2.2.1, below_drewN h.2.2.2.2.2 m⟩
theorem SortMem.set {w wr : World} {bx g cap n : Nat} {A : List Nat} (h : SortMem w bx g cap n A wr) (j v : Nat) : SortMem w bx g cap n (A.set j v) (wr.setCell ⟨g, j, none⟩ (.int .u64 (v : Int))) := by
  obtain ⟨hl, hne, hbx, hv, ho, hb⟩ := h
  obtain ⟨s1, s2⟩ := ho.stored j (.int .u64 (v : Int))
  have hg := ho.lt g rfl
  refine ⟨by simpa using hl, hne, hbx, ?_, ?_, hb.trans (Below.setCell (Below.refl _ _) (by simp; omega) _)⟩
  · rw [Below.heap_setCell _ _ _ _ (fun e => hne e.symm)]; exact hv
  · rw [List.map_set]; exact s1

/-- what Sort gives: a new row that bears all of them, in order -/
def Sorted (ns : List Nat) (w : World) (e : Ending) (w' : World) : Prop :=
  ∃ g cap A, e = .returned (.slice (some ⟨g, 0, none⟩) ns.length cap) ∧ A.length = ns.length ∧ A.Perm ns ∧ SortedPre A ns.length ∧ Below w.heap.size w w' ∧ w.heap.size ≤ g ∧
    w'.ownsRow w.heap.size 22 1 (.slice (some ⟨g, 0, none⟩) ns.length cap) ns.length (A.map fun (x : Nat) => Value.int .u64 (x : Int))

/-- the outer loop's relation; the inner one's -/
def SortOut (ns : List Nat) (w : World) (bx g cap : Nat) (s : Value) (wr : World) : Prop :=
  ∃ (m : Nat) (A : List Nat), s = .int .i64 m ∧ 1 ≤ m ∧ (m ≤ ns.length ∨ m = 1) ∧ A.Perm ns ∧ SortedPre A m ∧ SortMem w bx g cap ns.length A wr
def SortIn (ns : List Nat) (w : World) (bx g cap m : Nat) (s : Value) (wr : World) : Prop :=
  ∃ (k : Nat) (A : List Nat), s = .int .i64 k ∧ k ≤ m ∧ A.Perm ns ∧ SortedBut A m k ∧ SortMem w bx g cap ns.length A wr

theorem infoE : (Try.prog.info? 22).map (fun i => (i.zero, i.size, i.bytes)) = some (some (.int .u64 0), 1, 8) := by kernel_rfl

theorem words_cells {w : World} {ad : Addr} {ns : List Nat} (h : Words w (some ad) ns) : ∀ j u, (ns.map fun (x : Nat) => Value.int .u64 (x : Int))[j]? = some u → w.cell? (ad.add j) = some u := by
  intro j u hu
  rw [List.getElem?_map] at hu
  by_cases hj : j < ns.length
  · obtain ⟨b, off, e, hc⟩ := h j hj
    cases e
    rw [add_plain, hc]
    rw [List.getElem?_eq_getElem hj] at hu
    rw [List.getD_eq_getElem?_getD, List.getElem?_eq_getElem hj]
    simpa using hu
  · rw [List.getElem?_eq_none (by omega)] at hu; cases hu

theorem cell_alloc_keep {w : World} {a : Addr} {v : Value} (h : w.cell? a = some v) (o : Obj) : (w.alloc o).cell? a = some v := by
  have hlt := World.block_lt_of_cell? w a h
  rw [← h]
  exact World.cell?_of_block (by show (w.heap.push o)[a.block]? = _; rw [Array.getElem?_push]; rw [if_neg (by omega)])

theorem ownsRow_slice {w : World} {base : Nat} {e : TypeId} {v : Value} {n : Nat} {xs : List Value} (h : w.ownsRow base e 1 v n xs) (hv : ¬ v = .slice none 0 0) : ∃ g cap, v = .slice (some ⟨g, 0, none⟩) n cap := by
  rcases h.2 with h | ⟨g, cap, _, h, _⟩
  · exact absurd h.1 hv
  · exact ⟨g, cap, h⟩

theorem sort_start (ns : List Nat) (w w1 : World) (g cap : Nat) (ho : w1.ownsRow w.heap.size 22 1 (.slice (some ⟨g, 0, none⟩) ns.length cap) ns.length (ns.map fun (x : Nat) => Value.int .u64 (x : Int))) (hb : Below w.heap.size w w1) :
    SortOut ns w w1.heap.size g cap (.int .i64 ((1 : Nat) : Int)) (w1.alloc (.cells #[.slice (some ⟨g, 0, none⟩) ns.length cap] 30)) := by
  have hg := ho.lt g rfl
  exact ⟨1, ns, rfl, Nat.le_refl _, Or.inr rfl, List.Perm.refl _, fun i j h1 h2 => by omega, rfl, by omega, hb.size, heap_alloc_new w1 _, ho.alloc _, hb.alloc hb.size _⟩

set_option maxHeartbeats 1600000 in
theorem sort_any (ad : Addr) (cap : Nat) (ns : List Nat) (hreach : ns.length * 8 ≤ 140737488351232) (w : World) (hc : Words w (some ad) ns) :
    Calls Try.prog 28 #[.slice (some ad) ns.length cap] w (Sorted ns w) := by
  obtain ⟨i0, hi, hz0, hz1, hz2⟩ := info_parts infoE
  have HC := Lib.hid (words_cells hc)
  clear hc
  go_enter Try.func28, Try.ntmps28
  have hown : (w.alloc (.cells #[] 22)).ownsRow w.heap.size 22 1 (.slice (some ⟨w.heap.size, 0, none⟩) 0 0) 0 [] := World.ownsRow_made w #[] 0 (Nat.le_refl _) (by unfold maxLen; omega) rfl
  have HS := Lib.hid (hown)
  go_wp2_with (at_builtin; refine wpList_append_own _ rfl (.tmp 7) (.tmp 8) 30 rfl w.heap.size 22 i0 (.int .u64 0) 1 8 Try.underlying30 hi hz0 hz1 hz2 rfl (by decide) _ 0 [] rfl hown ad ns.length cap (ns.map fun (x : Nat) => Value.int .u64 (x : Int)) rfl ?c1 ?c2 ?c3 ?c4 ?c5 ?c6 ?_)
  case c1 => simp
  case c2 => intro j u hu; exact cell_alloc_keep (HC.out j u hu) _
  case c3 => intro u hu; obtain ⟨x, _, rfl⟩ := List.mem_map.1 hu; rfl
  case c4 => unfold maxLen; omega
  case c5 => omega
  case c6 => simp
  clear hown
  intro v' w1 hown1 hgrow1 hnil1
  obtain ⟨g, cap', rfl⟩ := ownsRow_slice hown1 hnil1
  have hB1 : Below w.heap.size w w1 := ((Below.refl _ w).alloc (Nat.le_refl _) _).grown hgrow1 (by simp) (by intro k hk; simp [Value.ownBlock] at hk; omega)
  have HB := Lib.hid hB1
  have HO := Lib.hid hown1
  clear hB1 hown1 hgrow1 hnil1 hi hz0 hz1 hz2
  have hbx : Hid (SortOut ns w w1.heap.size g cap' (.int .i64 ((1 : Nat) : Int)) (w1.alloc (.cells #[.slice (some ⟨g, 0, none⟩) ns.length cap'] 30))) :=
    Lib.hid (sort_start ns w w1 g cap' HO.out HB.out)
  go_wp2_with fail
  generalize w1.heap.size = bx at *
  go_loopw [5, 6] (fun s _ wr => SortOut ns w bx g cap' s wr) (fun s _ _ => ns.length - (intOf s).toNat)
  case atStart => exact hbx.out
  case round =>
    clear hbx HS HC HB HO
    obtain ⟨m, A, rfl, hm1, hm2, hperm, hpre, hmem⟩ := hrel
    have hv := hmem.var
    by_cases hml : m < ns.length
    · go_wp2_with fail
      obtain ⟨wo, rfl⟩ : ∃ wo : World, wo = wr := ⟨_, rfl⟩
      have hin : Hid (SortIn ns w bx g cap' m (.int .i64 m) wo) := Lib.hid ⟨m, A, rfl, Nat.le_refl _, hperm, but_start hpre, hmem⟩
      clear hmem hpre hperm hv
      go_loopw [6] (fun s wr => SortIn ns w bx g cap' m s wr) (fun s _ => (intOf s).toNat)
      case atStart => exact hin.out
      case round =>
        clear hin
        obtain ⟨k, A, rfl, hkm, hperm, hbut, hmem⟩ := hrel
        have hv := hmem.var
        by_cases hk0 : 0 < k
        · obtain ⟨q, rfl⟩ : ∃ q, k = q + 1 := ⟨k - 1, by omega⟩
          have h1 := hmem.at (j := q + 1) (by omega)
          have h2 := hmem.at (j := q) (by omega)
          have f1 := hmem.free (q + 1)
          have f2 := hmem.free q
          have hlen := hmem.1
          generalize hx : A.getD (q + 1) 0 = x at *
          generalize hy : A.getD q 0 = y at *
          have c := fun (W : World) hb e1 e2 => less_any bx g cap' ns.length x y ((q : Int) + 1) q (by omega) (by omega) (by omega) (by omega) W hb e1 e2
          rw [show ((q : Int) + 1).toNat = q + 1 by omega, show ((q : Int)).toNat = q by omega] at c
          have cl := c wr hv h1 h2
          clear c
          cases hless : decide (orderS x y < 0)
          · rw [hless] at cl
            have HR : Hid (∀ p, SortOut ns w bx g cap' (.int .i64 ((m + 1 : Nat) : Int)) (wr.drewN p)) := Lib.hid fun p =>
              ⟨m + 1, A, rfl, by omega, Or.inl (by omega), hperm, but_done hbut hkm (by rw [hx, hy]; simpa using hless), hmem.drewN p⟩
            clear hmem hbut hperm hx hy hless
            go_wp2_with (go_at_call 49; refine cl.mono ?_; rintro e w' ⟨rfl, p, rfl⟩)
            go_roundw
            case rel => exact HR.out _
            case measure => simp [intOf]; omega
          · rw [hless] at cl
            have hi1 : (q : Int) + 1 < (ns.length : Int) := by omega
            have HR : Hid (∀ p, SortIn ns w bx g cap' m (.int .i64 q) (((wr.drewN p).setCell ⟨g, q + 1, none⟩ (.int .u64 (y : Int))).setCell ⟨g, q, none⟩ (.int .u64 (x : Int)))) := Lib.hid fun p => by
              subst hx hy
              exact ⟨q, swap A q, rfl, by omega, (swap_perm A q (by omega)).trans hperm, but_swap hbut hkm (by omega) (by simpa using hless), ((hmem.drewN p).set (q + 1) _).set q _⟩
            clear hmem hbut hperm hx hy hless
            go_wp2_with (go_at_call 49; refine cl.mono ?_; rintro e w' ⟨rfl, p, rfl⟩)
            go_region
            go_wp2_with fail
            go_roundw
            case rel => exact HR.out _
            case measure => simp [intOf]
        · obtain rfl : k = 0 := by omega
          have HR : Hid (SortOut ns w bx g cap' (.int .i64 ((m + 1 : Nat) : Int)) wr) := Lib.hid ⟨m + 1, A, rfl, by omega, Or.inl (by omega), hperm, but_done0 hbut, hmem⟩
          clear hmem hbut hperm
          go_wp2_with fail
          go_roundw
          case rel => exact HR.out
          case measure => simp [intOf]; omega
    · have HR : Hid (Sorted ns w (.returned (.slice (some ⟨g, 0, none⟩) ns.length cap')) wr) :=
        Lib.hid ⟨g, cap', A, rfl, hmem.1, hperm, fun i j h1 h2 => hpre i j h1 (by omega), hmem.2.2.2.2.2, (hmem.2.2.2.2.1.lt g rfl).1, hmem.2.2.2.2.1⟩
      clear hmem hpre hperm
      go_wp2_with fail
      go_ret
      exact HR.out
end Go.Proofs.Ytiieppaalffgjaa
