/- Sort of nothing; the walk of RealSorts. -/
import Derived.Test.YtiieppaalffgjaaW16
namespace Go.Proofs.Ytiieppaalffgjaa
open Go.RowKit Go.WideShapes

set_option maxHeartbeats 1600000 in
theorem sort_nil (w : World) : Calls Try.prog 28 #[.slice none 0 0] w (Sorted [] w) := by
  obtain ⟨i0, hi, hz0, hz1, hz2⟩ := info_parts infoE
  have hown : (w.alloc (.cells #[] 22)).ownsRow w.heap.size 22 1 (.slice (some ⟨w.heap.size, 0, none⟩) 0 0) 0 [] := World.ownsRow_made w #[] 0 (Nat.le_refl _) (by unfold maxLen; omega) rfl
  have HR : Hid (SortOut [] w (w.heap.size + 1) w.heap.size 0 (.int .i64 ((1 : Nat) : Int)) ((w.alloc (.cells #[] 22)).alloc (.cells #[.slice (some ⟨w.heap.size, 0, none⟩) 0 0] 30))) := by
    have h := sort_start [] w (w.alloc (.cells #[] 22)) w.heap.size 0 hown ((Below.refl _ w).alloc (Nat.le_refl _) _)
    rw [show (w.alloc (.cells #[] 22)).heap.size = w.heap.size + 1 by simp] at h
    exact Lib.hid h
  go_enter Try.func28, Try.ntmps28
  clear hi hz0 hz1 hz2 hown
  go_wp2_with fail
  generalize w.heap.size + 1 = bx at *
  generalize hg : w.heap.size = g at *
  go_loopw [5, 6] (fun s _ wr => SortOut [] w bx g 0 s wr) (fun s _ _ => 0)
  case atStart => exact HR.out
  case round =>
    clear HR
    obtain ⟨m, A, rfl, hm1, hm2, hperm, hpre, hmem⟩ := hrel
    have hv := hmem.var
    have HR : Hid (Sorted [] w (.returned (.slice (some ⟨g, 0, none⟩) 0 0)) wr) :=
      Lib.hid ⟨g, 0, A, rfl, hmem.1, hperm, fun i j h1 h2 => by simp at h2, hmem.2.2.2.2.2, (hmem.2.2.2.2.1.lt g rfl).1, hmem.2.2.2.2.1⟩
    clear hmem hpre hperm hg
    go_wp2_with fail
    go_ret
    exact HR.out

def sortedL (w : World) (a : Option Addr) (g : Nat) (ns A : List Nat) : Prop :=
  (∀ j, j < ns.length → w.cell? ⟨g, j, none⟩ = some (.int .u64 ((A.getD j 0 : Nat) : Int))) ∧ Words w a ns

theorem sorted_mem {w w' : World} {a : Option Addr} {ns A : List Nat} {g cap : Nat} (hl : A.length = ns.length) (hw : Words w a ns) (hb : Below w.heap.size w w')
    (ho : w'.ownsRow w.heap.size 22 1 (.slice (some ⟨g, 0, none⟩) ns.length cap) ns.length (A.map fun (x : Nat) => Value.int .u64 (x : Int))) : sortedL w' a g ns A := by
  constructor
  · intro j hj
    rw [ho.cellAt j (by omega), List.getElem?_map, List.getElem?_eq_getElem (by omega), List.getD_eq_getElem?_getD, List.getElem?_eq_getElem (by omega)]
    rfl
  · intro j hj
    obtain ⟨b, off, h1, h2⟩ := hw j hj
    exact ⟨b, off, h1, (hb.cell (p := ⟨b, off + j, none⟩) (World.block_lt_of_cell? _ _ h2)).trans h2⟩

def cnt (v : Nat) (l : List Nat) : Nat := l.countP (fun x => x == v)
theorem cnt_le (v : Nat) (l : List Nat) : cnt v l ≤ l.length := List.countP_le_length
theorem cnt_take (v : Nat) (l : List Nat) (k : Nat) (h : k < l.length) : cnt v (l.take (k + 1)) = cnt v (l.take k) + if l.getD k 0 == v then 1 else 0 := by
  unfold cnt
  rw [List.take_add_one, List.countP_append, List.getElem?_eq_getElem h, List.getD_eq_getElem?_getD, List.getElem?_eq_getElem h]
  simp [List.countP_cons]
theorem cnt_perm {v : Nat} {l m : List Nat} (h : l.Perm m) : cnt v l = cnt v m := h.countP_eq _

set_option maxHeartbeats 1600000 in
theorem realSorts_walk (a : Option Addr) (cap : Nat) (ns : List Nat) (hbig : ns.length ≤ 9223372036854775807) (w : World) (hc : ∀ q, Words (w.drewN q) a ns)
    (hs : ∀ q, Calls Try.prog 28 #[.slice a ns.length cap] (w.drewN q) (Sorted ns (w.drewN q))) :
    Calls Try.prog 9 #[.slice a ns.length cap] w fun e w' => e = .returned (.bool true) ∧ Below w.heap.size w w' := by
  by_cases h0 : 300 < ns.length
  · clear hs hc
    go_enter Try.func9, Try.ntmps9
    go_wp2_with (first | (go_at_call 13; refine (live_any _).mono ?_; rintro e w' ⟨rfl, k1, rfl⟩))
    go_ret
    exact ⟨rfl, below_drewN (Below.refl _ _) _⟩
  · have HC := Lib.hid hc
    clear hc
    go_enter Try.func9, Try.ntmps9
    go_wp2_with (first | (go_at_call 13; refine (live_any _).mono ?_; rintro e w' ⟨rfl, k1, rfl⟩) | (go_at_call 28; refine (hs _).mono ?_; rintro e w2 ⟨g, cap2, A, rfl, hal, hperm, hpre, hbel, hgb, hown⟩; have hmem := Lib.hid (sorted_mem hal (HC.out _) hbel hown); have HB : Hid (Below w.heap.size w w2) := Lib.hid ((below_drewN (Below.refl _ w) _).trans hbel); have HP := Lib.hid hperm; have HS := Lib.hid hpre; clear hperm hpre hbel hgb hown hs HC))
    have HA := Lib.hid hal
    clear hal
    go_loop [26] (fun i => ∃ k : Nat, k ≤ ns.length ∧ i = .int .i64 k) (fun i => ns.length - (intOf i).toNat)
    case atStart => exact ⟨0, Nat.zero_le _, rfl⟩
    case round =>
      obtain ⟨i, hi, rfl⟩ := hrel
      by_cases hin : i < ns.length
      · have h1 := hmem.out.1 i hin
        have hx1 : Hid (A.getD i 0 = A.getD i 0) := Lib.hid rfl
        generalize hv : A.getD i 0 = v at h1
        have HV := Lib.hid hv
        clear hv hx1
        go_wp2_with fail
        go_loop [6, 7, 33] (fun m n k => ∃ j : Nat, j ≤ ns.length ∧ k = .int .i64 j ∧ m = .int .i64 ((cnt v (ns.take j) : Nat) : Int) ∧ n = .int .i64 ((cnt v (A.take j) : Nat) : Int)) (fun _ _ k => ns.length - (intOf k).toNat)
        case atStart => exact ⟨0, Nat.zero_le _, rfl, rfl, rfl⟩
        case round =>
          obtain ⟨j, hj, rfl, rfl, rfl⟩ := hrel
          by_cases hjn : j < ns.length
          · obtain ⟨b, off, rfl, h2⟩ := hmem.out.2 j hjn
            have h3 := hmem.out.1 j hjn
            have ct1 := cnt_take v ns j hjn
            have ct2 := cnt_take v A j (by rw [HA.out]; exact hjn)
            have p1 := cnt_le v (ns.take j)
            have p2 := cnt_le v (A.take j)
            rw [List.length_take] at p1 p2
            generalize ns.getD j 0 = x at h2 ct1
            generalize A.getD j 0 = y at h3 ct2
            generalize cnt v (ns.take j) = p at *
            generalize cnt v (A.take j) = q at *
            have q1 : p ≤ 300 := by omega
            have q2 : q ≤ 300 := by omega
            have C1 := Lib.hid ct1
            have C2 := Lib.hid ct2
            clear ct1 ct2 p1 p2
            cases e1 : ((x : Int) == (v : Int)) <;> cases e2 : ((y : Int) == (v : Int))
            all_goals
              have d1 := cast_beq e1
              have d2 := cast_beq e2
              have D1 := Lib.hid d1
              have D2 := Lib.hid d2
              clear d1 d2
              go_wp2_with fail
              go_round
              case rel => exact ⟨j + 1, by omega, by go_num, by rw [C1.out, D1.out]; first | rfl | go_num, by rw [C2.out, D2.out]; first | rfl | go_num⟩
              case measure => simp [intOf]; omega
          · obtain rfl : j = ns.length := by omega
            have hA2 : A.take ns.length = A := by rw [← HA.out]; exact List.take_length
            rw [List.take_length, hA2, cnt_perm HP.out]
            clear hA2
            have p1 := cnt_le v ns
            generalize cnt v ns = p at *
            have hpp : (((p : Nat) : Int) != ((p : Nat) : Int)) = false := by simp
            by_cases hi0 : 0 < i
            · obtain ⟨q, rfl⟩ : ∃ q, i = q + 1 := ⟨i - 1, by omega⟩
              have h3 := hmem.out.1 q (by omega)
              have hle := HS.out q (q + 1) (by omega) hin
              rw [HV.out] at hle
              generalize A.getD q 0 = y at h3 hle
              have hq : (q : Int) < (ns.length : Int) := by omega
              go_wp2_with (go_at_call 18; refine (order_any y v _).mono ?_; rintro e w' ⟨rfl, rfl⟩)
              go_round
              case rel => exact ⟨q + 1 + 1, by omega, by go_num⟩
              case measure => simp [intOf]; omega
            · obtain rfl : i = 0 := by omega
              go_wp2_with fail
              go_round
              case rel => exact ⟨1, by omega, rfl⟩
              case measure => simp [intOf]; omega
      · go_wp2_with fail
        go_ret
        exact ⟨rfl, HB.out⟩

theorem sort_all (a : Option Addr) (cap : Nat) (ns : List Nat) (hreach : ns.length * 8 ≤ 140737488351232) (hnil : a = none → cap = 0 ∧ ns = []) (w : World) (hc : Words w a ns) :
    Calls Try.prog 28 #[.slice a ns.length cap] w (Sorted ns w) := by
  cases a with
  | none =>
    obtain ⟨rfl, rfl⟩ := hnil rfl
    exact sort_nil w
  | some ad => exact sort_any ad cap ns hreach w hc
end Go.Proofs.Ytiieppaalffgjaa
