import Derived.Test.YthlabaijaadocaaDoorNo
/-! A Set that no call made lets nothing pass. -/
namespace Go.Proofs.YthlabaijaadocaaDoor
open Go.RowKit Ut Rx Mt

def SetNone (w : World) (px : Option Addr) : Prop := px = none ∨ ∃ g, px = some ⟨g, 0, none⟩ ∧ w.cell? ⟨g, 0, none⟩ = some (.slice none 0 0)
def BoolSame (w : World) (b : Bool) (e : Ending) (w' : World) : Prop := e = .returned (.bool b) ∧ w = w'
def NilList (w : World) (e : Ending) (w' : World) : Prop := e = .returned (.slice none 0 0) ∧ w = w'
set_option maxRecDepth 100000 in
set_option maxHeartbeats 2000000 in
theorem noneMatch_any (px : Option Addr) (lv : Value) (w : World) (hs : SetNone w px) : Calls Tryd.prog 27 #[.pointer px, lv] w (BoolSame w false) := by
  rcases hs with rfl | ⟨g, rfl, hc⟩
  · go_enter Tryd.func27, Tryd.ntmps27
    go_wp2_with fail
    go_ret
    exact ⟨rfl, rfl⟩
  · go_enter Tryd.func27, Tryd.ntmps27
    go_wp2_with fail
    go_ret
    exact ⟨rfl, rfl⟩
set_option maxRecDepth 100000 in
set_option maxHeartbeats 2000000 in
theorem noneList_any (px : Option Addr) (w : World) (hs : SetNone w px) : Calls Tryd.prog 28 #[.pointer px] w (NilList w) := by
  rcases hs with rfl | ⟨g, rfl, hc⟩
  · go_enter Tryd.func28, Tryd.ntmps28
    go_wp2_with fail
    go_ret
    exact ⟨rfl, rfl⟩
  · go_enter Tryd.func28, Tryd.ntmps28
    go_wp2_with fail
    go_loopg [3, 13] 0 (fun gk vo vk wr => vo = .slice none 0 0 ∧ vk = .int .i64 0 ∧ wr = w)
    case atStart => exact ⟨rfl, rfl, rfl⟩
    case round =>
      obtain ⟨rfl, rfl, rfl⟩ := hrel
      go_wp2_with fail
      go_ret
      exact ⟨rfl, rfl⟩

set_option maxRecDepth 100000 in
set_option maxHeartbeats 4000000 in
theorem none_any (lv : Value) (w : World) (hT : Lib.Utf8Tabs 0 1 w) (hw : 2 ≤ w.heap.size) : Calls Tryd.prog 10 #[lv] w (BoolBelow w true) := by
  have HB : Hid (Below w.heap.size w ((w.alloc (.cells #[.slice none 0 0] 45)).alloc (.cells #[.pointer none, .pointer (some ⟨w.heap.size, 0, none⟩)] 42))) := ((Below.refl _ _).alloc (Nat.le_refl _) _).alloc (by simp) _
  have HT := Lib.hid hT
  clear hT
  go_enter Tryd.func10, Tryd.ntmps10
  go_wp2_with fail
  have C0 : Hid (((w.alloc (.cells #[.slice none 0 0] 45)).alloc (.cells #[.pointer none, .pointer (some ⟨w.heap.size, 0, none⟩)] 42)).cell? ⟨w.heap.size + 1, 0, none⟩ = some (.pointer none)) := World.cell?_alloc_at _ _ _ _ (by simp)
  have C1 : Hid (((w.alloc (.cells #[.slice none 0 0] 45)).alloc (.cells #[.pointer none, .pointer (some ⟨w.heap.size, 0, none⟩)] 42)).cell? ⟨w.heap.size + 1, 1, none⟩ = some (.pointer (some ⟨w.heap.size, 0, none⟩))) := World.cell?_alloc_at _ _ _ _ (by simp)
  have C2 : Hid (((w.alloc (.cells #[.slice none 0 0] 45)).alloc (.cells #[.pointer none, .pointer (some ⟨w.heap.size, 0, none⟩)] 42)).cell? ⟨w.heap.size, 0, none⟩ = some (.slice none 0 0)) := by
    show _ = _
    rw [World.cell?_alloc_lt _ _ _ (by simp)]
    exact World.cell?_alloc_at _ _ _ _ rfl
  generalize ((w.alloc (.cells #[.slice none 0 0] 45)).alloc (.cells #[.pointer none, .pointer (some ⟨w.heap.size, 0, none⟩)] 42)) = w2 at *
  go_loopg [9] 2 (fun gk vk wr => ∃ k : Nat, vk = .int .i64 k ∧ k + gk = 2 ∧ wr = w2)
  case atStart => exact ⟨0, rfl, rfl, rfl⟩
  case round =>
    obtain ⟨k, rfl, hk, rfl⟩ := hrel
    rcases (show k = 0 ∨ k = 1 ∨ k = 2 by omega) with rfl | rfl | rfl
    · have c0 := C0.out
      go_wp2_with fail
      refine (noneMatch_any none lv _ (Or.inl rfl)).mono ?_
      rintro e w' ⟨rfl, rfl⟩
      go_wp2_with fail
      refine (noneList_any none _ (Or.inl rfl)).mono ?_
      rintro e w' ⟨rfl, rfl⟩
      go_wp2_with fail
      go_roundg 1
      case measure => omega
      case rel => exact ⟨1, rfl, rfl, rfl⟩
    · have c1 := C1.out
      go_wp2_with fail
      refine (noneMatch_any _ lv _ (Or.inr ⟨_, rfl, C2.out⟩)).mono ?_
      rintro e w' ⟨rfl, rfl⟩
      go_wp2_with fail
      refine (noneList_any _ _ (Or.inr ⟨_, rfl, C2.out⟩)).mono ?_
      rintro e w' ⟨rfl, rfl⟩
      go_wp2_with fail
      go_roundg 0
      case measure => omega
      case rel => exact ⟨2, rfl, rfl, rfl⟩
    · go_wp2_with fail
      refine (live_any _ (tabs_below HT.out HB.out) (by have := HB.out.size; omega)).mono ?_
      rintro e w' ⟨rfl, hb⟩
      go_wp2_with fail
      go_ret
      exact ⟨rfl, HB.out.trans (hb.mono HB.out.size)⟩
end Go.Proofs.YthlabaijaadocaaDoor
