import Derived.Test.YthlabaijaadocaaDoorNn
/-! The chapter's examples. -/
namespace Go.Proofs.YthlabaijaadocaaDoor
open Go.RowKit Ut Rx Mt

def lit1 : ByteArray := ⟨#[117, 112, 123, 106, 111, 98, 61, 34, 97, 34, 44, 99, 111, 100, 101, 33, 126, 34, 53, 46, 46, 34, 125]⟩
def lit2 : ByteArray := ⟨#[123, 97, 61, 34, 34, 125]⟩
def live1 : List M := [⟨1, ⟨#[95, 95, 110, 97, 109, 101, 95, 95]⟩, ⟨#[117, 112]⟩⟩, ⟨1, ⟨#[106, 111, 98]⟩, ⟨#[97]⟩⟩, ⟨4, ⟨#[99, 111, 100, 101]⟩, ⟨#[53, 46, 46]⟩⟩]
def liveL : List L := [⟨⟨#[95, 95, 110, 97, 109, 101, 95, 95]⟩, ⟨#[117, 112]⟩⟩, ⟨⟨#[99, 111, 100, 101]⟩, ⟨#[52, 48, 52]⟩⟩, ⟨⟨#[106, 111, 98]⟩, ⟨#[97]⟩⟩]
theorem live_parse1 : parseP (by_ lit1) = .ok live1 := by kernel_rfl
theorem live_parse2 : parseP (by_ lit2) = .error 71 := by kernel_rfl
theorem live_print : printF live1 = [117, 112, 123, 106, 111, 98, 61, 34, 97, 34, 44, 32, 99, 111, 100, 101, 33, 126, 34, 53, 46, 46, 34, 125] := by kernel_rfl
theorem live_all : allF live1 liveL = true := by kernel_rfl

theorem MsR.slice {w : World} {base : Nat} {v : Value} {l : List M} (h : MsR w base v l) : ∃ A c, v = .slice A l.length c ∧ l.length ≤ c := by
  rcases row_kinds h with ⟨rfl, h0⟩ | ⟨g, c, rfl, hc⟩
  · exact ⟨none, 0, by rw [h0], by omega⟩
  · exact ⟨_, _, rfl, hc⟩
theorem live_sizes : ∀ m ∈ live1, m.n.size ≤ 100000 ∧ m.v.size ≤ 100000 := by
  intro m hm
  simp only [live1, List.mem_cons, List.not_mem_nil, or_false] at hm
  rcases hm with rfl | rfl | rfl <;> exact ⟨by decide, by decide⟩
theorem liveL_sizes : ∀ x ∈ liveL, x.v.size ≤ 900000 := by
  intro m hm
  simp only [liveL, List.mem_cons, List.not_mem_nil, or_false] at hm
  rcases hm with rfl | rfl | rfl <;> decide
theorem liveL_at (w : World) : Lb (w.alloc (.cells #[.string ⟨#[95, 95, 110, 97, 109, 101, 95, 95]⟩, .string ⟨#[117, 112]⟩, .string ⟨#[99, 111, 100, 101]⟩, .string ⟨#[52, 48, 52]⟩, .string ⟨#[106, 111, 98]⟩, .string ⟨#[97]⟩] 51))
    (.slice (some ⟨w.heap.size, 0, none⟩) 3 3) liveL := by
  refine ⟨_, _, rfl, by decide, liveL_sizes, fun _ => ⟨_, _, rfl, fun i hi => ?_⟩⟩
  have e : ∀ j u, (#[Value.string ⟨#[95, 95, 110, 97, 109, 101, 95, 95]⟩, .string ⟨#[117, 112]⟩, .string ⟨#[99, 111, 100, 101]⟩, .string ⟨#[52, 48, 52]⟩, .string ⟨#[106, 111, 98]⟩, .string ⟨#[97]⟩] : Array Value)[j]? = some u → (w.alloc (.cells #[.string ⟨#[95, 95, 110, 97, 109, 101, 95, 95]⟩, .string ⟨#[117, 112]⟩, .string ⟨#[99, 111, 100, 101]⟩, .string ⟨#[52, 48, 52]⟩, .string ⟨#[106, 111, 98]⟩, .string ⟨#[97]⟩] 51)).cell? ⟨w.heap.size, j, none⟩ = some u := fun j u h => by
    rw [World.cell?_alloc_at _ _ _ _ rfl]; exact h
  match i, hi with
  | 0, _ => exact ⟨e _ _ rfl, e _ _ rfl⟩
  | 1, _ => exact ⟨e _ _ rfl, e _ _ rfl⟩
  | 2, _ => exact ⟨e _ _ rfl, e _ _ rfl⟩

set_option maxRecDepth 100000 in
set_option maxHeartbeats 4000000 in
theorem live_any (w : World) (hT : Lib.Utf8Tabs 0 1 w) (hw : 2 ≤ w.heap.size) : Calls Tryd.prog 12 #[] w (BoolBelow w true) := by
  have HT := Lib.hid hT
  have P1 := Lib.hid (parseT_any lit1 w (by decide) hT hw)
  clear hT
  go_enter Tryd.func12, Tryd.ntmps12
  go_wp2_with fail
  refine P1.out.mono ?_
  rintro e w1 ⟨hb1, h1⟩
  rw [live_parse1] at h1
  obtain ⟨v1, rfl, O1⟩ := h1
  obtain ⟨A1, c1, rfl, hc1⟩ := O1.slice
  have HB1 := Lib.hid hb1
  have HO1 := Lib.hid O1
  have P2 := Lib.hid (parseT_any lit2 w1 (by decide) (tabs_below HT.out hb1) (Nat.le_trans hw hb1.size))
  clear hb1 O1 P1
  go_wp2_with fail
  refine P2.out.mono ?_
  rintro e w2 ⟨hb2, h2⟩
  rw [live_parse2] at h2
  obtain ⟨_, rfl⟩ := h2
  have HB2 : Hid (Below w.heap.size w w2) := HB1.out.trans (hb2.mono HB1.out.size)
  have HO2 := Lib.hid (HO1.out.below hb2)
  have MS2 := Lib.hid (MsR.ms HO2.out (by decide))
  have P3 := Lib.hid (print_any live1 A1 c1 w2 MS2.out hc1 (by decide) live_sizes)
  have e3 : live1.length = 3 := rfl
  rw [e3] at P3
  clear hb2 P2 HO1 HB1 e3
  go_wp2_with fail
  refine P3.out.mono ?_
  rintro e w3 ⟨rfl, hb3⟩
  have HB3 : Hid (Below w.heap.size w w3) := HB2.out.trans (hb3.mono HB2.out.size)
  have MS3 := Lib.hid (MS2.out.below hb3)
  rw [live_print]
  clear P3 hb3 HB2 HO2 MS2
  go_wp2_with fail
  have HB4 : Hid (Below w.heap.size w (w3.alloc (.cells #[.string ⟨#[95, 95, 110, 97, 109, 101, 95, 95]⟩, .string ⟨#[117, 112]⟩, .string ⟨#[99, 111, 100, 101]⟩, .string ⟨#[52, 48, 52]⟩, .string ⟨#[106, 111, 98]⟩, .string ⟨#[97]⟩] 51))) := HB3.out.alloc HB3.out.size _
  refine (all_any live1 _ liveL _ _ (MS3.out.below ((Below.refl _ _).alloc (Nat.le_refl _) _)) (liveL_at w3) (tabs_below HT.out HB4.out) (Nat.le_trans hw HB4.out.size)).mono ?_
  rintro e w4 ⟨rfl, hb4⟩
  rw [live_all]
  go_wp2_with fail
  go_ret
  exact ⟨rfl, HB4.out.trans (hb4.mono HB4.out.size)⟩
end Go.Proofs.YthlabaijaadocaaDoor
