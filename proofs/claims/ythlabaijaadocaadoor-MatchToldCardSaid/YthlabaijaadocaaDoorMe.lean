import Derived.Test.YthlabaijaadocaaDoorMb
import Derived.Test.YthlabaijaadocaaDoorMc
import Derived.Test.YthlabaijaadocaaDoorRxB
import Derived.Test.YthlabaijaadocaaDoorShelf
import Derived.Laws.AppendOwn
import Derived.ChangeAlike
import Derived.StillTailTactics
import Derived.Deep.RegionHeld3
import Derived.WalkSmall
/-! The reader of a pattern: what it holds; the rune that stands next; going on; the fault. -/
namespace Go.Proofs.YthlabaijaadocaaDoor
open Go.RowKit Ut Rx

/-- the reader in block r: the text, where it stands, how deep, how many atoms -/
structure Rd (w : World) (r : Nat) (s : ByteArray) (p : Nat) (d z : Int) : Prop where
  s : w.cell? ⟨r, 0, none⟩ = some (.string s)
  p : w.cell? ⟨r, 1, none⟩ = some (.int .i64 p)
  d : w.cell? ⟨r, 2, none⟩ = some (.int .i64 d)
  z : w.cell? ⟨r, 3, none⟩ = some (.int .i64 z)
  free : ∀ j, w.frozen? ⟨r, j, none⟩ = false
  lt : r < w.heap.size

theorem Rd.below {w w' : World} {r : Nat} {s : ByteArray} {p : Nat} {d z : Int} (h : Rd w r s p d z) (b : Below w.heap.size w w') : Rd w' r s p d z :=
  ⟨(b.cell h.lt).trans h.s, (b.cell h.lt).trans h.p, (b.cell h.lt).trans h.d, (b.cell h.lt).trans h.z, fun j => (b.frozen h.lt).trans (h.free j), Nat.lt_of_lt_of_le h.lt b.size⟩

theorem tabs_below {w w' : World} (h : Lib.Utf8Tabs 0 1 w) (b : Below w.heap.size w w') : Lib.Utf8Tabs 0 1 w' := Go.Proofs.Utf8Tabs_below h b

theorem i32_ret {k : IntKind} {a b : Int} (h : a = b) : Ending.returned (.int k a) = .returned (.int k b) := by rw [h]
theorem keepPk {w w2 : World} {r : Nat} {s : ByteArray} {p : Nat} (k0 : w.cell? ⟨r, 0, none⟩ = some (.string s)) (k1 : w.cell? ⟨r, 1, none⟩ = some (.int .i64 p)) (hb : Below w.heap.size w w2) :
    w2.cell? ⟨r, 0, none⟩ = some (.string s) ∧ w2.cell? ⟨r, 1, none⟩ = some (.int .i64 p) ∧ Below w.heap.size w w2 := by
  have lt := World.block_lt_of_cell? w _ k0
  exact ⟨(hb.cell (p := ⟨r, 0, none⟩) lt).trans k0, (hb.cell (p := ⟨r, 1, none⟩) lt).trans k1, hb⟩
set_option maxRecDepth 100000 in
set_option maxHeartbeats 1000000 in
theorem peek_any (r : Nat) (s : ByteArray) (p : Nat) (d z : Int) (l : List Int) (w : World) (h : Rd w r s p d z) (hp : Pos s p l) (hT : Lib.Utf8Tabs 0 1 w) :
    Calls Tryd.prog 71 #[.pointer (some ⟨r, 0, none⟩)] w fun e w' => e = .returned (.int .i32 (pk l)) ∧ Below w.heap.size w w' := by
  have k0 := h.s
  have k1 := h.p
  cases l with
  | nil =>
    obtain rfl := hp.nil
    clear h hp
    go_enter Tryd.func71, Tryd.ntmps71
    go_wp2_with fail
    go_quiet (fail)
    go_wp2_with fail
    go_ret
    exact ⟨rfl, below_drewN (Below.refl _ _) _⟩
  | cons c t =>
    obtain ⟨hlt, n, e1, e2, c0, c1, hne, hn1, hlen, hp2⟩ := hp.cons
    have hltz : ¬ ((s.size : Int) ≤ (p : Int)) := by omega
    have ec : ((c.toNat : Nat) : Int) = c := by omega
    have CD : Hid (∀ w', Below w.heap.size w w' → Calls Tryd.prog 85 #[.string (s.extract p s.size)] w' fun e w'' => e = .returned (.tuple #[.int .i32 c, .int .i64 n]) ∧ Below w.heap.size w w'') := fun w' hb => by
      have cD := Tryd.utf8_DecodeRuneInString (s.extract p s.size) w' (tabs_below hT hb)
      rw [e1, e2, ec] at cD
      exact cD.mono fun _ _ h => ⟨h.1, hb.trans (h.2.mono hb.size)⟩
    have hple : (p : Int) ≤ (s.size : Int) := by omega
    have hp0 : (0 : Int) ≤ (p : Int) := by omega
    have KP : Hid (∀ w2, Below w.heap.size w w2 → w2.cell? ⟨r, 0, none⟩ = some (.string s) ∧ w2.cell? ⟨r, 1, none⟩ = some (.int .i64 p) ∧ Below w.heap.size w w2) := fun w2 hb => keepPk k0 k1 hb
    have hb0 : Below w.heap.size w w := Below.refl _ _
    have hnf : ((c == 65533) && decide ((n : Int) < 2)) = false := by
      by_cases e : c = 65533
      · subst e; simp; omega
      · simp [e]
    clear h hp hlen hp2 ec e1 e2 hT
    go_enter Tryd.func71, Tryd.ntmps71
    go_wp2_with fail
    go_quiet (fail)
    go_wp2_with fail
    go_region_held3 (fun w' => w'.cell? ⟨r, 0, none⟩ = some (.string s) ∧ w'.cell? ⟨r, 1, none⟩ = some (.int .i64 p) ∧ Below w.heap.size w w')
      ((refine KP.out _ ?_; (try go_split_ands); (repeat (first | refine Below.drew ?_ | refine below_drewN ?_ _)); assumption))
      (first | (go_at_call 85; refine Calls.mono (CD.out _ ?_) ?_; (repeat (first | refine Below.drew ?_ | refine below_drewN ?_ _)); assumption; rintro e w' ⟨rfl, hb9⟩))
    all_goals (go_wp2_with fail)
    all_goals
      go_ret
      exact ⟨i32_ret (by show _ = c; omega), hb9⟩

/-- at the runes l -/
def At (w : World) (r : Nat) (s : ByteArray) (l : List Int) (d z : Int) : Prop := ∃ p, Rd w r s p d z ∧ Pos s p l
def SkipPost (w : World) (r : Nat) (s : ByteArray) (l : List Int) (d z : Int) (e : Ending) (w' : World) : Prop := e = .returned (.tuple #[]) ∧ At w' r s l d z ∧ w.grownBy w' (some r)
theorem grown_setCell (w : World) (r o : Nat) (v : Value) : w.grownBy (w.setCell ⟨r, o, none⟩ v) (some r) :=
  ⟨rfl, rfl, rfl, by simp, fun k _ hk => Below.heap_setCell w ⟨r, o, none⟩ v k (fun e => hk (by rw [e]))⟩
theorem grown_drew {w w' : World} {r : Option Nat} (h : w.grownBy w' r) : w.grownBy w'.drew r := ⟨h.os, h.tape, h.output, h.size, h.block⟩
theorem grown_refl (w : World) (r : Option Nat) : w.grownBy w r := ⟨rfl, rfl, rfl, Nat.le_refl _, fun _ _ _ => rfl⟩
theorem grown_trans {a b c : World} {r : Option Nat} (h : a.grownBy b r) (k : b.grownBy c r) : a.grownBy c r :=
  ⟨k.os.trans h.os, k.tape.trans h.tape, k.output.trans h.output, Nat.le_trans h.size k.size, fun i hi hr => (k.block i (Nat.lt_of_lt_of_le hi h.size) hr).trans (h.block i hi hr)⟩
theorem grown_below {w w' : World} {r : Option Nat} (h : Below w.heap.size w w') : w.grownBy w' r := ⟨h.os, h.tape, h.output, h.size, fun i hi _ => h.block i hi⟩
theorem grown_then {w w1 w2 : World} {r : Option Nat} (h : w.grownBy w1 r) (b : Below w1.heap.size w1 w2) : w.grownBy w2 r := grown_trans h (grown_below b)
theorem below_then {w w1 w2 : World} {r : Option Nat} (b : Below w.heap.size w w1) (h : w1.grownBy w2 r) : w.grownBy w2 r := grown_trans (grown_below b) h
theorem tabs_grown {w w' : World} {r : Nat} (h : Lib.Utf8Tabs 0 1 w) (hr : 2 ≤ r) (g : w.grownBy w' (some r)) : Lib.Utf8Tabs 0 1 w' := by
  have k : ∀ {b : Nat} {o : Nat} {v : Value}, b < 2 → w.cell? ⟨b, o, none⟩ = some v → w'.cell? ⟨b, o, none⟩ = some v := fun hb h => g.cell h (by simp; omega)
  exact ⟨fun c hc => k (by omega) (h.1 c hc), fun i hi => ⟨k (by omega) (h.2 i hi).1, k (by omega) (h.2 i hi).2⟩⟩

theorem Rd.drew {w : World} {r : Nat} {s : ByteArray} {p : Nat} {d z : Int} (h : Rd w r s p d z) : Rd w.drew r s p d z := ⟨h.s, h.p, h.d, h.z, h.free, h.lt⟩
theorem rd_set {w : World} {r : Nat} {s : ByteArray} {p : Nat} {d z : Int} (h : Rd w r s p d z) (q : Nat) (x : Int) (hx : x = (q : Int)) : Rd (w.setCell ⟨r, 1, none⟩ (.int .i64 x)) r s q d z := by
  subst hx
  refine ⟨?_, ?_, ?_, ?_, ?_, ?_⟩
  · show (w.setCell _ _).cell? _ = _
    rw [World.cell?_setCell_other _ _ _ _ (by simp)]; exact h.s
  · show (w.setCell _ _).cell? _ = _
    exact World.cell?_setCell_same _ _ _ h.p
  · show (w.setCell _ _).cell? _ = _
    rw [World.cell?_setCell_other _ _ _ _ (by simp)]; exact h.d
  · show (w.setCell _ _).cell? _ = _
    rw [World.cell?_setCell_other _ _ _ _ (by simp)]; exact h.z
  · intro j
    show (w.setCell _ _).frozen? _ = _
    rw [World.frozen?_setCell]; exact h.free j
  · show r < (w.setCell _ _).heap.size
    rw [World.size_setCell]; exact h.lt
set_option maxRecDepth 100000 in
theorem skip_any (r : Nat) (s : ByteArray) (c : Int) (l : List Int) (d z : Int) (w : World) (h : At w r s (c :: l) d z) (hs : s.size ≤ 256) :
    Calls Tryd.prog 72 #[.pointer (some ⟨r, 0, none⟩), .int .i32 c] w (SkipPost w r s l d z) := by
  obtain ⟨p, hr, hp⟩ := h
  have k1 := hr.p
  have f1 := hr.free 1
  obtain ⟨hlt, n, e1, e2, c0, c1, hne, hn1, hlen, hp2⟩ := hp.cons
  have hq := hp2.le
  have C : Hid (∀ w, Calls Tryd.prog 86 #[.int .i32 c] w fun e w' => e = .returned (.int .i64 n) ∧ w' = w) := fun w => by
    have := Tryd.utf8_RuneLen c w
    rw [hlen] at this
    exact this
  have h0 : (0 : Int) ≤ (p : Int) + n := by omega
  have h1 : (p : Int) + n ≤ 256 := by omega
  have HR := Lib.hid hr
  have HP := Lib.hid hp2
  clear hr hp hp2 e1 e2 hlen hne
  go_enter Tryd.func72, Tryd.ntmps72
  go_wp2_with fail
  refine wp_region_still_tail 9 (by kernel_rfl) (by kernel_rfl) ?_
  simp only [List.take_succ_cons, List.take_zero, List.drop_succ_cons, List.drop_zero]
  still_step
  still_step
  still_step
  still_step
  still_step
  still_call (C.out _)
  still_step
  still_step
  still_step
  refine wpStill_nil ?_
  change wpList _ _ _ _ _ w.drew
  go_wp2_with fail
  go_end0
  exact ⟨rfl, ⟨p + n, (rd_set HR.out _ _ (by omega)).drew, HP.out⟩, grown_drew (grown_setCell _ _ _ _)⟩

/-- the fault -/
def faultV (at_ er : Int) : Value := .iface 81 (.agg #[.int .i64 at_, .int .i64 er])
def Bad (er : Int) (e : Ending) : Prop := ∃ at_ : Int, e = .panicked [{ v := faultV at_ er, recovered := false, goexit := false }]
def BadPost (w : World) (er : Int) (e : Ending) (w' : World) : Prop := Bad er e ∧ w = w'
set_option maxRecDepth 100000 in
theorem bad_any (r : Nat) (s : ByteArray) (p : Nat) (d z : Int) (er : Int) (w : World) (h : Rd w r s p d z) :
    Calls Tryd.prog 55 #[.pointer (some ⟨r, 0, none⟩), .int .i64 er] w (BadPost w er) := by
  have k1 := h.p
  go_enter Tryd.func55, Tryd.ntmps55
  go_wp2_with fail
  exact ⟨rfl, ⟨_, rfl⟩, rfl⟩
end Go.Proofs.YthlabaijaadocaaDoor
