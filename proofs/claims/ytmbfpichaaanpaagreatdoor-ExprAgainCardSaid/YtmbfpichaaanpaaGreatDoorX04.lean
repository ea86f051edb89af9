import Derived.Test.YtmbfpichaaanpaaGreatDoorX01
import Derived.Test.YtmbfpichaaanpaaGreatDoorX03
import Derived.Laws.AppendOwn
import Derived.ChangeAlike
import Derived.StillTailTactics
import Derived.Deep.RegionHeld3
import Derived.WalkSmall
/-! The reader of a pattern: what it holds; the rune that stands next; going on; the fault. -/
namespace Go.Proofs.YtmbfpichaaanpaaGreatDoor
open Go.RowKit Ut Rx

/-- the reader in block r: the text, where it stands, how deep, how many atoms -/
structure Rd (w : World) (r : Nat) (s : ByteArray) (p : Nat) (d z : Int) : Prop where
  s : w.cell? ⟨r, 0, none⟩ = some (.string s)
  p : w.cell? ⟨r, 1, none⟩ = some (.int .i64 p)
  d : w.cell? ⟨r, 2, none⟩ = some (.int .i64 d)
  z : w.cell? ⟨r, 3, none⟩ = some (.int .i64 z)
  free : ∀ j, w.frozen? ⟨r, j, none⟩ = false
  lt : r < w.heap.size

theorem Rd.below {w w' : World} {r : Nat} {s : ByteArray} {p : Nat} {d z : Int} (h : Rd w r s p d z) (b : Below w.heap.size w w') : Rd w' r s p d z :=
  ⟨(b.cell h.lt).trans h.s, (b.cell h.lt).trans h.p, (b.cell h.lt).trans h.d, (b.cell h.lt).trans h.z, fun j => (b.frozen h.lt).trans (h.free j), Nat.lt_of_lt_of_le h.lt b.size⟩

theorem tabs_below {w w' : World} (h : Lib.Utf8Tabs 6 7 w) (b : Below w.heap.size w w') : Lib.Utf8Tabs 6 7 w' := Go.Proofs.Utf8Tabs_below h b

theorem i32_ret {k : IntKind} {a b : Int} (h : a = b) : Ending.returned (.int k a) = .returned (.int k b) := by rw [h]
theorem keepPk {w w2 : World} {r : Nat} {s : ByteArray} {p : Nat} (k0 : w.cell? ⟨r, 0, none⟩ = some (.string s)) (k1 : w.cell? ⟨r, 1, none⟩ = some (.int .i64 p)) (hb : Below w.heap.size w w2) :
    w2.cell? ⟨r, 0, none⟩ = some (.string s) ∧ w2.cell? ⟨r, 1, none⟩ = some (.int .i64 p) ∧ Below w.heap.size w w2 := by
  have lt := World.block_lt_of_cell? w _ k0
  exact ⟨(hb.cell (p := ⟨r, 0, none⟩) lt).trans k0, (hb.cell (p := ⟨r, 1, none⟩) lt).trans k1, hb⟩
set_option maxRecDepth 100000 in
set_option maxHeartbeats 1000000 in
theorem peek_any (r : Nat) (s : ByteArray) (p : Nat) (d z : Int) (l : List Int) (w : World) (h : Rd w r s p d z) (hp : Pos s p l) (hT : Lib.Utf8Tabs 6 7 w) :
    Calls Tryz.prog 147 #[.pointer (some ⟨r, 0, none⟩)] w fun e w' => e = .returned (.int .i32 (pk l)) ∧ Below w.heap.size w w' := by
  have k0 := h.s
  have k1 := h.p
  cases l with
  | nil =>
    obtain rfl := hp.nil
    clear h hp
    go_enter Tryz.func147, Tryz.ntmps147
    go_wp2_with fail
    go_quiet (fail)
    go_wp2_with fail
    go_ret
    exact ⟨rfl, below_drewN (Below.refl _ _) _⟩
  | cons c t =>
    obtain ⟨hlt, n, e1, e2, c0, c1, hne, hn1, hlen, hp2⟩ := hp.cons
    have hltz : ¬ ((s.size : Int) ≤ (p : Int)) := by omega
    have ec : ((c.toNat : Nat) : Int) = c := by omega
    have CD : Hid (∀ w', Below w.heap.size w w' → Calls Tryz.prog 159 #[.string (s.extract p s.size)] w' fun e w'' => e = .returned (.tuple #[.int .i32 c, .int .i64 n]) ∧ Below w.heap.size w w'') := fun w' hb => by
      have cD := Tryz.utf8_DecodeRuneInString (s.extract p s.size) w' (tabs_below hT hb)
      rw [e1, e2, ec] at cD
      exact cD.mono fun _ _ h => ⟨h.1, hb.trans (h.2.mono hb.size)⟩
    have hple : (p : Int) ≤ (s.size : Int) := by omega
    have hp0 : (0 : Int) ≤ (p : Int) := by omega
    have KP : Hid (∀ w2, Below w.heap.size w w2 → w2.cell? ⟨r, 0, none⟩ = some (.string s) ∧ w2.cell? ⟨r, 1, none⟩ = some (.int .i64 p) ∧ Below w.heap.size w w2) := fun w2 hb => keepPk k0 k1 hb
    have hb0 : Below w.heap.size w w := Below.refl _ _
    have hnf : ((c == 65533) && decide ((n : Int) < 2)) = false := by
      by_cases e : c = 65533
      · subst e; simp; omega
      · simp [e]
    clear h hp hlen hp2 ec e1 e2 hT
    go_enter Tryz.func147, Tryz.ntmps147
    go_wp2_with fail
    go_quiet (fail)
    go_wp2_with fail
    go_region_held3 (fun w' => w'.cell? ⟨r, 0, none⟩ = some (.string s) ∧ w'.cell? ⟨r, 1, none⟩ = some (.int .i64 p) ∧ Below w.heap.size w w')
      ((refine KP.out _ ?_; (try go_split_ands); (repeat (first | refine Below.drew ?_ | refine below_drewN ?_ _)); assumption))
      (first | (go_at_call 159; refine Calls.mono (CD.out _ ?_) ?_; (repeat (first | refine Below.drew ?_ | refine below_drewN ?_ _)); assumption; rintro e w' ⟨rfl, hb9⟩))
    all_goals (go_wp2_with fail)
    all_goals
      go_ret
      exact ⟨i32_ret (by show _ = c; omega), hb9⟩

/-- at the runes l -/
def At (w : World) (r : Nat) (s : ByteArray) (l : List Int) (d z : Int) : Prop := ∃ p, Rd w r s p d z ∧ Pos s p l
def SkipPost (w : World) (r : Nat) (s : ByteArray) (l : List Int) (d z : Int) (e : Ending) (w' : World) : Prop := e = .returned (.tuple #[]) ∧ At w' r s l d z ∧ w.grownBy w' (some r)
theorem grown_setCell (w : World) (r o : Nat) (v : Value) : w.grownBy (w.setCell ⟨r, o, none⟩ v) (some r) :=
  ⟨rfl, rfl, rfl, by simp, fun k _ hk => Below.heap_setCell w ⟨r, o, none⟩ v k (fun e => hk (by rw [e]))⟩
theorem grown_drew {w w' : World} {r : Option Nat} (h : w.grownBy w' r) : w.grownBy w'.drew r := ⟨h.os, h.tape, h.output, h.size, h.block⟩
theorem grown_refl (w : World) (r : Option Nat) : w.grownBy w r := ⟨rfl, rfl, rfl, Nat.le_refl _, fun _ _ _ => rfl⟩
theorem grown_trans {a b c : World} {r : Option Nat} (h : a.grownBy b r) (k : b.grownBy c r) : a.grownBy c r :=
  ⟨k.os.trans h.os, k.tape.trans h.tape, k.output.trans h.output, Nat.le_trans h.size k.size, fun i hi hr => (k.block i (Nat.lt_of_lt_of_le hi h.size) hr).trans (h.block i hi hr)⟩
theorem grown_below {w w' : World} {r : Option Nat} (h : Below w.heap.size w w') : w.grownBy w' r := ⟨h.os, h.tape, h.output, h.size, fun i hi _ => h.block i hi⟩
theorem grown_then {w w1 w2 : World} {r : Option Nat} (h : w.grownBy w1 r) (b : Below w1.heap.size w1 w2) : w.grownBy w2 r := grown_trans h (grown_below b)
theorem below_then {w w1 w2 : World} {r : Option Nat} (b : Below w.heap.size w w1) (h : w1.grownBy w2 r) : w.grownBy w2 r := grown_trans (grown_below b) h
theorem tabs_grown {w w' : World} {r : Nat} (h : Lib.Utf8Tabs 6 7 w) (hr : 8 ≤ r) (g : w.grownBy w' (some r)) : Lib.Utf8Tabs 6 7 w' := by
  have k : ∀ {b : Nat} {o : Nat} {v : Value}, b < 8 → w.cell? ⟨b, o, none⟩ = some v → w'.cell? ⟨b, o, none⟩ = some v := fun hb h => g.cell h (by simp; omega)
  exact ⟨fun c hc => k (by omega) (h.1 c hc), fun i hi => ⟨k (by omega) (h.2 i hi).1, k (by omega) (h.2 i hi).2⟩⟩

theorem Rd.drew {w : World} {r : Nat} {s : ByteArray} {p : Nat} {d z : Int} (h : Rd w r s p d z) : Rd w.drew r s p d z := ⟨h.s, h.p, h.d, h.z, h.free, h.lt⟩
theorem rd_set {w : World} {r : Nat} {s : ByteArray} {p : Nat} {d z : Int} (h : Rd w r s p d z) (q : Nat) (x : Int) (hx : x = (q : Int)) : Rd (w.setCell ⟨r, 1, none⟩ (.int .i64 x)) r s q d z := by
  subst hx
  refine ⟨?_, ?_, ?_, ?_, ?_, ?_⟩
  · show (w.setCell _ _).cell? _ = _
    rw [World.cell?_setCell_other _ _ _ _ (by simp)]; exact h.s
  · show (w.setCell _ _).cell? _ = _
    exact World.cell?_setCell_same _ _ _ h.p
  · show (w.setCell _ _).cell? _ = _
    rw [World.cell?_setCell_other _ _ _ _ (by simp)]; exact h.d
  · show (w.setCell _ _).cell? _ = _
    rw [World.cell?_setCell_other _ _ _ _ (by simp)]; exact h.z
  · intro j
    show (w.setCell _ _).frozen? _ = _
    rw [World.frozen?_setCell]; exact h.free j
  · show r < (w.setCell _ _).heap.size
    rw [World.size_setCell]; exact h.lt
set_option maxRecDepth 100000 in
theorem skip_any (r : Nat) (s : ByteArray) (c : Int) (l : List Int) (d z : Int) (w : World) (h : At w r s (c :: l) d z) (hs : s.size ≤ 256) :
    Calls Tryz.prog 148 #[.pointer (some ⟨r, 0, none⟩), .int .i32 c] w (SkipPost w r s l d z) := by
  obtain ⟨p, hr, hp⟩ := h
  have k1 := hr.p
  have f1 := hr.free 1
  obtain ⟨hlt, n, e1, e2, c0, c1, hne, hn1, hlen, hp2⟩ := hp.cons
  have hq := hp2.le
  have C : Hid (∀ w, Calls Tryz.prog 160 #[.int .i32 c] w fun e w' => e = .returned (.int .i64 n) ∧ w' = w) := fun w => by
    have := Tryz.utf8_RuneLen c w
    rw [hlen] at this
    exact this
  have h0 : (0 : Int) ≤ (p : Int) + n := by omega
  have h1 : (p : Int) + n ≤ 256 := by omega
  have HR := Lib.hid hr
  have HP := Lib.hid hp2
  clear hr hp hp2 e1 e2 hlen hne
  go_enter Tryz.func148, Tryz.ntmps148
  go_wp2_with fail
  refine wp_region_still_tail 9 (by kernel_rfl) (by kernel_rfl) ?_
  simp only [List.take_succ_cons, List.take_zero, List.drop_succ_cons, List.drop_zero]
  still_step
  still_step
  still_step
  still_step
  still_step
  still_call (C.out _)
  still_step
  still_step
  still_step
  refine wpStill_nil ?_
  change wpList _ _ _ _ _ w.drew
  go_wp2_with fail
  go_end0
  exact ⟨rfl, ⟨p + n, (rd_set HR.out _ _ (by omega)).drew, HP.out⟩, grown_drew (grown_setCell _ _ _ _)⟩

/-- the fault -/
def faultV (at_ er : Int) : Value := .iface 123 (.agg #[.int .i64 at_, .int .i64 er])
def Bad (er : Int) (e : Ending) : Prop := ∃ at_ : Int, e = .panicked [{ v := faultV at_ er, recovered := false, goexit := false }]
def BadPost (w : World) (er : Int) (e : Ending) (w' : World) : Prop := Bad er e ∧ w = w'
set_option maxRecDepth 100000 in
theorem bad_any (r : Nat) (s : ByteArray) (p : Nat) (d z : Int) (er : Int) (w : World) (h : Rd w r s p d z) :
    Calls Tryz.prog 130 #[.pointer (some ⟨r, 0, none⟩), .int .i64 er] w (BadPost w er) := by
  have k1 := h.p
  go_enter Tryz.func130, Tryz.ntmps130
  go_wp2_with fail
  exact ⟨rfl, ⟨_, rfl⟩, rfl⟩
end Go.Proofs.YtmbfpichaaanpaaGreatDoor

/-! Runes with a meaning; the runes of an escape. -/
namespace Go.Proofs.YtmbfpichaaanpaaGreatDoor
open Go.RowKit Ut Rx

def spS : ByteArray := ⟨#[46, 42, 43, 63, 40, 41, 91, 93, 123, 125, 124, 94, 36, 92]⟩
def spN (i : Nat) : Int := [46, 42, 43, 63, 40, 41, 91, 93, 123, 125, 124, 94, 36, 92].getD i 0
theorem spS_size : spS.size = 14 := rfl
theorem spS_get : ∀ i (h : i < spS.size), ((spS[i]'h).toNat : Int) = spN i ∧ (spS[i]'h).toNat < 128 := by
  have : ∀ i, i < 14 → ∀ (h : i < spS.size), ((spS[i]'h).toNat : Int) = spN i ∧ (spS[i]'h).toNat < 128 := by decide
  exact fun i h => this i h h
theorem spec_yes (i : Nat) (h : i < 14) : specB (spN i) = true := by
  have : ∀ i, i < 14 → specB (spN i) = true := by decide
  exact this i h
theorem spec_no (c : Int) (h : ∀ j, j < 14 → spN j ≠ c) : specB c = false := by
  have h0 := h 0 (by omega); have h1 := h 1 (by omega); have h2 := h 2 (by omega); have h3 := h 3 (by omega); have h4 := h 4 (by omega); have h5 := h 5 (by omega); have h6 := h 6 (by omega)
  have h7 := h 7 (by omega); have h8 := h 8 (by omega); have h9 := h 9 (by omega); have h10 := h 10 (by omega); have h11 := h 11 (by omega); have h12 := h 12 (by omega); have h13 := h 13 (by omega)
  simp [spN] at *
  unfold specB
  simp [Ne.symm h0, Ne.symm h1, Ne.symm h2, Ne.symm h3, Ne.symm h4, Ne.symm h5, Ne.symm h6, Ne.symm h7, Ne.symm h8, Ne.symm h9, Ne.symm h10, Ne.symm h11, Ne.symm h12, Ne.symm h13]
def BoolBelow (w : World) (b : Bool) (e : Ending) (w' : World) : Prop := e = .returned (.bool b) ∧ Below w.heap.size w w'
set_option maxRecDepth 100000 in
set_option maxHeartbeats 1000000 in
theorem special_any (c : Int) (w : World) : Calls Tryz.prog 166 #[.int .i32 c] w (BoolBelow w (specB c)) := by
  have e0 : (⟨#[46, 42, 43, 63, 40, 41, 91, 93, 123, 125, 124, 94, 36, 92]⟩ : ByteArray) = spS := rfl
  have hz := spS_size
  have HD : Hid (∀ pos, pos < spS.size → Utf8.decode spS pos = ((spN pos).toNat, 1) ∧ 0 ≤ spN pos) := fun pos hp => by
    have := spS_get pos hp
    rw [decode_ascii spS pos hp this.2]
    exact ⟨by rw [← this.1]; simp, by omega⟩
  have HZ := Lib.hid hz
  clear hz
  go_enter Tryz.func166, Tryz.ntmps166
  rw [e0]
  generalize spS = s at *
  go_wp2_with fail
  go_loopw [4] (fun _ w' => ∃ pos, w' = w.iter s pos ∧ pos ≤ s.size ∧ Hid (∀ j, j < pos → spN j ≠ c)) (fun _ w' => s.size - w'.iterPos w.heap.size)
  case atStart => exact ⟨0, rfl, Nat.zero_le _, fun j h => by omega⟩
  case round =>
    obtain ⟨pos, rfl, hps, HA⟩ := hrel
    by_cases hp : pos < s.size
    · have hnx : ∀ ty, (Instr.next (.pointer (some ⟨w.heap.size, 0, none⟩)) true ty).run Tryz.prog (w.iter s pos) = _ := fun ty => run_next_any w s pos ty hp
      obtain ⟨d1, d2⟩ := HD.out pos hp
      rw [d1] at hnx
      have d3 : (((spN pos).toNat : Nat) : Int) = spN pos := by omega
      simp only [d3] at hnx
      by_cases hc : spN pos = c
      · have Y : Hid (specB c = true) := (congrArg specB hc).symm.trans (spec_yes pos (by have := HZ.out; omega))
        have hc2 : (spN pos == c) = true := by simpa using hc
        clear hc d1 d3
        go_wp2_with fail
        go_ret
        rw [Y.out]
        exact ⟨rfl, (Below.refl _ _).alloc (Nat.le_refl _) _⟩
      · have HA2 : Hid (∀ j, j < pos + 1 → spN j ≠ c) := fun j hj => by
          by_cases e : j = pos
          · subst e; exact hc
          · exact HA.out j (by omega)
        have hc2 : (spN pos == c) = false := by simpa using hc
        clear hc d1 d3
        go_wp2_with fail
        go_roundw
        case rel => exact ⟨pos + 1, rfl, by omega, HA2⟩
        case measure => simp; omega
    · have hnx : ∀ ty, (Instr.next (.pointer (some ⟨w.heap.size, 0, none⟩)) true ty).run Tryz.prog (w.iter s pos) = _ := fun ty => run_next_end w s pos ty hp
      have NN := Lib.hid (spec_no c (fun j hj => HA.out j (by have := HZ.out; omega)))
      go_wp2_with fail
      go_ret
      rw [NN.out]
      exact ⟨rfl, (Below.refl _ _).alloc (Nat.le_refl _) _⟩

/-- a slice of spans of the call's own -/
def spC (s : List Span) : List Value := s.flatMap fun x => [.int .i32 x.1, .int .i32 x.2]
def ShPost (c : Int) (w : World) (e : Ending) (w' : World) : Prop :=
  match shortF c with
  | none => e = .returned (.slice none 0 0) ∧ w = w'
  | some s => e = .returned (.slice (some ⟨w.heap.size, 0, none⟩) s.length s.length) ∧ w' = w.alloc (.cells (spC s).toArray 177)
set_option maxRecDepth 100000 in
theorem shorts_any (c : Int) (w : World) : Calls Tryz.prog 174 #[.int .i32 c] w (ShPost c w) := by
  go_enter Tryz.func174, Tryz.ntmps174
  go_wp2_with fail
  · have h : c = 100 := by have : (c == 100) = true := by assumption
                           simpa using this
    go_ret
    subst h
    exact ⟨rfl, rfl⟩
  · have h : c = 119 := by have : (c == 119) = true := by assumption
                           simpa using this
    go_ret
    subst h
    exact ⟨rfl, rfl⟩
  · have h : c = 115 := by have : (c == 115) = true := by assumption
                           simpa using this
    go_ret
    subst h
    exact ⟨rfl, rfl⟩
  · have h1 : ¬ c = 100 := by have : (c == 100) = false := by assumption
                              simpa using this
    have h2 : ¬ c = 119 := by have : (c == 119) = false := by assumption
                              simpa using this
    have h3 : ¬ c = 115 := by have : (c == 115) = false := by assumption
                              simpa using this
    go_ret
    have e : shortF c = none := by unfold shortF; rw [if_neg h1, if_neg h2, if_neg h3]
    unfold ShPost
    rw [e]
    exact ⟨rfl, rfl⟩
end Go.Proofs.YtmbfpichaaanpaaGreatDoor

/-! What stands behind a backslash; a rune of a class; the second rune of a span. -/
namespace Go.Proofs.YtmbfpichaaanpaaGreatDoor
open Go.RowKit Ut Rx

theorem At.below {w w' : World} {r : Nat} {s : ByteArray} {l : List Int} {d z : Int} (h : At w r s l d z) (b : Below w.heap.size w w') : At w' r s l d z :=
  let ⟨p, hr, hp⟩ := h; ⟨p, hr.below b, hp⟩
theorem At.lt {w : World} {r : Nat} {s : ByteArray} {l : List Int} {d z : Int} (h : At w r s l d z) : r < w.heap.size := let ⟨_, hr, _⟩ := h; hr.lt
theorem At.pos {w : World} {r : Nat} {s : ByteArray} {c : Int} {l : List Int} {d z : Int} (h : At w r s (c :: l) d z) : 0 ≤ c := let ⟨_, _, hp⟩ := h; let ⟨_, _, _, _, h0, _⟩ := hp.cons; h0
theorem peek_at (r : Nat) (s : ByteArray) (l : List Int) (d z : Int) (w : World) (h : At w r s l d z) (hT : Lib.Utf8Tabs 6 7 w) :
    Calls Tryz.prog 147 #[.pointer (some ⟨r, 0, none⟩)] w fun e w' => e = .returned (.int .i32 (pk l)) ∧ Below w.heap.size w w' :=
  let ⟨p, hr, hp⟩ := h; peek_any r s p d z l w hr hp hT
theorem bad_at (r : Nat) (s : ByteArray) (l : List Int) (d z : Int) (er : Int) (w : World) (h : At w r s l d z) :
    Calls Tryz.prog 130 #[.pointer (some ⟨r, 0, none⟩), .int .i64 er] w (BadPost w er) :=
  let ⟨p, hr, _⟩ := h; bad_any r s p d z er w hr

/-- spans in a block of their own -/
def SpanAt (w : World) (base : Nat) (v : Value) (sp : List Span) : Prop := ∃ g, v = .slice (some ⟨g, 0, none⟩) sp.length sp.length ∧ base ≤ g ∧ w.heap[g]? = some (.cells (spC sp).toArray 177 (0, 0))
theorem SpanAt.grown {w w' : World} {base : Nat} {v : Value} {sp : List Span} {r : Nat} (h : SpanAt w base v sp) (g : w.grownBy w' (some r)) (hr : r < base) : SpanAt w' base v sp := by
  obtain ⟨b, e, hb, hc⟩ := h
  refine ⟨b, e, hb, (g.block b (Array.getElem?_eq_some_iff.1 hc).1 ?_).trans hc⟩
  intro e'
  have : b = r := Option.some.inj e'
  omega
theorem SpanAt.new (w : World) (sp : List Span) {base : Nat} (h : base ≤ w.heap.size) : SpanAt (w.alloc (.cells (spC sp).toArray 177)) base (.slice (some ⟨w.heap.size, 0, none⟩) sp.length sp.length) sp :=
  ⟨w.heap.size, rfl, h, heap_alloc_new w _⟩

def EscPost (w : World) (r : Nat) (s : ByteArray) (d z : Int) (res : Except Int (List Span × Bool × List Int)) (e : Ending) (w' : World) : Prop :=
  w.grownBy w' (some r) ∧ match res with
  | .error er => Bad er e
  | .ok (sp, single, t) => ∃ v, e = .returned (.tuple #[v, .bool single]) ∧ SpanAt w' w.heap.size v sp ∧ At w' r s t d z

set_option maxRecDepth 100000 in
set_option maxHeartbeats 1000000 in
theorem escape_any (r : Nat) (s : ByteArray) (l : List Int) (d z : Int) (w : World) (h : At w r s l d z) (hT : Lib.Utf8Tabs 6 7 w) (hs : s.size ≤ 256) :
    Calls Tryz.prog 165 #[.pointer (some ⟨r, 0, none⟩)] w (EscPost w r s d z (escF l)) := by
  have lt := h.lt
  have P := Lib.hid (peek_at r s l d z w h hT)
  have H := Lib.hid h
  cases l with
  | nil =>
    have E : Hid (escF [] = .error 8) := rfl
    clear h hT
    go_enter Tryz.func165, Tryz.ntmps165
    go_wp2_with fail
    refine P.out.mono ?_
    rintro e w1 ⟨rfl, hb1⟩
    have H1 := Lib.hid (H.out.below hb1)
    have hp0 : pk [] = -1 := rfl
    rw [hp0]
    go_wp2_with fail
    refine (shorts_any (-1) w1).mono ?_
    rintro e w2 ⟨rfl, rfl⟩
    go_wp2_with fail
    refine (bad_at r s [] d z 8 w1 H1.out).mono ?_
    rintro e w3 ⟨⟨at_, rfl⟩, rfl⟩
    exact ⟨rfl, grown_below hb1, ⟨_, rfl⟩⟩
  | cons c t =>
    have c0 := h.pos
    have hp0 : pk (c :: t) = c := rfl
    cases hsh : shortF c with
    | some sp =>
      have E : Hid (escF (c :: t) = .ok (sp, false, t)) := by show escF (c :: t) = _; simp [escF, hsh]
      have C : Hid (∀ w, Calls Tryz.prog 174 #[.int .i32 c] w fun e w' => e = .returned (.slice (some ⟨w.heap.size, 0, none⟩) sp.length sp.length) ∧ w' = w.alloc (.cells (spC sp).toArray 177)) := fun w => by
        have := shorts_any c w
        unfold ShPost at this
        rw [hsh] at this
        exact this
      have S : Hid (∀ w1 w2 : World, Below w.heap.size w w1 → SkipPost (w1.alloc (.cells (spC sp).toArray 177)) r s t d z (.returned (.tuple #[])) w2 → EscPost w r s d z (.ok (sp, false, t)) (.returned (.tuple #[.slice (some ⟨w1.heap.size, 0, none⟩) sp.length sp.length, .bool false])) w2) := fun w1 w2 hb h2 => by
        refine ⟨below_then (hb.alloc hb.size _) h2.2.2, _, rfl, (SpanAt.new w1 sp hb.size).grown h2.2.2 lt, h2.2.1⟩
      have K : Hid (∀ w1 : World, Below w.heap.size w w1 → At (w1.alloc (.cells (spC sp).toArray 177)) r s (c :: t) d z) := fun w1 hb => h.below (hb.alloc hb.size _)
      clear h hT hsh H
      go_enter Tryz.func165, Tryz.ntmps165
      go_wp2_with fail
      refine P.out.mono ?_
      rintro e w1 ⟨rfl, hb1⟩
      rw [hp0]
      go_wp2_with fail
      refine (C.out w1).mono ?_
      rintro e w2 ⟨rfl, rfl⟩
      go_wp2_with fail
      refine (skip_any r s c t d z _ (K.out w1 hb1) hs).mono ?_
      rintro e w3 h3
      obtain ⟨rfl, h3b⟩ := id h3
      go_wp2_with fail
      go_ret2
      rw [E.out]
      exact S.out w1 w3 hb1 h3
    | none =>
      have C : Hid (∀ w, Calls Tryz.prog 174 #[.int .i32 c] w fun e w' => e = .returned (.slice none 0 0) ∧ w = w') := fun w => by
        have := shorts_any c w
        unfold ShPost at this
        rw [hsh] at this
        exact this
      have K : Hid (∀ w1 w2 : World, Below w.heap.size w w1 → Below w1.heap.size w1 w2 → At w2 r s (c :: t) d z ∧ w.grownBy w2 (some r)) := fun w1 w2 hb hb2 => ⟨(h.below hb).below hb2, grown_then (grown_below hb) hb2⟩
      have S : Hid (∀ w1 w2 w3 : World, Below w.heap.size w w1 → Below w1.heap.size w1 w2 → SkipPost w2 r s t d z (.returned (.tuple #[])) w3 → EscPost w r s d z (.ok ([(c, c)], true, t)) (.returned (.tuple #[.slice (some ⟨w3.heap.size, 0, none⟩) 1 1, .bool true])) (w3.alloc (.cells #[.int .i32 c, .int .i32 c] 177))) := fun w1 w2 w3 hb hb2 h3 => by
        have g : w.grownBy w3 (some r) := grown_trans (grown_then (grown_below hb) hb2) h3.2.2
        have b3 : Below w3.heap.size w3 (w3.alloc (.cells #[.int .i32 c, .int .i32 c] 177)) := (Below.refl _ _).alloc (Nat.le_refl _) _
        exact ⟨grown_then g b3, _, rfl, SpanAt.new w3 [(c, c)] g.size, h3.2.1.below b3⟩
      have N : Hid (∀ w1 w2 : World, Below w.heap.size w w1 → Below w1.heap.size w1 w2 → ∀ e w3, BadPost w2 8 e w3 → EscPost w r s d z (.error 8) e w3) := fun w1 w2 hb hb2 e w3 h3 => by
        obtain ⟨h3, rfl⟩ := h3
        exact ⟨grown_then (grown_below hb) hb2, h3⟩
      by_cases hok : (specB c || c == 45 || c == 47) = true
      · have E : Hid (escF (c :: t) = .ok ([(c, c)], true, t)) := by show escF (c :: t) = _; simp only [escF, hsh]; rw [if_pos hok]
        have hw : specB c = true ∨ (specB c = false ∧ (c != 45) = false) ∨ (specB c = false ∧ (c != 45) = true ∧ (c != 47) = false) := by
          cases h1 : specB c with
          | true => exact Or.inl rfl
          | false =>
            rw [h1] at hok
            by_cases h2 : c = 45
            · exact Or.inr (Or.inl ⟨rfl, by simp [h2]⟩)
            · have h3 : c = 47 := by simpa [h2] using hok
              exact Or.inr (Or.inr ⟨rfl, by simp [h2], by simp [h3]⟩)
        clear h hT hsh H hok
        rcases hw with hb | ⟨hb, h45⟩ | ⟨hb, h45, h47⟩
        all_goals
          have HB := Lib.hid hb
          clear hb
          go_enter Tryz.func165, Tryz.ntmps165
          go_wp2_with fail
          refine P.out.mono ?_
          rintro e w1 ⟨rfl, hb1⟩
          rw [hp0]
          go_wp2_with fail
          refine (C.out w1).mono ?_
          rintro e w2 ⟨rfl, rfl⟩
          go_wp2_with fail
          refine (special_any c w1).mono ?_
          rintro e w2 ⟨rfl, hb2⟩
          rw [HB.out]
          go_wp2_with fail
          refine (skip_any r s c t d z _ (K.out w1 w2 hb1 hb2).1 hs).mono ?_
          rintro e w3 h3
          obtain ⟨rfl, h3b⟩ := id h3
          go_wp2_with fail
          go_ret2
          rw [E.out]
          exact S.out w1 w2 w3 hb1 hb2 h3
      · have E : Hid (escF (c :: t) = .error 8) := by show escF (c :: t) = _; simp only [escF, hsh]; rw [if_neg hok]
        have hw : specB c = false ∧ (c != 45) = true ∧ (c != 47) = true := by
          cases h1 : specB c with
          | true => rw [h1] at hok; simp at hok
          | false =>
            rw [h1] at hok
            by_cases h2 : c = 45
            · simp [h2] at hok
            · by_cases h3 : c = 47
              · simp [h3] at hok
              · exact ⟨rfl, by simp [h2], by simp [h3]⟩
        obtain ⟨hb, h45, h47⟩ := hw
        have HB := Lib.hid hb
        clear h hT hsh H hok hb
        go_enter Tryz.func165, Tryz.ntmps165
        go_wp2_with fail
        refine P.out.mono ?_
        rintro e w1 ⟨rfl, hb1⟩
        rw [hp0]
        go_wp2_with fail
        refine (C.out w1).mono ?_
        rintro e w2 ⟨rfl, rfl⟩
        go_wp2_with fail
        refine (special_any c w1).mono ?_
        rintro e w2 ⟨rfl, hb2⟩
        rw [HB.out]
        go_wp2_with fail
        refine (bad_at r s (c :: t) d z 8 w2 (K.out w1 w2 hb1 hb2).1).mono ?_
        rintro e w3 h3
        obtain ⟨⟨at_, rfl⟩, _⟩ := id h3
        rw [E.out]
        exact ⟨rfl, N.out w1 w2 hb1 hb2 _ w3 h3⟩
end Go.Proofs.YtmbfpichaaanpaaGreatDoor

/-! A rune of a class; the second rune of a span. -/
namespace Go.Proofs.YtmbfpichaaanpaaGreatDoor
open Go.RowKit Ut Rx

theorem EscPost.after {w w1 w2 : World} {r : Nat} {s : ByteArray} {d z : Int} {res : Except Int (List Span × Bool × List Int)} {e : Ending} (g : w.grownBy w1 (some r)) (h : EscPost w1 r s d z res e w2) : EscPost w r s d z res e w2 := by
  refine ⟨grown_trans g h.1, ?_⟩
  have h2 := h.2
  cases res with
  | error er => exact h2
  | ok x =>
    obtain ⟨v, e1, ⟨b, e2, e3, e4⟩, e5⟩ := h2
    exact ⟨v, e1, ⟨b, e2, Nat.le_trans g.size e3, e4⟩, e5⟩

set_option maxRecDepth 100000 in
set_option maxHeartbeats 1000000 in
theorem member_any (r : Nat) (s : ByteArray) (l : List Int) (d z : Int) (w : World) (h : At w r s l d z) (hr : 8 ≤ r) (hT : Lib.Utf8Tabs 6 7 w) (hs : s.size ≤ 256) :
    Calls Tryz.prog 172 #[.pointer (some ⟨r, 0, none⟩)] w (EscPost w r s d z (memF l)) := by
  have lt := h.lt
  have P := Lib.hid (peek_at r s l d z w h hT)
  have H := Lib.hid h
  have HT := Lib.hid hT
  clear hT
  by_cases hb : pk l = -1 ∨ pk l = 91 ∨ pk l = 93 ∨ pk l = 94 ∨ pk l = 45
  · have E : Hid (memF l = .error 8) := by
      show memF l = _
      cases l with
      | nil => rfl
      | cons c t =>
        have c0 := h.pos
        have : (c == 91 || c == 93 || c == 94 || c == 45) = true := by
          have e : pk (c :: t) = c := rfl
          rw [e] at hb
          rcases hb with e | e | e | e | e <;> first | omega | (subst e; rfl)
        simp [memF, this]
    clear h
    rcases hb with e | e | e | e | e
    all_goals
      have EP := Lib.hid e
      clear e
      go_enter Tryz.func172, Tryz.ntmps172
      go_wp2_with fail
      refine P.out.mono ?_
      rintro e w1 ⟨rfl, hb1⟩
      rw [EP.out]
      go_wp2_with fail
      refine (bad_at r s l d z 8 w1 (H.out.below hb1)).mono ?_
      rintro e w3 ⟨⟨at_, rfl⟩, rfl⟩
      rw [E.out]
      exact ⟨rfl, grown_below hb1, ⟨_, rfl⟩⟩
  · cases l with
    | nil => exact absurd (Or.inl rfl) hb
    | cons c t =>
      have c0 := h.pos
      have hp0 : pk (c :: t) = c := rfl
      rw [hp0] at hb
      have n1 : ¬ c = 91 := fun e => hb (by simp [e])
      have n2 : ¬ c = 93 := fun e => hb (by simp [e])
      have n3 : ¬ c = 94 := fun e => hb (by simp [e])
      have n4 : ¬ c = 45 := fun e => hb (by simp [e])
      have hm1 : (c == -1) = false := by simp; omega
      have h91 : (c == 91) = false := by simpa using n1
      have h93 : (c == 93) = false := by simpa using n2
      have h94 : (c == 94) = false := by simpa using n3
      have h45 : (c == 45) = false := by simpa using n4
      clear hb n1 n2 n3 n4
      by_cases h92 : c = 92
      · subst h92
        have E : Hid (memF (92 :: t) = escF t) := rfl
        clear h h91 h93 h94 h45 hm1 c0
        go_enter Tryz.func172, Tryz.ntmps172
        go_wp2_with fail
        refine P.out.mono ?_
        rintro e w1 ⟨rfl, hb1⟩
        rw [hp0]
        go_wp2_with fail
        refine (skip_any r s 92 t d z _ (H.out.below hb1) hs).mono ?_
        rintro e w2 ⟨rfl, h2, g2⟩
        have HT2 := Lib.hid (tabs_grown (tabs_below HT.out hb1) hr g2)
        go_wp2_with fail
        refine (escape_any r s t d z w2 h2 HT2.out hs).mono ?_
        rintro e w3 h3
        have h3b := h3.after (below_then hb1 g2)
        have H3 : Hid (EscPost w r s d z (memF (92 :: t)) e w3) := by rw [E.out]; exact h3b
        clear h3
        cases hx : escF t with
        | error er =>
          rw [hx] at h3b
          obtain ⟨g3, at_, rfl⟩ := id h3b
          exact ⟨rfl, H3.out⟩
        | ok x =>
          obtain ⟨sp, single, u⟩ := x
          rw [hx] at h3b
          obtain ⟨g3, v, rfl, _⟩ := id h3b
          clear h3b hx
          go_wp2_with fail
          go_ret2
          exact H3.out
      · have h92b : (c == 92) = false := by simpa using h92
        have E : Hid (memF (c :: t) = .ok ([(c, c)], true, t)) := by
          show memF (c :: t) = _
          simp [memF, h91, h93, h94, h45, h92]
        clear h92 h
        go_enter Tryz.func172, Tryz.ntmps172
        go_wp2_with fail
        refine P.out.mono ?_
        rintro e w1 ⟨rfl, hb1⟩
        rw [hp0]
        go_wp2_with fail
        refine (skip_any r s c t d z _ (H.out.below hb1) hs).mono ?_
        rintro e w2 ⟨rfl, h2, g2⟩
        have H2 := Lib.hid h2
        clear h2
        go_wp2_with fail
        go_ret2
        rw [E.out]
        have b3 : Below w2.heap.size w2 (w2.alloc (.cells #[.int .i32 c, .int .i32 c] 177)) := (Below.refl _ _).alloc (Nat.le_refl _) _
        have g : w.grownBy w2 (some r) := below_then hb1 g2
        exact ⟨grown_then g b3, _, rfl, SpanAt.new w2 [(c, c)] g.size, H2.out.below b3⟩
end Go.Proofs.YtmbfpichaaanpaaGreatDoor
