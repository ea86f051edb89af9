import Derived.Test.YtmbfpichaaanpaaGreatDoorX18
import Derived.Test.YtmbfpichaaanpaaGreatDoorX19
/-! A text of matchers, read. -/
namespace Go.Proofs.YtmbfpichaaanpaaGreatDoor
open Go.RowKit Ut Rx Mt

def nameL : List UInt8 := [95, 95, 110, 97, 109, 101, 95, 95]
def tailP (ms : List M) (r : List UInt8) : Except Int (List M) := if r = [] then (if rightF ms = 0 then .ok ms else .error (rightF ms)) else .error 8
def baseP (nm : List UInt8) : List M := if nm = [] then [] else [⟨1, ⟨nameL.toArray⟩, ⟨nm.toArray⟩⟩]
def digU (c : UInt8) : Bool := decide (48 ≤ (c.toNat : Int)) && decide ((c.toNat : Int) ≤ 57)
def headDig (nm : List UInt8) : Bool := match nm with | [] => false | c :: _ => digU c
def bodyP (nm l1 : List UInt8) : Except Int (List M) :=
  match eatF [123] l1 with
  | some u => (match allP ((bareF u).length + 1) (bareF u) with
    | none => .error 8
    | some (ms, r) => tailP (baseP nm ++ ms) (bareF r))
  | none => if nm = [] then .error 8 else tailP (baseP nm) (bareF l1)
def parseP (s : List UInt8) : Except Int (List M) :=
  if headDig ((bareF s).takeWhile letU) then .error 8 else bodyP ((bareF s).takeWhile letU) (bareF ((bareF s).dropWhile letU))

/-- an own row, as the slice it is -/
theorem MsR.ms {w : World} {base : Nat} {v : Value} {l : List M} (h : MsR w base v l) (hn : l.length ≤ 1000000) : Ms w v l := by
  rcases row_kinds h with ⟨rfl, h0⟩ | ⟨g, c, rfl, hc⟩
  · obtain rfl := List.eq_nil_of_length_eq_zero h0
    exact ⟨none, 0, rfl, by simp, fun h => absurd rfl h⟩
  · refine ⟨_, c, rfl, by omega, fun _ => ⟨g, 0, rfl, fun i hi => ?_⟩⟩
    have key : ∀ (l : List M) (i : Nat) (hi : i < l.length), (msC l)[i * 3]? = some (.int .i64 (l[i]'hi).k) ∧ (msC l)[i * 3 + 1]? = some (.string (l[i]'hi).n) ∧ (msC l)[i * 3 + 2]? = some (.string (l[i]'hi).v) := by
      intro l
      induction l with
      | nil => intro i hi; simp at hi
      | cons m t ih =>
        intro i hi
        cases i with
        | zero => exact ⟨rfl, rfl, rfl⟩
        | succ i =>
          have := ih i (by simpa using hi)
          have e : msC (m :: t) = [.int .i64 m.k, .string m.n, .string m.v] ++ msC t := rfl
          rw [e, List.getElem?_append_right (by simp; omega), List.getElem?_append_right (by simp; omega), List.getElem?_append_right (by simp; omega)]
          simp only [List.length_cons, List.length_nil, List.getElem_cons_succ]
          rw [show (i + 1) * 3 - (0 + 1 + 1 + 1) = i * 3 by omega, show (i + 1) * 3 + 1 - (0 + 1 + 1 + 1) = i * 3 + 1 by omega, show (i + 1) * 3 + 2 - (0 + 1 + 1 + 1) = i * 3 + 2 by omega]
          exact this
    obtain ⟨k0, k1, k2⟩ := key l i hi
    have cc : ∀ j u, (msC l)[j]? = some u → w.cell? ⟨g, 0 + j, none⟩ = some u := fun j u h2 => by
      have := World.ownsRow.cells h (g := g) rfl j u h2
      have e : ((⟨g, 0, none⟩ : Addr).add j) = ⟨g, 0 + j, none⟩ := by simp [Addr.add]; try omega
      rw [e] at this
      exact this
    refine ⟨cc _ _ k0, ?_, ?_⟩
    · rw [Nat.add_assoc]; exact cc _ _ k1
    · rw [Nat.add_assoc]; exact cc _ _ k2

def ParseTPost (w : World) (s : List UInt8) (e : Ending) (w' : World) : Prop :=
  Below w.heap.size w w' ∧ match parseP s with
    | .ok ms => ∃ v, e = .returned (.tuple #[v, .int .i64 0]) ∧ MsR w' w.heap.size v ms
    | .error er => er ≠ 0 ∧ e = .returned (.tuple #[.slice none 0 0, .int .i64 er])

theorem MsR.low {w : World} {base base' : Nat} {v : Value} {l : List M} (h : MsR w base v l) (hb : base' ≤ base) : MsR w base' v l :=
  ⟨h.1, h.2.imp id fun ⟨g, cap, cur, e, hb2, r⟩ => ⟨g, cap, cur, e, Nat.le_trans hb hb2, r⟩⟩
theorem MsR.below {w w' : World} {base : Nat} {v : Value} {l : List M} (h : MsR w base v l) (b : Below w.heap.size w w') : MsR w' base v l :=
  World.ownsRow.kept (row := none) h ⟨b.os, b.tape, b.output, b.size, fun k hk _ => b.block k hk⟩ (by cases v.ownBlock <;> simp)
/-- in the midst of a text: it is read in block w.heap.size; the matchers are a row of their own behind it -/
structure Pz (w wr : World) (v : Value) (ms : List M) (l : List UInt8) : Prop where
  tx : Tx wr w.heap.size l
  below : Below w.heap.size w wr
  own : MsR wr (w.heap.size + 1) v ms
theorem Pz.call {w wr w' : World} {v : Value} {ms : List M} {l l' : List UInt8} (h : Pz w wr v ms l) (g : wr.grownBy w' (some w.heap.size)) (tx : Tx w' w.heap.size l') : Pz w w' v ms l' :=
  ⟨tx, below_grown h.below g (Nat.le_refl _), World.ownsRow.kept h.own g (by
    right
    intro e
    have := (World.ownsRow.lt h.own _ e).1
    omega)⟩
theorem Pz.pushed {w wr w4 w5 : World} {v v' : Value} {ms nw : List M} {l : List UInt8} (h : Pz w wr v ms l) (b : Below wr.heap.size wr w4) (gr : w4.grownBy w5 v.ownBlock)
    (own : w5.ownsRow (w.heap.size + 1) 42 3 v' (ms.length + nw.length) (msC ms ++ msC nw)) : Pz w w5 v' (ms ++ nw) l := by
  have o4 : MsR w4 (w.heap.size + 1) v ms := World.ownsRow.kept (row := none) h.own ⟨b.os, b.tape, b.output, b.size, fun k hk _ => b.block k hk⟩ (by cases v.ownBlock <;> simp)
  refine ⟨(h.tx.below b).grown gr (fun e => by have := (World.ownsRow.lt o4 _ e.symm).1; omega), below_pushed (h.below.trans (b.mono h.below.size)) o4 gr (Nat.le_succ _), ?_⟩
  unfold MsR
  rw [msC_append, List.length_append]
  exact own

theorem msC_one (l : List M) : ∀ u ∈ msC l, u.oneCell' = true := by
  intro u hu
  obtain ⟨m, _, hm⟩ := List.mem_flatMap.1 hu
  exact one3 m.k m.n m.v u hm
theorem own_reads {w : World} {base : Nat} {v : Value} {l : List M} (h : MsR w base v l) : ∃ A c, v = .slice A l.length c ∧ Reads w w.heap.size 3 A l.length (msC l) := by
  rcases row_kinds h with ⟨rfl, h0⟩ | ⟨g, c, rfl, hc⟩
  · refine ⟨none, 0, by rw [h0], ?_⟩
    rw [List.eq_nil_of_length_eq_zero h0]
    exact Reads.none_
  · exact ⟨_, _, rfl, Reads.of_own h⟩

set_option maxRecDepth 100000 in
set_option maxHeartbeats 4000000 in
theorem parseT_any (s : ByteArray) (w : World) (hs : s.size ≤ 100000) (hT : Lib.Utf8Tabs 6 7 w) (hw : 8 ≤ w.heap.size) : Calls Tryz.prog 97 #[.string s] w (ParseTPost w (by_ s)) := by
  obtain ⟨i0, hi, hz0, hz1, hz2⟩ := info_parts infoM
  have I0 : Hid (i0.zero = some (.agg #[.int .i64 0, .string ⟨#[]⟩, .string ⟨#[]⟩]) ∧ i0.size = 3 ∧ i0.bytes = 40 ∧ Tryz.prog.info? 42 = some i0) := ⟨hz0, hz1, hz2, hi⟩
  clear hz0 hz1 hz2 hi
  have HT := Lib.hid hT
  have T0 : Hid (Tx (w.alloc (.cells #[.string s] 113)) w.heap.size (by_ s)) := ⟨s, heap_alloc_new w _, rfl⟩
  have B0 : Hid (Below w.heap.size w (w.alloc (.cells #[.string s] 113))) := (Below.refl _ _).alloc (Nat.le_refl _) _
  have SZ : (w.alloc (.cells #[.string s] 113)).heap.size = w.heap.size + 1 := by simp
  clear hT
  go_enter Tryz.func97, Tryz.ntmps97
  go_wp2_with fail
  refine (blanks_any w.heap.size (by_ s) _ T0.out).mono ?_
  rintro e w1 ⟨rfl, g1, tx1⟩
  have W1 := Lib.hid (word_any w.heap.size _ w1 tx1 (Nat.le_trans (dropWhile_le _ _) (by rw [tl_len]; omega)))
  have B1 := Lib.hid (below_grown B0.out g1 (Nat.le_refl _))
  have hlb : (bareF (by_ s)).length ≤ 100000 := Nat.le_trans (dropWhile_le _ _) (by rw [tl_len]; exact hs)
  clear g1 tx1 T0 B0 SZ
  go_wp2_with fail
  refine W1.out.mono ?_
  rintro e w2 ⟨⟨nm, rfl, hnm⟩, g2, tx2⟩
  have P2 : Hid (Pz w w2 (.slice none 0 0) [] ((bareF (by_ s)).dropWhile letU)) := ⟨tx2, below_grown B1.out g2 (Nat.le_refl _), World.ownsRow_nil _ _ _ _⟩
  have HP : Hid (parseP (by_ s) = if headDig (by_ nm) then .error 8 else bodyP (by_ nm) (bareF ((bareF (by_ s)).dropWhile letU))) := by show _ = _; rw [hnm]; rfl
  have hl2 : ((bareF (by_ s)).dropWhile letU).length ≤ 100000 := Nat.le_trans (dropWhile_le _ _) hlb
  generalize (bareF (by_ s)).dropWhile letU = l0 at *
  clear hnm g2 tx2 W1 B1 hlb
  go_upto_if 18 with fail
  go_cut [5] (fun v5 wx => Hid (parseP (by_ s) = bodyP (by_ nm) (bareF l0)) ∧ Hid (Pz w wx v5 (baseP (by_ nm)) l0))
  case first =>
    by_cases hz : nm.size = 0
    · have hem : nm.toList.isEmpty = true := by rw [tl_eq, show nm.data.toList = [] from by_empty hz]; rfl
      have hem2 : (!nm.toList.isEmpty) = false := by rw [hem]; rfl
      have R : Hid (parseP (by_ s) = bodyP (by_ nm) (bareF l0)) := by have := HP.out; rw [by_empty hz] at this ⊢; exact this
      have P3 : Hid (Pz w w2 (.slice none 0 0) (baseP (by_ nm)) l0) := by show Pz _ _ _ _ _; rw [by_empty hz]; exact P2.out
      clear HP P2
      simp only [hem2]
      go_wp2_with fail
      go_meet
      case rel => exact ⟨R, P3⟩
    · have hp : 0 < nm.size := by omega
      have hem := string_ne hp
      have hem2 : (!nm.toList.isEmpty) = true := by rw [hem]; rfl
      have HD := Lib.hid (show by_ nm = (nm[0]'hp) :: (by_ nm).drop 1 from drop_two hp)
      by_cases hd : digU (nm[0]'hp) = true
      · have E : Hid (parseP (by_ s) = .error 8) := by
          have := HP.out
          rw [if_pos (by rw [HD.out]; exact hd)] at this
          exact this
        have hd2 : 48 ≤ ((nm[0]'hp).toNat : Int) ∧ ((nm[0]'hp).toNat : Int) ≤ 57 := by unfold digU at hd; simpa using hd
        obtain ⟨hd3, hd4⟩ := hd2
        clear HP hd
        simp only [hem2]
        go_wp2_with fail
        exact bodyPost_ret (v := .tuple #[.slice none 0 0, .int .i64 8]) (by simp [results, Tryz.results97, go_sem]) rfl ⟨P2.out.below, by simp only [E.out]; exact ⟨by decide, trivial⟩⟩
      · have R : Hid (parseP (by_ s) = bodyP (by_ nm) (bareF l0)) := by
          have := HP.out
          rw [if_neg (by rw [HD.out]; exact hd)] at this
          exact this
        have hd2 : ¬ (48 ≤ ((nm[0]'hp).toNat : Int) ∧ ((nm[0]'hp).toNat : Int) ≤ 57) := by unfold digU at hd; simpa using hd
        clear HP hd
        have hbn : baseP (by_ nm) = [⟨1, ⟨nameL.toArray⟩, nm⟩] := by
          unfold baseP
          rw [if_neg (by rw [HD.out]; simp)]
        have OW := Lib.hid (fun (o : Obj) => World.ownsRow.alloc P2.out.own o)
        have s2 := P2.out.tx.lt
        clear HD hem
        rcases (show ((nm[0]'hp).toNat : Int) < 48 ∨ (48 ≤ ((nm[0]'hp).toNat : Int) ∧ 57 < ((nm[0]'hp).toNat : Int)) by omega) with hlo | ⟨hlo, hhi⟩
        all_goals
          simp only [hem2]
          go_wp2_with (at_builtin; refine wpList_append_own_at _ rfl (.tmp 27) (.tmp 30) 34 rfl (w.heap.size + 1) 42 i0 (.agg #[.int .i64 0, .string ⟨#[]⟩, .string ⟨#[]⟩]) 3 40 Tryz.underlying34 I0.out.2.2.2 I0.out.1 I0.out.2.1 I0.out.2.2.1 rfl (by decide) _ 0 _ rfl (OW.out _) _ 1 1 [.int .i64 1, .string ⟨#[95, 95, 110, 97, 109, 101, 95, 95]⟩, .string nm] rfl rfl ?c1 (one3 _ _ _) (by unfold maxLen; omega) (by omega) ?c3 ?_)
          case c3 => have := P2.out.tx.lt; simp; omega
          · intro v' w5 own5 grow5 _ _
            have P5 : Hid (Pz w w5 v' (baseP (by_ nm)) l0) := by
              show Pz _ _ _ _ _
              rw [hbn]
              exact P2.out.pushed (nw := [⟨1, ⟨nameL.toArray⟩, nm⟩]) ((Below.refl _ _).alloc (Nat.le_refl _) _) grow5 own5
            clear own5 grow5 OW
            go_wp2_with fail
            go_meet
            case rel => exact ⟨R, P5⟩
  case rest =>
    obtain ⟨hp, hpz⟩ := hcut
    have R := Lib.hid hp.out
    have P3 := Lib.hid hpz.out
    clear hp hpz HP P2
    have hlb2 : (bareF l0).length ≤ 100000 := Nat.le_trans (dropWhile_le _ _) hl2
    go_wp2_with fail
    refine (blanks_any w.heap.size l0 _ P3.out.tx).mono ?_
    rintro e w3 ⟨rfl, g3, tx3⟩
    have P4 := Lib.hid (P3.out.call g3 tx3)
    clear g3 tx3 P3
    generalize bareF l0 = l1 at *
    go_wp2_with fail
    refine (eat_any w.heap.size ⟨#[123]⟩ l1 _ P4.out.tx).mono ?_
    rintro e w4 ⟨rfl, g4, tx4⟩
    have P5' := Lib.hid (P4.out.call g4 tx4)
    clear g4 tx4 P4
    cases he : eatF (by_ ⟨#[123]⟩) l1 with
    | none =>
      have P5 := P5'
      rw [he] at P5
      have R2 : Hid (parseP (by_ s) = if by_ nm = [] then .error 8 else tailP (baseP (by_ nm)) (bareF l1)) := by
        have := R.out
        unfold bodyP at this
        rw [show eatF [123] l1 = none from he] at this
        exact this
      clear he P5' R
      by_cases hz : nm.size = 0
      · have hem : nm.toList.isEmpty = true := by rw [tl_eq, show nm.data.toList = [] from by_empty hz]; rfl
        have E : Hid (parseP (by_ s) = .error 8) := by have := R2.out; rw [if_pos (by_empty hz)] at this; exact this
        clear R2
        go_wp2_with fail
        exact bodyPost_ret (v := .tuple #[.slice none 0 0, .int .i64 8]) (by simp [results, Tryz.results97, go_sem]) rfl ⟨P5.out.below, by simp only [E.out]; exact ⟨by decide, trivial⟩⟩
      · have hp : 0 < nm.size := by omega
        have hem := string_ne hp
        have R3 : Hid (parseP (by_ s) = tailP (baseP (by_ nm)) (bareF l1)) := by
          have := R2.out
          rw [if_neg (by rw [show by_ nm = (nm[0]'hp) :: (by_ nm).drop 1 from drop_two hp]; simp)] at this
          exact this
        have hbl : (baseP (by_ nm)).length ≤ 1000000 := by unfold baseP; split <;> simp
        clear R2
        generalize baseP (by_ nm) = ms at *
        go_wp2_with fail
        refine (blanks_any w.heap.size l1 _ P5.out.tx).mono ?_
        rintro e w6 ⟨rfl, g6, tx6⟩
        have P6 := Lib.hid (P5.out.call g6 tx6)
        clear g6 tx6 P5
        generalize bareF l1 = l2 at *
        obtain ⟨s6, hs6, es6⟩ := P6.out.tx
        obtain ⟨x0, xf⟩ := cells1 hs6
        by_cases hz6 : s6.size = 0
        · have hem6 : s6.toList.isEmpty = true := by rw [tl_eq, show s6.data.toList = [] from by_empty hz6]; rfl
          have R4 : Hid (parseP (by_ s) = if rightF ms = 0 then .ok ms else .error (rightF ms)) := by
            have := R3.out
            unfold tailP at this
            rw [if_pos (by rw [← es6]; exact by_empty hz6)] at this
            exact this
          have RT := Lib.hid (right_any ms _ w6 (MsR.ms P6.out.own hbl) (tabs_below HT.out P6.out.below) (Nat.le_trans hw P6.out.below.size))
          clear R3 hs6 es6
          go_wp2_with fail
          refine RT.out.mono ?_
          rintro e w7 ⟨rfl, hb7⟩
          have B7 := Lib.hid (P6.out.below.trans (hb7.mono P6.out.below.size))
          have O7 := Lib.hid ((MsR.below P6.out.own hb7).low (Nat.le_succ _))
          by_cases h0 : rightF ms = 0
          · have E : Hid (parseP (by_ s) = .ok ms) := by have := R4.out; rw [if_pos h0] at this; exact this
            rw [h0]
            clear h0 R4 RT
            go_wp2_with fail
            exact bodyPost_ret (v := .tuple #[_, .int .i64 0]) (by simp [results, Tryz.results97, go_sem]; rfl) rfl ⟨B7.out, by simp only [E.out]; exact ⟨_, rfl, O7.out⟩⟩
          · have E : Hid (parseP (by_ s) = .error (rightF ms)) := by have := R4.out; rw [if_neg h0] at this; exact this
            have H0 := Lib.hid h0
            have hne : (rightF ms != 0) = true := by simpa using h0
            clear h0 R4 RT
            generalize rightF ms = er at *
            go_wp2_with fail
            exact bodyPost_ret (v := .tuple #[.slice none 0 0, .int .i64 er]) (by simp [results, Tryz.results97, go_sem]) rfl ⟨B7.out, by simp only [E.out]; exact ⟨H0.out, trivial⟩⟩
        · have hem6 := string_ne (Nat.pos_of_ne_zero hz6)
          have E : Hid (parseP (by_ s) = .error 8) := by
            have := R3.out
            unfold tailP at this
            rw [if_neg (by rw [← es6, show by_ s6 = _ from drop_two (Nat.pos_of_ne_zero hz6)]; simp)] at this
            exact this
          clear R3 hs6 es6
          go_wp2_with fail
          exact bodyPost_ret (v := .tuple #[.slice none 0 0, .int .i64 8]) (by simp [results, Tryz.results97, go_sem]) rfl ⟨P6.out.below, by simp only [E.out]; exact ⟨by decide, trivial⟩⟩
    | some u =>
      have P5 := P5'
      rw [he] at P5
      have hu : u.length ≤ 100000 := Nat.le_trans (eatF_length he) hlb2
      have R2 : Hid (parseP (by_ s) = match allP ((bareF u).length + 1) (bareF u) with
        | none => .error 8
        | some (ms, r) => tailP (baseP (by_ nm) ++ ms) (bareF r)) := by
        have := R.out
        unfold bodyP at this
        rw [show eatF [123] l1 = some u from he] at this
        exact this
      have AL := Lib.hid (all_of w.heap.size u _ P5.out.tx (by omega))
      clear he P5' R
      go_wp2_with fail
      refine AL.out.mono ?_
      rintro e w6 ⟨g6, h6⟩
      cases ha : allP ((bareF u).length + 1) (bareF u) with
      | none =>
        have E : Hid (parseP (by_ s) = .error 8) := by have := R2.out; rw [ha] at this; exact this
        rw [ha] at h6
        obtain rfl := h6
        have B6 := Lib.hid (below_grown P5.out.below g6 (Nat.le_refl _))
        clear R2 ha g6 AL
        go_wp2_with fail
        exact bodyPost_ret (v := .tuple #[.slice none 0 0, .int .i64 8]) (by simp [results, Tryz.results97, go_sem]) rfl ⟨B6.out, by simp only [E.out]; exact ⟨by decide, trivial⟩⟩
      | some p =>
        obtain ⟨more, r⟩ := p
        rw [ha] at h6
        obtain ⟨v2, rfl, hml, hal⟩ := h6
        have hbl0 : (baseP (by_ nm)).length ≤ 1 := by unfold baseP; split <;> simp
        have R3' : Hid (parseP (by_ s) = tailP (baseP (by_ nm) ++ more) (bareF r)) := by have := R2.out; rw [ha] at this; exact this
        have P6' := Lib.hid (P5.out.call g6 hal.tx)
        obtain ⟨A2, c2, rfl, RD⟩ := own_reads hal.own
        have RD' := Lib.hid RD
        have SZ6 := P6'.out.tx.lt
        generalize baseP (by_ nm) = base at *
        clear R2 ha g6 AL hal RD P5
        go_wp2_with (at_builtin; refine wpList_append_any _ rfl (.tmp 43) (.tmp 44) 34 rfl (w.heap.size + 1) 42 i0 (.agg #[.int .i64 0, .string ⟨#[]⟩, .string ⟨#[]⟩]) 3 40 Tryz.underlying34 I0.out.2.2.2 I0.out.1 I0.out.2.1 I0.out.2.2.1 rfl (by decide) _ base.length _ rfl P6'.out.own _ A2 more.length c2 (msC more) rfl RD'.out (msC_one _) (by unfold maxLen; omega) (by omega) (by omega) ?_)
        intro v' w5 own5 grow5 _
        have P5 := Lib.hid (P6'.out.pushed (nw := more) (Below.refl _ _) grow5 own5)
        have hbl : (base ++ more).length ≤ 1000000 := by rw [List.length_append]; omega
        have R3 := R3'
        clear own5 grow5 P6' RD' R3'
        generalize base ++ more = bm at *
        go_wp2_with fail
        refine (blanks_any w.heap.size r _ P5.out.tx).mono ?_
        rintro e w6 ⟨rfl, g6, tx6⟩
        have P6 := Lib.hid (P5.out.call g6 tx6)
        clear g6 tx6 P5
        generalize bareF r = l2 at *
        obtain ⟨s6, hs6, es6⟩ := P6.out.tx
        obtain ⟨x0, xf⟩ := cells1 hs6
        by_cases hz6 : s6.size = 0
        · have hem6 : s6.toList.isEmpty = true := by rw [tl_eq, show s6.data.toList = [] from by_empty hz6]; rfl
          have R4 : Hid (parseP (by_ s) = if rightF bm = 0 then .ok bm else .error (rightF bm)) := by
            have := R3.out
            unfold tailP at this
            rw [if_pos (by rw [← es6]; exact by_empty hz6)] at this
            exact this
          have RT := Lib.hid (right_any bm _ w6 (MsR.ms P6.out.own hbl) (tabs_below HT.out P6.out.below) (Nat.le_trans hw P6.out.below.size))
          clear R3 hs6 es6
          go_wp2_with fail
          refine RT.out.mono ?_
          rintro e w7 ⟨rfl, hb7⟩
          have B7 := Lib.hid (P6.out.below.trans (hb7.mono P6.out.below.size))
          have O7 := Lib.hid ((MsR.below P6.out.own hb7).low (Nat.le_succ _))
          by_cases h0 : rightF bm = 0
          · have E : Hid (parseP (by_ s) = .ok bm) := by have := R4.out; rw [if_pos h0] at this; exact this
            rw [h0]
            clear h0 R4 RT
            go_wp2_with fail
            exact bodyPost_ret (v := .tuple #[_, .int .i64 0]) (by simp [results, Tryz.results97, go_sem]; rfl) rfl ⟨B7.out, by simp only [E.out]; exact ⟨_, rfl, O7.out⟩⟩
          · have E : Hid (parseP (by_ s) = .error (rightF bm)) := by have := R4.out; rw [if_neg h0] at this; exact this
            have H0 := Lib.hid h0
            have hne : (rightF bm != 0) = true := by simpa using h0
            clear h0 R4 RT
            generalize rightF bm = er at *
            go_wp2_with fail
            exact bodyPost_ret (v := .tuple #[.slice none 0 0, .int .i64 er]) (by simp [results, Tryz.results97, go_sem]) rfl ⟨B7.out, by simp only [E.out]; exact ⟨H0.out, trivial⟩⟩
        · have hem6 := string_ne (Nat.pos_of_ne_zero hz6)
          have E : Hid (parseP (by_ s) = .error 8) := by
            have := R3.out
            unfold tailP at this
            rw [if_neg (by rw [← es6, show by_ s6 = _ from drop_two (Nat.pos_of_ne_zero hz6)]; simp)] at this
            exact this
          clear R3 hs6 es6
          go_wp2_with fail
          exact bodyPost_ret (v := .tuple #[.slice none 0 0, .int .i64 8]) (by simp [results, Tryz.results97, go_sem]) rfl ⟨P6.out.below, by simp only [E.out]; exact ⟨by decide, trivial⟩⟩
end Go.Proofs.YtmbfpichaaanpaaGreatDoor
