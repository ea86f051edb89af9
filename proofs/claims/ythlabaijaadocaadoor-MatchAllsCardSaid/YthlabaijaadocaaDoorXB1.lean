import Derived.Test.YthlabaijaadocaaDoorXNk
/-! Matchers as a text. -/
namespace Go.Proofs.YthlabaijaadocaaDoor
open Go.RowKit Ut Rx Mt

def headB (m : M) : Bool := decide (m.k = 1) && decide (by_ m.n = nameL) && namedF (by_ m.v)
def printF (l : List M) : List UInt8 :=
  match l with
  | [] => bracesF []
  | m :: t => if headB m then (if t = [] then by_ m.v else by_ m.v ++ bracesF t) else bracesF (m :: t)
def PrPost (w : World) (l : List M) (e : Ending) (w' : World) : Prop := e = .returned (.string ⟨(printF l).toArray⟩) ∧ Below w.heap.size w w'
theorem Ms.tail {w : World} {b off c : Nat} {m : M} {t : List M} (h : Ms w (.slice (some ⟨b, off, none⟩) (t.length + 1) c) (m :: t)) : Ms w (.slice (some ⟨b, off + 3, none⟩) t.length (c - 1)) t := by
  obtain ⟨A, c', e, hb, hl⟩ := h
  obtain ⟨b', off', rfl, hc⟩ := hl (by simp)
  simp only [Value.slice.injEq, Option.some.injEq, Addr.mk.injEq, true_and, and_true, List.length_cons] at e
  obtain ⟨⟨rfl, rfl⟩, rfl⟩ := e
  refine ⟨_, _, rfl, by simp at hb ⊢; omega, fun _ => ⟨_, _, rfl, fun i hi => ?_⟩⟩
  have := hc (i + 1) (by simpa using hi)
  simp only [List.getElem_cons_succ] at this
  rw [show off + (i + 1) * 3 = off + 3 + i * 3 by omega] at this
  exact this
theorem by_inj {a b : ByteArray} (h : by_ a = by_ b) : a = b := ByteArray.ext (Array.ext' h)

theorem mk_by (s : ByteArray) : (⟨(by_ s).toArray⟩ : ByteArray) = s := rfl
theorem braGo_len : ∀ (l : List M) (b : Bool), (∀ m ∈ l, m.n.size ≤ 100000 ∧ m.v.size ≤ 100000) → (braGo b l).length ≤ 1 + l.length * 400010
  | [], _, _ => by simp [braGo]
  | m :: t, b, h => by
    have ih := braGo_len t false fun x hx => h x (List.mem_cons_of_mem _ hx)
    obtain ⟨h1, h2⟩ := h m (by simp)
    have hs := signT_len m.k
    have hq := quoteF_len (by_ m.v)
    rw [tl_len] at hq
    have hn : (by_ m.n).length = m.n.size := tl_len _
    unfold braGo
    simp only [List.length_append, List.length_cons]
    rw [hn]
    have : (if b then ([] : List UInt8) else [44, 32]).length ≤ 2 := by cases b <;> simp
    omega
theorem bracesF_len {l : List M} (h : ∀ m ∈ l, m.n.size ≤ 100000 ∧ m.v.size ≤ 100000) : (bracesF l).length ≤ 2 + l.length * 400010 := by
  have := braGo_len l true h
  unfold bracesF
  simp only [List.length_cons]
  omega

set_option maxRecDepth 100000 in
set_option maxHeartbeats 4000000 in
theorem print_any (l : List M) (A : Option Addr) (c : Nat) (w : World) (hl : Ms w (.slice A l.length c) l) (hcap : l.length ≤ c) (hn : l.length ≤ 100000) (hsz : ∀ m ∈ l, m.n.size ≤ 100000 ∧ m.v.size ≤ 100000) :
    Calls Tryd.prog 20 #[.slice A l.length c] w (PrPost w l) := by
  have BR := Lib.hid (fun w' (b : Below w.heap.size w w') => braces_any l _ w' (hl.below b) hn hsz)
  cases l with
  | nil =>
    have E : Hid (printF [] = bracesF []) := rfl
    go_enter Tryd.func20, Tryd.ntmps20
    go_wp2_with fail
    refine (BR.out _ (Below.refl _ _)).mono ?_
    rintro e w1 ⟨rfl, hb⟩
    go_wp2_with fail
    go_ret
    exact ⟨rfl, hb⟩
  | cons m t =>
    have HL := Lib.hid hl
    obtain ⟨A', c', e, hb, hcl⟩ := hl
    obtain ⟨b, off, rfl, hc⟩ := hcl (by simp)
    simp only [Value.slice.injEq, List.length_cons, true_and] at e
    obtain ⟨rfl, rfl⟩ := e
    obtain ⟨c0, c1, c2⟩ := hc 0 (by simp)
    simp only [Nat.zero_mul, Nat.add_zero, List.getElem_cons_zero] at c0 c1 c2
    have hz := hsz m (by simp)
    have HS : Hid (∀ m ∈ t, m.n.size ≤ 100000 ∧ m.v.size ≤ 100000) := fun x hx => hsz x (List.mem_cons_of_mem _ hx)
    simp only [List.length_cons] at hcap hn
    obtain ⟨mk, mn, mv⟩ := m
    simp only at c0 c1 c2 hz
    have N := Lib.hid (named_any mv w)
    clear hc hcl hb hsz
    by_cases hk : mk = 1
    · subst hk
      by_cases hq : by_ mn = nameL
      · obtain rfl : mn = ⟨#[95, 95, 110, 97, 109, 101, 95, 95]⟩ := by_inj hq
        clear hq
        cases hnm : namedF mv.data.toList with
        | false =>
          have E : Hid (printF (⟨1, ⟨#[95, 95, 110, 97, 109, 101, 95, 95]⟩, mv⟩ :: t) = bracesF (⟨1, ⟨#[95, 95, 110, 97, 109, 101, 95, 95]⟩, mv⟩ :: t)) := by
            show _ = _
            unfold printF headB
            simp only
            rw [show namedF (by_ mv) = false from hnm, Bool.and_false, if_neg (by simp)]
          rw [hnm] at N
          clear hnm
          simp only [List.length_cons] at BR ⊢
          go_enter Tryd.func20, Tryd.ntmps20
          go_wp2_with fail
          refine N.out.mono ?_
          rintro e w1 ⟨rfl, hb1⟩
          have B := Lib.hid (BR.out w1 hb1)
          go_wp2_with fail
          refine B.out.mono ?_
          rintro e w2 ⟨rfl, hb2⟩
          go_wp2_with fail
          go_ret
          exact ⟨by rw [E.out]; rfl, hb1.trans (hb2.mono hb1.size)⟩
        | true =>
          rw [hnm] at N
          have H1 : Hid (headB ⟨1, ⟨#[95, 95, 110, 97, 109, 101, 95, 95]⟩, mv⟩ = true) := by
            show _ = _
            unfold headB
            simp only
            rw [show namedF (by_ mv) = true from hnm]
            rfl
          clear hnm BR
          cases t with
          | nil =>
            have E : Hid (printF [⟨1, ⟨#[95, 95, 110, 97, 109, 101, 95, 95]⟩, mv⟩] = by_ mv) := by
              show _ = _
              unfold printF
              simp only
              rw [if_pos H1.out, if_pos trivial]
            simp only [List.length_cons, List.length_nil] at HL ⊢
            go_enter Tryd.func20, Tryd.ntmps20
            go_wp2_with fail
            refine N.out.mono ?_
            rintro e w1 ⟨rfl, hb1⟩
            have c2' := (hb1.cell (p := ⟨b, off + 2, none⟩) (World.block_lt_of_cell? w _ c2)).trans c2
            go_wp2_with fail
            go_ret
            exact ⟨by rw [E.out, mk_by]; rfl, hb1⟩
          | cons m2 t2 =>
            have E : Hid (printF (⟨1, ⟨#[95, 95, 110, 97, 109, 101, 95, 95]⟩, mv⟩ :: m2 :: t2) = by_ mv ++ bracesF (m2 :: t2)) := by
              show _ = _
              unfold printF
              simp only
              rw [if_pos H1.out, if_neg (by simp)]
            have hlen : 2 ≤ (m2 :: t2).length + 1 := by simp
            have HT := Lib.hid (Ms.tail HL.out)
            clear HL H1
            generalize hts : m2 :: t2 = ts at *
            clear hts
            have hc1 : ¬ c = 1 := by omega
            have hcI : (ts.length : Int) + 1 ≤ c := by omega
            have hcJ : (1 : Int) ≤ ts.length + 1 := by omega
            have hcK : ¬ (c : Int) = 1 := by omega
            go_enter Tryd.func20, Tryd.ntmps20
            go_wp2_with fail
            refine N.out.mono ?_
            rintro e w1 ⟨rfl, hb1⟩
            have c2' := (hb1.cell (p := ⟨b, off + 2, none⟩) (World.block_lt_of_cell? w _ c2)).trans c2
            have lb := World.block_lt_of_cell? w1 _ c2'
            have KP : Hid (∀ w', Below w1.heap.size w1 w' → w'.cell? ⟨b, off + 2, none⟩ = some (.string mv) ∧ Below w1.heap.size w1 w') := fun w' b' => ⟨(b'.cell (p := ⟨b, off + 2, none⟩) lb).trans c2', b'⟩
            have BE : Hid (∀ w', Below w1.heap.size w1 w' → Calls Tryd.prog 44 #[.slice (some ⟨b, off + 3, none⟩) ts.length (c - 1)] w' (fun e w2 => e = .returned (.string ⟨(bracesF ts).toArray⟩) ∧ Below w1.heap.size w1 w2)) := fun w' b' =>
              (braces_any ts _ w' (HT.out.below (hb1.trans (b'.mono hb1.size))) (by omega) HS.out).mono fun e w2 h => ⟨h.1, b'.trans (h.2.mono b'.size)⟩
            have hb0 : Below w1.heap.size w1 w1 := Below.refl _ _
            generalize hbs : (⟨(bracesF ts).toArray⟩ : ByteArray) = bs at *
            have HBS := Lib.hid hbs
            have hbz : bs.size ≤ 2 + ts.length * 400010 := by rw [← hbs]; exact bracesF_len HS.out
            have hz2 : mv.size ≤ 100000 := hz.2
            have hq1 : ¬ 9223372036854775807 < mv.size + bs.size := by omega
            clear hbs N HT
            go_upto_region 5 with fail
            go_region_held3 (fun w' => w'.cell? ⟨b, off + 2, none⟩ = some (.string mv) ∧ Below w1.heap.size w1 w')
              ((refine KP.out _ ?_; (try go_split_ands); (repeat (first | refine Below.drew ?_ | refine below_drewN ?_ _)); assumption))
              ((go_at_call 44; refine Calls.mono (BE.out _ ?_) ?_; (repeat (first | refine Below.drew ?_ | refine below_drewN ?_ _)); assumption; rintro e w' ⟨rfl, hb9⟩))
            all_goals
              have B2 := Lib.hid (hb1.trans (hb9.mono hb1.size))
              go_wp2_with fail
              go_ret
              exact ⟨by rw [E.out]; show Ending.returned (.string (mv ++ bs)) = _; rw [← HBS.out]; congr 2, B2.out⟩
      · have E : Hid (printF (⟨1, mn, mv⟩ :: t) = bracesF (⟨1, mn, mv⟩ :: t)) := by
          show _ = _
          unfold printF headB
          simp only
          rw [decide_eq_false hq, Bool.and_false, Bool.false_and, if_neg (by simp)]
        have hne : (mn.toList == [95, 95, 110, 97, 109, 101, 95, 95]) = false := by
          rw [tl_eq]
          simpa [nameL] using hq
        have hne2 : (mn.toList != [95, 95, 110, 97, 109, 101, 95, 95]) = true := by
          unfold bne
          rw [hne]; rfl
        clear hq
        simp only [List.length_cons] at BR ⊢
        go_enter Tryd.func20, Tryd.ntmps20
        go_wp2_with fail
        refine (BR.out _ (Below.refl _ _)).mono ?_
        rintro e w2 ⟨rfl, hb2⟩
        go_wp2_with fail
        go_ret
        exact ⟨by rw [E.out]; rfl, hb2⟩
    · have E : Hid (printF (⟨mk, mn, mv⟩ :: t) = bracesF (⟨mk, mn, mv⟩ :: t)) := by
        show _ = _
        unfold printF headB
        simp only
        rw [decide_eq_false hk, Bool.false_and, Bool.false_and, if_neg (by simp)]
      have hne2 : (mk != 1) = true := by simpa using hk
      clear hk
      simp only [List.length_cons] at BR ⊢
      go_enter Tryd.func20, Tryd.ntmps20
      go_wp2_with fail
      refine (BR.out _ (Below.refl _ _)).mono ?_
      rintro e w2 ⟨rfl, hb2⟩
      go_wp2_with fail
      go_ret
      exact ⟨by rw [E.out]; rfl, hb2⟩
end Go.Proofs.YthlabaijaadocaaDoor

/-! Few matchers, and short ones; few labels, and short ones. -/
namespace Go.Proofs.YthlabaijaadocaaDoor
open Go.RowKit Ut Rx Mt

def shortM (m : M) : Bool := decide (m.n.size ≤ 300) && decide (m.v.size ≤ 300)
def fewB (l : List M) : Bool := decide (l.length ≤ 40) && l.all shortM
def shortL (x : L) : Bool := decide (x.n.size ≤ 300) && decide (x.v.size ≤ 200)
def shortB (l : List L) : Bool := decide (l.length ≤ 40) && l.all shortL

/-- labels, in whatever memory, of any size -/
def Lb0 (w : World) (v : Value) (l : List L) : Prop :=
  ∃ A c, v = .slice A l.length c ∧ (l ≠ [] → ∃ b off, A = some ⟨b, off, none⟩ ∧ ∀ i (h : i < l.length), w.cell? ⟨b, off + i * 2, none⟩ = some (.string (l[i]'h).n) ∧ w.cell? ⟨b, off + i * 2 + 1, none⟩ = some (.string (l[i]'h).v))
theorem Lb0.below {w w' : World} {v : Value} {l : List L} (h : Lb0 w v l) (b : Below w.heap.size w w') : Lb0 w' v l := by
  obtain ⟨A, c, e, hl⟩ := h
  refine ⟨A, c, e, fun hne => ?_⟩
  obtain ⟨bb, off, ea, hc⟩ := hl hne
  refine ⟨bb, off, ea, fun i hi => ?_⟩
  obtain ⟨c0, c1⟩ := hc i hi
  have lt : bb < w.heap.size := World.block_lt_of_cell? w _ c0
  exact ⟨(b.cell (p := ⟨bb, off + i * 2, none⟩) lt).trans c0, (b.cell (p := ⟨bb, off + i * 2 + 1, none⟩) lt).trans c1⟩
theorem Lb0.lb {w : World} {v : Value} {l : List L} (h : Lb0 w v l) (hs : shortB l = true) : Lb w v l := by
  obtain ⟨A, c, e, hl⟩ := h
  unfold shortB at hs
  simp only [Bool.and_eq_true, List.all_eq_true, decide_eq_true_eq] at hs
  refine ⟨A, c, e, by omega, fun x hx => ?_, hl⟩
  have := hs.2 x hx
  unfold shortL at this
  simp only [Bool.and_eq_true, decide_eq_true_eq] at this
  omega
/-- matchers, in whatever memory, of any size -/
def Ms0 (w : World) (v : Value) (l : List M) : Prop :=
  ∃ A c, v = .slice A l.length c ∧ l.length ≤ c ∧ (l ≠ [] → ∃ b off, A = some ⟨b, off, none⟩ ∧ ∀ i (h : i < l.length), w.cell? ⟨b, off + i * 3, none⟩ = some (.int .i64 (l[i]'h).k) ∧ w.cell? ⟨b, off + i * 3 + 1, none⟩ = some (.string (l[i]'h).n) ∧ w.cell? ⟨b, off + i * 3 + 2, none⟩ = some (.string (l[i]'h).v))
theorem few_of {l : List M} (h : fewB l = true) : l.length ≤ 40 ∧ ∀ m ∈ l, m.n.size ≤ 300 ∧ m.v.size ≤ 300 := by
  unfold fewB at h
  simp only [Bool.and_eq_true, List.all_eq_true, decide_eq_true_eq] at h
  refine ⟨h.1, fun m hm => ?_⟩
  have := h.2 m hm
  unfold shortM at this
  simpa only [Bool.and_eq_true, decide_eq_true_eq] using this
theorem Ms0.ms {w : World} {v : Value} {l : List M} (h : Ms0 w v l) (hf : fewB l = true) : Ms w v l := by
  obtain ⟨A, c, e, _, hl⟩ := h
  have := (few_of hf).1
  exact ⟨A, c, e, by omega, hl⟩
theorem Ms0.below {w w' : World} {v : Value} {l : List M} (h : Ms0 w v l) (b : Below w.heap.size w w') : Ms0 w' v l := by
  obtain ⟨A, c, e, hb, hl⟩ := h
  refine ⟨A, c, e, hb, fun hne => ?_⟩
  obtain ⟨bb, off, ea, hc⟩ := hl hne
  refine ⟨bb, off, ea, fun i hi => ?_⟩
  obtain ⟨c0, c1, c2⟩ := hc i hi
  have lt : bb < w.heap.size := World.block_lt_of_cell? w _ c0
  exact ⟨(b.cell (p := ⟨bb, off + i * 3, none⟩) lt).trans c0, (b.cell (p := ⟨bb, off + i * 3 + 1, none⟩) lt).trans c1, (b.cell (p := ⟨bb, off + i * 3 + 2, none⟩) lt).trans c2⟩

set_option maxRecDepth 100000 in
set_option maxHeartbeats 4000000 in
theorem few_any (l : List M) (lv : Value) (w : World) (hl : Ms0 w lv l) : Calls Tryd.prog 13 #[lv] w (BoolBelow w (fewB l)) := by
  obtain ⟨A, c, rfl, hbig, hcells⟩ := hl
  have HC := Lib.hid hcells
  clear hcells
  by_cases h40 : l.length > 40
  · have E : Hid (fewB l = false) := by show _ = _; unfold fewB; rw [decide_eq_false (by omega), Bool.false_and]
    have h40' : (40 : Int) < l.length := by omega
    go_enter Tryd.func13, Tryd.ntmps13
    go_wp2_with fail
    go_ret
    rw [E.out]
    exact ⟨rfl, Below.refl _ _⟩
  · have E : Hid (fewB l = l.all shortM) := by show _ = _; unfold fewB; rw [decide_eq_true (by omega), Bool.true_and]
    have h40' : ¬ (40 : Int) < l.length := by omega
    have B0 : Hid (Below w.heap.size w w) := Below.refl _ _
    clear hbig
    go_enter Tryd.func13, Tryd.ntmps13
    go_wp2_with fail
    go_loopg [10] l.length (fun gk vk wr => ∃ k : Nat, vk = .int .i64 k ∧ k + gk = l.length ∧ Hid ((l.drop k).all shortM = fewB l) ∧ Hid (Below w.heap.size w wr))
    case atStart => exact ⟨0, rfl, by omega, by show _ = _; rw [E.out]; rfl, B0⟩
    case round =>
      obtain ⟨k, rfl, hk, HR, HB⟩ := hrel
      clear B0 E
      by_cases hlt : k < l.length
      · obtain ⟨b, off, rfl, hc⟩ := HC.out (fun e => by rw [e] at hlt; simp at hlt)
        obtain ⟨c0', c1', c2'⟩ := hc k hlt
        have lb : b < w.heap.size := World.block_lt_of_cell? w _ c0'
        have c0 := (HB.out.cell (p := ⟨b, off + k * 3, none⟩) lb).trans c0'
        have c1 := (HB.out.cell (p := ⟨b, off + k * 3 + 1, none⟩) lb).trans c1'
        have c2 := (HB.out.cell (p := ⟨b, off + k * 3 + 2, none⟩) lb).trans c2'
        have HD : Hid (l.drop k = l[k]'hlt :: l.drop (k + 1)) := List.drop_eq_getElem_cons hlt
        clear hc c0' c1' c2' HC
        generalize (l[k]'hlt) = m at *
        obtain ⟨mk, mn, mv⟩ := m
        simp only at c0 c1 c2
        by_cases hn : mn.size ≤ 300
        · have hn' : ¬ (300 : Int) < mn.size := by omega
          by_cases hv : mv.size ≤ 300
          · have hv' : ¬ (300 : Int) < mv.size := by omega
            have R2 : Hid ((l.drop (k + 1)).all shortM = fewB l) := by
              have := HR.out
              rw [HD.out, List.all_cons, show shortM ⟨mk, mn, mv⟩ = true from by unfold shortM; simp [hn, hv], Bool.true_and] at this
              exact this
            clear hn hv
            go_wp2_with fail
            go_roundg (l.length - (k + 1))
            case measure => omega
            case rel => exact ⟨k + 1, by simp, by omega, R2, HB.out.alloc HB.out.size _⟩
          · have hv' : (300 : Int) < mv.size := by omega
            have E : Hid (fewB l = false) := by
              have := HR.out
              rw [HD.out, List.all_cons, show shortM ⟨mk, mn, mv⟩ = false from by unfold shortM; simp [hv], Bool.false_and] at this
              exact this.symm
            clear hn hv
            go_wp2_with fail
            go_ret
            rw [E.out]
            exact ⟨rfl, HB.out.alloc HB.out.size _⟩
        · have hn' : (300 : Int) < mn.size := by omega
          have E : Hid (fewB l = false) := by
            have := HR.out
            rw [HD.out, List.all_cons, show shortM ⟨mk, mn, mv⟩ = false from by unfold shortM; simp [hn], Bool.false_and] at this
            exact this.symm
          clear hn
          go_wp2_with fail
          go_ret
          rw [E.out]
          exact ⟨rfl, HB.out.alloc HB.out.size _⟩
      · have hkl : k = l.length := by omega
        subst hkl
        have E : Hid (fewB l = true) := by
          have := HR.out
          rw [List.drop_length] at this
          exact this.symm
        go_wp2_with fail
        go_ret
        rw [E.out]
        exact ⟨rfl, HB.out⟩

set_option maxRecDepth 100000 in
set_option maxHeartbeats 4000000 in
theorem short_any (l : List L) (lv : Value) (w : World) (hl : Lb0 w lv l) : Calls Tryd.prog 23 #[lv] w (BoolBelow w (shortB l)) := by
  obtain ⟨A, c, rfl, hcells⟩ := hl
  have HC := Lib.hid hcells
  clear hcells
  by_cases h40 : l.length > 40
  · have E : Hid (shortB l = false) := by show _ = _; unfold shortB; rw [decide_eq_false (by omega), Bool.false_and]
    have h40' : (40 : Int) < l.length := by omega
    go_enter Tryd.func23, Tryd.ntmps23
    go_wp2_with fail
    go_ret
    rw [E.out]
    exact ⟨rfl, Below.refl _ _⟩
  · have E : Hid (shortB l = l.all shortL) := by show _ = _; unfold shortB; rw [decide_eq_true (by omega), Bool.true_and]
    have h40' : ¬ (40 : Int) < l.length := by omega
    have B0 : Hid (Below w.heap.size w w) := Below.refl _ _
    go_enter Tryd.func23, Tryd.ntmps23
    go_wp2_with fail
    go_loopg [10] l.length (fun gk vk wr => ∃ k : Nat, vk = .int .i64 k ∧ k + gk = l.length ∧ Hid ((l.drop k).all shortL = shortB l) ∧ Hid (Below w.heap.size w wr))
    case atStart => exact ⟨0, rfl, by omega, by show _ = _; rw [E.out]; rfl, B0⟩
    case round =>
      obtain ⟨k, rfl, hk, HR, HB⟩ := hrel
      clear B0 E
      by_cases hlt : k < l.length
      · obtain ⟨b, off, rfl, hc⟩ := HC.out (fun e => by rw [e] at hlt; simp at hlt)
        obtain ⟨c0', c1'⟩ := hc k hlt
        have lb : b < w.heap.size := World.block_lt_of_cell? w _ c0'
        have c0 := (HB.out.cell (p := ⟨b, off + k * 2, none⟩) lb).trans c0'
        have c1 := (HB.out.cell (p := ⟨b, off + k * 2 + 1, none⟩) lb).trans c1'
        have HD : Hid (l.drop k = l[k]'hlt :: l.drop (k + 1)) := List.drop_eq_getElem_cons hlt
        clear hc c0' c1' HC
        generalize (l[k]'hlt) = m at *
        obtain ⟨mn, mv⟩ := m
        simp only at c0 c1
        by_cases hn : mn.size ≤ 300
        · have hn' : ¬ (300 : Int) < mn.size := by omega
          by_cases hv : mv.size ≤ 200
          · have hv' : ¬ (200 : Int) < mv.size := by omega
            have R2 : Hid ((l.drop (k + 1)).all shortL = shortB l) := by
              have := HR.out
              rw [HD.out, List.all_cons, show shortL ⟨mn, mv⟩ = true from by unfold shortL; simp [hn, hv], Bool.true_and] at this
              exact this
            clear hn hv
            go_wp2_with fail
            go_roundg (l.length - (k + 1))
            case measure => omega
            case rel => exact ⟨k + 1, by simp, by omega, R2, HB.out.alloc HB.out.size _⟩
          · have hv' : (200 : Int) < mv.size := by omega
            have E : Hid (shortB l = false) := by
              have := HR.out
              rw [HD.out, List.all_cons, show shortL ⟨mn, mv⟩ = false from by unfold shortL; simp [hv], Bool.false_and] at this
              exact this.symm
            clear hn hv
            go_wp2_with fail
            go_ret
            rw [E.out]
            exact ⟨rfl, HB.out.alloc HB.out.size _⟩
        · have hn' : (300 : Int) < mn.size := by omega
          have E : Hid (shortB l = false) := by
            have := HR.out
            rw [HD.out, List.all_cons, show shortL ⟨mn, mv⟩ = false from by unfold shortL; simp [hn], Bool.false_and] at this
            exact this.symm
          clear hn
          go_wp2_with fail
          go_ret
          rw [E.out]
          exact ⟨rfl, HB.out.alloc HB.out.size _⟩
      · have hkl : k = l.length := by omega
        subst hkl
        have E : Hid (shortB l = true) := by
          have := HR.out
          rw [List.drop_length] at this
          exact this.symm
        go_wp2_with fail
        go_ret
        rw [E.out]
        exact ⟨rfl, HB.out⟩
end Go.Proofs.YthlabaijaadocaaDoor
