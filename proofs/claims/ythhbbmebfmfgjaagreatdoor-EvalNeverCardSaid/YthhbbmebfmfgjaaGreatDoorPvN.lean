import Derived.Test.YthhbbmebfmfgjaaGreatDoorPvG
import Derived.Test.YthhbbmebfmfgjaaGreatDoorFO
/-! What a counter grew by is not below 0: the value. -/
namespace Go.Proofs.YthhbbmebfmfgjaaGreatDoor
open Ieee
theorem holds3 (a b : Nat) : holdsS 3 a b = (!fnan a && !fnan b && decide (skey a < skey b)) := by
  unfold holdsS
  rw [if_neg (by decide), if_neg (by decide), if_neg (by decide), if_pos rfl, order_key]
  cases fnan a <;> cases fnan b <;> simp
  rcases Int.lt_trichotomy (skey a) (skey b) with h | h | h
  · rw [cmp_lt h]; simp [h]
  · rw [h]; simp [compare, compareOfLessAndEq]
  · rw [cmp_gt h]; simp; omega
theorem holds2 {a b : Nat} (h : holdsS 2 a b = true) : fnan a = false ∧ skey b < skey a := by
  unfold holdsS at h
  rw [if_neg (by decide), if_neg (by decide), if_pos rfl, order_key] at h
  cases ha : fnan a
  · refine ⟨rfl, ?_⟩
    cases hb : fnan b
    · rw [ha, hb] at h
      simp at h
      rcases Int.lt_trichotomy (skey a) (skey b) with g | g | g
      · rw [cmp_lt g] at h; cases h
      · rw [g] at h; simp [compare, compareOfLessAndEq] at h
      · exact g
    · rw [ha, hb] at h; simp at h
  · rw [ha] at h; simp at h
theorem kind_num {n : Nat} (h0 : kindS n ≠ 0) (h1 : kindS n ≠ 1) : fnan n = false := by
  unfold kindS at h0 h1
  by_cases e : n = 9218868437227405314
  · rw [if_pos e] at h1; exact absurd rfl h1
  · rw [if_neg e] at h0
    cases hf : fnan n
    · rfl
    · rw [hf] at h0; simp at h0
theorem skey0 : skey 0 = 0 := by decide
theorem fnan0 : fnan 0 = false := by decide
theorem not_below {a : Nat} (h : 0 ≤ skey a) : holdsS 3 a 0 = false := by
  rw [holds3, skey0]
  simp
  intros
  omega
theorem ofS_low {n : Int} (h : 0 ≤ n) : 0 ≤ skey (ofS n) := by
  unfold ofS
  apply toldS_low
  show 0 ≤ skey (D.nearest (decide (n < 0)) n.natAbs 0)
  obtain ⟨q, hq, e, _⟩ := nearest_any (decide (n < 0)) n.natAbs 0
  rw [e, skey_word _ _ hq, decide_eq_false (by omega)]
  simp
theorem ofS_pos {n : Int} (h : 0 < n) : posD (D.read (ofS n)) := by
  unfold ofS
  obtain ⟨q, h1, hq, e⟩ := nearest_pos (decide (n < 0)) n.natAbs 1074 (by omega)
  have e : floatOfInt .f64 n = D.word (decide (n < 0)) q := e
  rw [decide_eq_false (by omega)] at e
  have hn : fnan (D.word false q) = false := by
    unfold fnan
    rw [(word_sgn false q (by omega)).2]
    simp; omega
  have ht : toldS (D.word false q) = D.word false q := by unfold toldS; rw [hn]; rfl
  rw [e, ht]
  refine read_pos' ?_ hn
  rw [skey_word _ _ hq]
  simp; omega
end Go.Proofs.YthhbbmebfmfgjaaGreatDoor
namespace Go.Proofs.YthhbbmebfmfgjaaGreatDoor.PB
open Go.RowKit Go.Proofs.YthhbbmebfmfgjaaGreatDoorW.PrintWords Go.Proofs.YthhbbmebfmfgjaaGreatDoorW.PrintLast

def low (x : Int) : Prop := 0 ≤ skey x.toNat
def posW (x : Int) : Prop := posD (Ieee.Format.read D x.toNat)
theorem low_plus {a b : Int} (ha : low a) (hb : low b) : low (doI 0 a b) := by
  unfold low doI
  rw [Int.toNat_natCast]
  exact low_add ha hb
theorem low_times {a b : Int} (ha : low a) (hb : low b) : low (doI 2 a b) := by
  unfold low doI
  rw [Int.toNat_natCast]
  exact low_mul ha hb
theorem low_by {a b : Int} (ha : low a) (hb : posW b) : low (doI 3 a b) := by
  unfold low doI
  rw [Int.toNat_natCast]
  exact low_div ha hb
theorem low_of {n : Int} (h : 0 ≤ n) : low (ofI n) := by
  unfold low ofI
  rw [Int.toNat_natCast]
  exact ofS_low h
theorem pos_of {n : Int} (h : 0 < n) : posW (ofI n) := by
  unfold posW ofI
  rw [Int.toNat_natCast]
  exact ofS_pos h
theorem pos_two : posW 4611686018427387904 := by
  have := pos_of (n := 2) (by decide)
  rw [of_two] at this
  exact this
theorem low_edge {far a : Int} (hf : low far) (ha : low a) : low (edgeI far a) := by
  unfold edgeI
  split
  · exact low_by ha pos_two
  · exact hf
theorem low_bef {c : Bool} {D s f bef : Int} (hs : low s) (hf : low f) (hb : low bef) : low (befI (zeroI c D f) D s f bef) := by
  unfold befI
  split
  · rename_i hz
    have hD : posW D := by
      unfold zeroI at hz
      split at hz
      · split at hz
        · rename_i h2
          unfold holdsI at h2
          obtain ⟨h3, h4⟩ := holds2 h2
          have h4 : skey 0 < skey D.toNat := h4
          rw [skey0] at h4
          exact read_pos' h4 h3
        · cases hz
      · cases hz
    split
    · exact low_times hs (low_by hf hD)
    · exact hb
  · exact hb
theorem low_tail {fn w D s bef beh : Int} (hD : low D) (hs : low s) (hp : posW s) (hb : low bef) (hh : low beh) (hw : 0 < wrap64 w) : low (tailI fn w D s bef beh) := by
  unfold tailI
  have h1 := low_by (low_plus (low_plus hs hb) hh) hp
  split
  · exact low_times hD (low_by h1 (pos_of hw))
  · exact low_times hD h1
theorem apart_eq {a b : Int} (h0 : 0 ≤ b - a) (h1 : b - a < 9223372036854775808) : wrap64 (IntKind.u64.wrap (IntKind.u64.wrap b - IntKind.u64.wrap a)) = b - a := by
  simp [IntKind.wrap, IntKind.bits, IntKind.signed]
  unfold wrap64
  omega
theorem low_grown {fn n t w D a0 a1 b0 : Int} {c : Bool} (hn : 0 < n) (hD : low D) (hf : low a1) (h1 : 0 < b0 - a0) (h2 : 0 ≤ t - b0) (h3 : t - a0 < w) (h4 : w < 4611686018427387904) : low (grownI fn n t w c D a0 a1 b0) := by
  have e1 : apI a0 b0 = ofI (b0 - a0) := by unfold apI; rw [apart_eq (by omega) (by omega)]
  have e2 : apI b0 t = ofI (t - b0) := by unfold apI; rw [apart_eq (by omega) (by omega)]
  have e3 : wrap64 (IntKind.u64.wrap (w - IntKind.u64.wrap (IntKind.u64.wrap t - IntKind.u64.wrap a0))) = w - (t - a0) := by
    simp [IntKind.wrap, IntKind.bits, IntKind.signed]
    unfold wrap64
    omega
  have hs : low (apI a0 b0) := by rw [e1]; exact low_of (by omega)
  have hp : posW (apI a0 b0) := by rw [e1]; exact pos_of h1
  have ha : low (doI 3 (apI a0 b0) (ofI n)) := low_by hs (pos_of hn)
  unfold grownI
  refine low_tail hD hs hp (low_bef hs hf (low_edge ?_ ha)) (low_edge ?_ ha) ?_
  · rw [e3]; exact low_of (by omega)
  · rw [e2]; exact low_of h2
  · rw [wrap64_of (by omega) (by omega)]; omega

theorem rdT_word' {l : List S44} (hw : (l.map S44.f1).all word = true) {i : Int} (h : i.toNat < l.length) : word (rd_T44 l i).f1 = true := by
  unfold rd_T44
  rw [List.getD_eq_getElem?_getD, List.getElem?_eq_getElem h]
  exact List.all_eq_true.1 hw _ (List.mem_map.2 ⟨_, List.getElem_mem h, rfl⟩)

/-- no value is NaN or below 0 -/
def good (l : List S44) (i : Int) : Prop := fnan (rd_T44 l i).f1.toNat = false ∧ low (rd_T44 l i).f1

theorem drops2 {fn t w : Int} {l : List S44} (hw : (l.map S44.f1).all word = true) (hl : l.length ≤ 200) (hg : ∀ i : Int, 0 ≤ i → i < l.length → good l i) (c : Bool) (a0 a1 a2 b0 b1 b2 : Int) :
    ∀ (n : Nat) (i D : Int), 1 ≤ i → i + n = l.length → word D = true → (low D ∨ (D = doI 1 (rd_T44 l ((l.length : Int) - 1)).f1 (rd_T44 l 0).f1 ∧ skey (rd_T44 l 0).f1.toNat ≤ skey (rd_T44 l (i - 1)).f1.toNat)) →
      ∃ D', word D' = true ∧ low D' ∧ ∀ k, eval_Grown.l0 (k + n + 1) fn l t w D c i a0 a1 a2 b0 b1 b2 = eval_Grown.j2 k fn l t w D' c a0 a1 a2 b0 b1 b2 := by
  intro n
  induction n with
  | zero =>
    intro i D h1 hi hD hinv
    obtain rfl : i = l.length := by omega
    refine ⟨D, hD, ?_, fun k => ?_⟩
    · rcases hinv with h | ⟨rfl, h⟩
      · exact h
      · have g1 := hg ((l.length : Int) - 1) (by omega) (by omega)
        have g0 := hg 0 (by omega) (by omega)
        unfold low doI
        rw [Int.toNat_natCast]
        exact sub_low g0.2 h g1.1 g0.1
    · conv => lhs; rw [eval_Grown.l0]
      rw [if_neg (by omega)]
  | succ n ih =>
    intro i D h1 hi hD hinv
    have e1 : wrap64 (i - 1) = i - 1 := wrap64_of (by omega) (by omega)
    have e2 : wrap64 (i + 1) = i + 1 := wrap64_of (by omega) (by omega)
    have hp := rdT_word' hw (i := i) (by omega)
    have hq := rdT_word' hw (i := i - 1) (by omega)
    have gi := hg i (by omega) (by omega)
    have gp := hg (i - 1) (by omega) (by omega)
    by_cases hh : holdsI 3 (rd_T44 l i).f1 (rd_T44 l (i - 1)).f1 = true
    · have hlow : low (doI 0 D (rd_T44 l (i - 1)).f1) := by
        rcases hinv with h | ⟨rfl, h⟩
        · exact low_plus h gp.2
        · have g1 := hg ((l.length : Int) - 1) (by omega) (by omega)
          have g0 := hg 0 (by omega) (by omega)
          have hb := sub_bound g1.2 g0.2 g1.1 g0.1
          unfold low
          rw [show (doI 0 (doI 1 (rd_T44 l ((l.length : Int) - 1)).f1 (rd_T44 l 0).f1) (rd_T44 l (i - 1)).f1).toNat = optT (Ieee.Format.add Go.Proofs.YthhbbmebfmfgjaaGreatDoor.D (optT (Ieee.Format.sub Go.Proofs.YthhbbmebfmfgjaaGreatDoor.D (rd_T44 l ((l.length : Int) - 1)).f1.toNat (rd_T44 l 0).f1.toNat)) (rd_T44 l (i - 1)).f1.toNat) by unfold doI; rw [Int.toNat_natCast, Int.toNat_natCast]; rfl]
          exact add_neg gp.2 (by omega)
      obtain ⟨D', hD', hlD, h⟩ := ih (i + 1) (doI 0 D (rd_T44 l (i - 1)).f1) (by omega) (by omega) (word_do op0 hD hq) (.inl hlow)
      refine ⟨D', hD', hlD, fun k => ?_⟩
      rw [← h k, show k + (n + 1) + 1 = (k + n + 1) + 1 by omega]
      conv => lhs; rw [eval_Grown.l0]
      rw [e1, if_pos (by omega), if_pos (by omega), if_pos (by omega), if_pos (by omega), holds_val hp hq, Option.bind_some, if_pos hh, plus_val hD hq, Option.bind_some, e2]
    · have hinv' : low D ∨ (D = doI 1 (rd_T44 l ((l.length : Int) - 1)).f1 (rd_T44 l 0).f1 ∧ skey (rd_T44 l 0).f1.toNat ≤ skey (rd_T44 l (i + 1 - 1)).f1.toNat) := by
        rcases hinv with h | ⟨h0, h⟩
        · exact .inl h
        · refine .inr ⟨h0, ?_⟩
          unfold holdsI at hh
          rw [holds3, gi.1, gp.1] at hh
          simp at hh
          rw [show i + 1 - 1 = i by omega]
          omega
      obtain ⟨D', hD', hlD, h⟩ := ih (i + 1) D (by omega) (by omega) hD hinv'
      refine ⟨D', hD', hlD, fun k => ?_⟩
      rw [← h k, show k + (n + 1) + 1 = (k + n + 1) + 1 by omega]
      conv => lhs; rw [eval_Grown.l0]
      rw [e1, if_pos (by omega), if_pos (by omega), if_pos (by omega), if_pos (by omega), holds_val hp hq, Option.bind_some, if_neg hh, e2]

/-- A COUNTER: what it grew by, in a window narrower than 2^62. -/
theorem grown_low (fn : Int) (hfn : fn = 0 ∨ fn = 1) (l : List S44) (t w : Int) (hw : (l.map S44.f1).all word = true) (hl : l.length ≤ 200) (h2 : 2 ≤ l.length) (hg : ∀ i : Int, 0 ≤ i → i < l.length → good l i)
    (ht : (rd_T44 l 0).f0 < (rd_T44 l ((l.length : Int) - 1)).f0) (hb : (rd_T44 l ((l.length : Int) - 1)).f0 ≤ t) (ha : t - (rd_T44 l 0).f0 < w) (hwd : w < 4611686018427387904) :
    ∃ v, low v ∧ word v = true ∧ ∀ k, 300 ≤ k → eval_Grown.f k fn l t w = some (v, true) := by
  have mono : ∀ {r : Int × Bool} {k : Nat}, eval_Grown.f 300 fn l t w = some r → 300 ≤ k → eval_Grown.f k fn l t w = some r := by
    intro r k h hk
    induction hk with
    | refl => exact h
    | step _ ih => exact eval_Grown.mono _ _ _ _ _ _ ih
  have e1 : wrap64 ((l.length : Int) - 1) = (l.length : Int) - 1 := wrap64_of (by omega) (by omega)
  have hp := rdT_word' hw (i := (l.length : Int) - 1) (by omega)
  have hq := rdT_word' hw (i := 0) (by simp; omega)
  have hne : ¬ fn = 2 := by omega
  have hbq : (fn != 2) = true := by simpa using hne
  obtain ⟨D', hD', hlD, h⟩ := drops2 (fn := fn) (t := t) (w := w) hw hl hg true (rd_T44 l 0).f0 (rd_T44 l 0).f1 (rd_T44 l 0).f2 (rd_T44 l ((l.length : Int) - 1)).f0 (rd_T44 l ((l.length : Int) - 1)).f1 (rd_T44 l ((l.length : Int) - 1)).f2 (l.length - 1) 1 (doI 1 (rd_T44 l ((l.length : Int) - 1)).f1 (rd_T44 l 0).f1) (by omega) (by omega) (word_do op1 hp hq) (.inr ⟨rfl, by rw [show (1 : Int) - 1 = 0 from rfl]; omega⟩)
  have hk : (299 : Nat) = (299 - (l.length - 1) - 1) + (l.length - 1) + 1 := by omega
  have hj : eval_Grown.j0 300 fn l t w false = some (grownI fn (wrap64 ((l.length : Int) - 1)) t w true D' (rd_T44 l 0).f0 (rd_T44 l 0).f1 (rd_T44 l ((l.length : Int) - 1)).f0, true) := by
    rw [show (300 : Nat) = 299 + 1 from rfl]
    conv => lhs; rw [eval_Grown.j0]
    rw [if_neg (by decide), if_pos (by omega), e1, if_pos (by omega), if_pos (by omega), less_val hp hq, Option.bind_some, if_neg hne, hbq, hk, h, show 299 - (l.length - 1) - 1 = (299 - (l.length - 1) - 6) + 5 by omega]
    have := j2_val (fn := fn) (t := t) (w := w) (D := D') (a0 := (rd_T44 l 0).f0) (a1 := (rd_T44 l 0).f1) (a2 := (rd_T44 l 0).f2) (b0 := (rd_T44 l ((l.length : Int) - 1)).f0) (b1 := (rd_T44 l ((l.length : Int) - 1)).f1) (b2 := (rd_T44 l ((l.length : Int) - 1)).f2) (l := l) (c := true) (299 - (l.length - 1) - 6) hD' hq
    rw [e1] at this
    exact this
  refine ⟨grownI fn (wrap64 ((l.length : Int) - 1)) t w true D' (rd_T44 l 0).f0 (rd_T44 l 0).f1 (rd_T44 l ((l.length : Int) - 1)).f0, ?_, ?_, fun k hk => mono ?_ hk⟩
  rotate_left 2
  · unfold eval_Grown.f
    rw [if_neg (by omega)]
    rcases hfn with h0 | h0
    · rw [if_pos h0]; exact hj
    · rw [if_neg (by omega), if_pos h0]; exact hj
  · rw [e1]
    exact low_grown (by omega) hlD (hg 0 (by omega) (by omega)).2 (by omega) (by omega) ha hwd
  · have : ∀ x : Nat, x < 18446744073709551616 → word (x : Int) = true := fun x hx => word_nat hx
    unfold grownI tailI
    split
    · exact word_do op2 hD' (word_do op3 (word_do op3 (word_do op0 (word_do op0 (word_of _) (word_bef hD' (word_of _) hq (word_edge (word_of _) (word_do op3 (word_of _) (word_of _))))) (word_edge (word_of _) (word_do op3 (word_of _) (word_of _)))) (word_of _)) (word_of _))
    · exact word_do op2 hD' (word_do op3 (word_do op0 (word_do op0 (word_of _) (word_bef hD' (word_of _) hq (word_edge (word_of _) (word_do op3 (word_of _) (word_of _))))) (word_edge (word_of _) (word_do op3 (word_of _) (word_of _)))) (word_of _))
end Go.Proofs.YthhbbmebfmfgjaaGreatDoor.PB
