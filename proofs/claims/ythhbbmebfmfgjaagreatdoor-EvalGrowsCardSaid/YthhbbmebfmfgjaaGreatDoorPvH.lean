import Derived.Test.YthhbbmebfmfgjaaGreatDoorPvG
import Derived.Test.YthhbbmebfmfgjaaGreatDoorPBx4
/-! How much points grew: the reference has the same value. -/
namespace Go.Proofs.YthhbbmebfmfgjaaGreatDoor.PB
open Go.RowKit Go.Proofs.YthhbbmebfmfgjaaGreatDoorW.PrintWords Go.Proofs.YthhbbmebfmfgjaaGreatDoorW.PrintLast

theorem rj4_val {fn t w D s a bef b0 b1 b2 : Int} (k : Nat) (hD : word D = true) (hs : word s = true) (ha : word a = true) (hb : word bef = true) : manometerref27_Grown.j4 (k + 1) fn t w D s a bef b0 b1 b2 = some (tailI fn w D s bef (edgeI (apI b0 t) a), true) := by
  have hh : word (edgeI (apI b0 t) a) = true := word_edge (word_of _) ha
  have w1 := word_do op0 hs hb
  have w2 := word_do op0 w1 hh
  have w3 := word_do op3 w2 hs
  rw [manometerref27_Grown.j4]
  unfold tailI
  rw [apart_val, Option.bind_some]
  change ((manometerref27_edge.f (apI b0 t) a).bind _) = _
  rw [edge_val (show word (apI b0 t) = true from word_of _) ha, Option.bind_some, do_eq, do_val hs hb, Option.bind_some, do_eq, do_val w1 hh, Option.bind_some, do_eq, do_val w2 hs, Option.bind_some]
  split
  · rw [ticks_eq, Option.bind_some, do_eq, do_val w3 (word_of _), Option.bind_some, do_eq, do_val hD (word_do op3 w3 (word_of _)), Option.bind_some]
  · rw [do_eq, do_val hD w3, Option.bind_some]
theorem rj3_val {fn t w D s a bef x f y b0 b1 b2 : Int} {z : Bool} (k : Nat) (hD : word D = true) (hs : word s = true) (ha : word a = true) (hb : word bef = true) (hf : word f = true) : manometerref27_Grown.j3 (k + 2) fn t w D s a bef z x f y b0 b1 b2 = some (tailI fn w D s (befI z D s f bef) (edgeI (apI b0 t) a), true) := by
  have w1 := word_do op3 hf hD
  have w2 := word_do op2 hs w1
  rw [manometerref27_Grown.j3]
  unfold befI
  by_cases hz : z = true
  · rw [if_pos hz, if_pos hz, do_eq, do_val hf hD, Option.bind_some, do_eq, do_val hs w1, Option.bind_some, holds_eq, holds_val w2 hb, Option.bind_some]
    split
    · exact rj4_val k hD hs ha w2
    · exact rj4_val k hD hs ha hb
  · rw [if_neg hz, if_neg hz]
    exact rj4_val k hD hs ha hb
theorem rtail_val {fn t w D a0 a1 a2 b0 b1 b2 : Int} {l : List S44} {c : Bool} (k : Nat) (hD : word D = true) (hf : word a1 = true) : manometerref27_Grown.l0 (k + 3) fn l t w c D (l.length : Int) a0 a1 a2 b0 b1 b2 = some (grownI fn (wrap64 ((l.length : Int) - 1)) t w c D a0 a1 b0, true) := by
  have ws : word (apI a0 b0) = true := word_of _
  have wa := word_do op3 ws (word_of (wrap64 ((l.length : Int) - 1)))
  rw [manometerref27_Grown.l0]
  unfold grownI
  rw [if_neg (by omega), apart_val, Option.bind_some]
  change ((manometerref04_Of.f (wrap64 ((l.length : Int) - 1))).bind fun t214 => ((manometerref04_Do.f 3 (apI a0 b0) t214).bind _)) = _
  rw [of_eq, of_val, Option.bind_some, do_eq, do_val ws (word_of _), Option.bind_some, ticks_eq, Option.bind_some, edge_val (word_of _) wa, Option.bind_some]
  have wb := word_edge (far := ofI (wrap64 (IntKind.u64.wrap (w - IntKind.u64.wrap (IntKind.u64.wrap t - IntKind.u64.wrap a0))))) (word_of _) wa
  unfold zeroI
  by_cases hc : c = true
  · rw [if_pos hc, if_pos hc, holds_eq, holds_val hD word0, Option.bind_some]
    by_cases h2 : holdsI 2 D 0 = true
    · rw [if_pos h2, if_pos h2, holds_eq, holds_val hf word0, Option.bind_some]
      exact rj3_val k hD ws wa wb hf
    · rw [if_neg h2, if_neg h2]
      exact rj3_val k hD ws wa wb hf
  · rw [if_neg hc, if_neg hc]
    exact rj3_val k hD ws wa wb hf

theorem rdT_word {l : List S44} (hw : (l.map S44.f1).all word = true) {i : Int} (h : i.toNat < l.length) : word (rd_T44 l i).f1 = true := by
  unfold rd_T44
  rw [List.getD_eq_getElem?_getD, List.getElem?_eq_getElem h]
  exact List.all_eq_true.1 hw _ (List.mem_map.2 ⟨_, List.getElem_mem h, rfl⟩)
theorem wr64 {n : Int} (h0 : -9223372036854775808 ≤ n) (h1 : n ≤ 9223372036854775807) : wrap64 n = n := wrap64_of h0 h1

/-- the drops of a counter, gathered by both texts -/
theorem drops {fn t w : Int} {l : List S44} (hw : (l.map S44.f1).all word = true) (hl : l.length ≤ 200) (c : Bool) (a0 a1 a2 b0 b1 b2 : Int) :
    ∀ (n : Nat) (i D : Int), 1 ≤ i → i + n = l.length → word D = true → ∃ D', word D' = true ∧ ∀ k, eval_Grown.l0 (k + n + 1) fn l t w D c i a0 a1 a2 b0 b1 b2 = eval_Grown.j2 k fn l t w D' c a0 a1 a2 b0 b1 b2 ∧ manometerref27_Grown.l0 (k + n + 1) fn l t w true D i a0 a1 a2 b0 b1 b2 = manometerref27_Grown.l0 (k + 1) fn l t w true D' (l.length : Int) a0 a1 a2 b0 b1 b2 := by
  intro n
  induction n with
  | zero =>
    intro i D h1 hi hD
    obtain rfl : i = l.length := by omega
    refine ⟨D, hD, fun k => ⟨?_, rfl⟩⟩
    conv => lhs; rw [eval_Grown.l0]
    rw [if_neg (by omega)]
  | succ n ih =>
    intro i D h1 hi hD
    have hp := rdT_word hw (i := i) (by omega)
    have hq := rdT_word hw (i := wrap64 (i - 1)) (by rw [wr64 (by omega) (by omega)]; omega)
    have e1 : wrap64 (i - 1) = i - 1 := wr64 (by omega) (by omega)
    have e2 : wrap64 (i + 1) = i + 1 := wr64 (by omega) (by omega)
    by_cases hh : holdsI 3 (rd_T44 l i).f1 (rd_T44 l (wrap64 (i - 1))).f1 = true
    · obtain ⟨D', hD', h⟩ := ih (i + 1) (doI 0 D (rd_T44 l (wrap64 (i - 1))).f1) (by omega) (by omega) (word_do op0 hD hq)
      refine ⟨D', hD', fun k => ?_⟩
      obtain ⟨h3, h4⟩ := h k
      constructor
      · rw [← h3, show k + (n + 1) + 1 = (k + n + 1) + 1 by omega]
        conv => lhs; rw [eval_Grown.l0]
        rw [if_pos (by omega), if_pos (by omega), if_pos (by omega), if_pos (by omega), holds_val hp hq, Option.bind_some, if_pos hh, plus_val hD hq, Option.bind_some, e2]
      · rw [← h4, show k + (n + 1) + 1 = (k + n + 1) + 1 by omega]
        conv => lhs; rw [manometerref27_Grown.l0]
        rw [if_pos (by omega), if_pos rfl, if_pos (by omega), if_pos (by omega), if_pos (by omega), holds_eq, holds_val hp hq, Option.bind_some, if_pos hh, do_eq, do_val hD hq, Option.bind_some, e2]
    · obtain ⟨D', hD', h⟩ := ih (i + 1) D (by omega) (by omega) hD
      refine ⟨D', hD', fun k => ?_⟩
      obtain ⟨h3, h4⟩ := h k
      constructor
      · rw [← h3, show k + (n + 1) + 1 = (k + n + 1) + 1 by omega]
        conv => lhs; rw [eval_Grown.l0]
        rw [if_pos (by omega), if_pos (by omega), if_pos (by omega), if_pos (by omega), holds_val hp hq, Option.bind_some, if_neg hh, e2]
      · rw [← h4, show k + (n + 1) + 1 = (k + n + 1) + 1 by omega]
        conv => lhs; rw [manometerref27_Grown.l0]
        rw [if_pos (by omega), if_pos rfl, if_pos (by omega), if_pos (by omega), if_pos (by omega), holds_eq, holds_val hp hq, Option.bind_some, if_neg hh, e2]
/-- no counter: the reference goes over the points in vain -/
theorem no_drops {fn t w : Int} {l : List S44} (hl : l.length ≤ 200) (D a0 a1 a2 b0 b1 b2 : Int) :
    ∀ (n : Nat) (i : Int), 1 ≤ i → i + n = l.length → ∀ k, manometerref27_Grown.l0 (k + n + 1) fn l t w false D i a0 a1 a2 b0 b1 b2 = manometerref27_Grown.l0 (k + 1) fn l t w false D (l.length : Int) a0 a1 a2 b0 b1 b2 := by
  intro n
  induction n with
  | zero =>
    intro i h1 hi k
    obtain rfl : i = l.length := by omega
    rfl
  | succ n ih =>
    intro i h1 hi k
    have e2 : wrap64 (i + 1) = i + 1 := wr64 (by omega) (by omega)
    rw [← ih (i + 1) (by omega) (by omega) k, show k + (n + 1) + 1 = (k + n + 1) + 1 by omega]
    conv => lhs; rw [manometerref27_Grown.l0]
    rw [if_pos (by omega), if_neg (by decide), e2]

theorem grown_same (fn : Int) (l : List S44) (t w : Int) (hw : (l.map S44.f1).all word = true) (hl : l.length ≤ 200) : ∃ r, eval_Grown.f 300 fn l t w = some r ∧ manometerref27_Grown.f 300 fn l t w = some r := by
  have none : ∀ (u : Nat), eval_Grown.j0 (u + 1) fn l t w true = some (0, false) := by
    intro u; rw [eval_Grown.j0]; rw [if_pos rfl]
  have rnone : ∀ (u : Nat) (c : Bool), manometerref27_Grown.j1 (u + 1) fn l t w c true = some (0, false) := by
    intro u c; rw [manometerref27_Grown.j1]; rw [if_pos rfl]
  unfold eval_Grown.f
  unfold manometerref27_Grown.f
  by_cases h2 : (l.length : Int) < 2
  · refine ⟨(0, false), ?_, ?_⟩
    · rw [if_pos h2]; exact none 299
    · have hd : decide ((l.length : Int) < 2) = true := by simpa using h2
      have all : ∀ c, manometerref27_Grown.j0 300 fn l t w c = some (0, false) := by
        intro c
        rw [show (300 : Nat) = 298 + 1 + 1 from rfl]
        rw [manometerref27_Grown.j0]
        rw [hd]
        split
        · exact rnone _ _
        · split
          · exact rnone _ _
          · exact rnone _ _
      split
      · exact all _
      · exact all _
  · rw [if_neg h2]
    have hlen : 2 ≤ (l.length : Int) := by omega
    have e1 : wrap64 ((l.length : Int) - 1) = (l.length : Int) - 1 := wr64 (by omega) (by omega)
    have hp := rdT_word hw (i := wrap64 ((l.length : Int) - 1)) (by rw [e1]; omega)
    have hq := rdT_word hw (i := 0) (by simp; omega)
    have hD := word_do op1 hp hq
    have ej : ∀ (u : Nat), eval_Grown.j0 (u + 1) fn l t w false = (if fn = 2 then (eval_Grown.j2 u fn l t w (doI 1 (rd_T44 l (wrap64 ((l.length : Int) - 1))).f1 (rd_T44 l 0).f1) (fn != 2) ((rd_T44 l 0).f0) ((rd_T44 l 0).f1) ((rd_T44 l 0).f2) ((rd_T44 l (wrap64 ((l.length : Int) - 1))).f0) ((rd_T44 l (wrap64 ((l.length : Int) - 1))).f1) ((rd_T44 l (wrap64 ((l.length : Int) - 1))).f2)) else (eval_Grown.l0 u fn l t w (doI 1 (rd_T44 l (wrap64 ((l.length : Int) - 1))).f1 (rd_T44 l 0).f1) (fn != 2) 1 ((rd_T44 l 0).f0) ((rd_T44 l 0).f1) ((rd_T44 l 0).f2) ((rd_T44 l (wrap64 ((l.length : Int) - 1))).f0) ((rd_T44 l (wrap64 ((l.length : Int) - 1))).f1) ((rd_T44 l (wrap64 ((l.length : Int) - 1))).f2))) := by
      intro u
      conv => lhs; rw [eval_Grown.j0]
      rw [if_neg (by decide), if_pos (by omega), if_pos (by omega), if_pos (by omega), less_val hp hq, Option.bind_some]
    have rj : ∀ (u : Nat) (c : Bool), manometerref27_Grown.j1 (u + 1) fn l t w c (decide ((l.length : Int) < 2)) = manometerref27_Grown.l0 u fn l t w c (doI 1 (rd_T44 l (wrap64 ((l.length : Int) - 1))).f1 (rd_T44 l 0).f1) 1 ((rd_T44 l 0).f0) ((rd_T44 l 0).f1) ((rd_T44 l 0).f2) ((rd_T44 l (wrap64 ((l.length : Int) - 1))).f0) ((rd_T44 l (wrap64 ((l.length : Int) - 1))).f1) ((rd_T44 l (wrap64 ((l.length : Int) - 1))).f2) := by
      intro u c
      conv => lhs; rw [manometerref27_Grown.j1]
      rw [if_neg (by simpa using h2), if_pos (by omega), if_pos (by omega), if_pos (by omega), do_eq, do_val hp hq, Option.bind_some]
    generalize hDD : doI 1 (rd_T44 l (wrap64 ((l.length : Int) - 1))).f1 (rd_T44 l 0).f1 = D at *
    generalize hP : rd_T44 l 0 = P at *
    generalize hQ : rd_T44 l (wrap64 ((l.length : Int) - 1)) = Q at *
    have counter : (fn = 0 ∨ fn = 1) → ∃ r, eval_Grown.j0 300 fn l t w false = some r ∧ manometerref27_Grown.j0 300 fn l t w true = some r := by
      intro hfn
      have hne : ¬ fn = 2 := by omega
      have hb : (fn != 2) = true := by simpa using hne
      obtain ⟨D', hD', h⟩ := drops (fn := fn) (t := t) (w := w) hw hl true P.f0 P.f1 P.f2 Q.f0 Q.f1 Q.f2 (l.length - 1) 1 D (by omega) (by omega) hD
      have hk : (299 : Nat) = (299 - (l.length - 1) - 1) + (l.length - 1) + 1 := by omega
      have hk2 : (298 : Nat) = (298 - (l.length - 1) - 1) + (l.length - 1) + 1 := by omega
      refine ⟨(grownI fn (wrap64 ((l.length : Int) - 1)) t w true D' P.f0 P.f1 Q.f0, true), ?_, ?_⟩
      rotate_left
      · rw [show (300 : Nat) = 299 + 1 from rfl]
        rw [manometerref27_Grown.j0]
        rw [if_pos rfl, show (299 : Nat) = 298 + 1 from rfl, rj, hk2, (h _).2, show (298 - (l.length - 1) - 1) + 1 = (298 - (l.length - 1) - 3) + 3 by omega]
        exact rtail_val _ hD' hq
      · rw [show (300 : Nat) = 299 + 1 from rfl, ej, if_neg hne, hb, hk, (h _).1, show 299 - (l.length - 1) - 1 = (299 - (l.length - 1) - 6) + 5 by omega]
        exact j2_val _ hD' hq
    by_cases h0 : fn = 0
    · rw [if_pos h0, if_pos h0]
      exact counter (.inl h0)
    · rw [if_neg h0, if_neg h0]
      by_cases h1 : fn = 1
      · rw [if_pos h1, show (fn == 1) = true by simpa using h1]
        exact counter (.inr h1)
      · rw [if_neg h1, show (fn == 1) = false by simpa using h1]
        by_cases h3 : fn = 2
        · have hb : (fn != 2) = false := by simpa using h3
          have hk2 : (298 : Nat) = (298 - (l.length - 1) - 1) + (l.length - 1) + 1 := by omega
          refine ⟨(grownI fn (wrap64 ((l.length : Int) - 1)) t w false D P.f0 P.f1 Q.f0, true), ?_, ?_⟩
          rotate_left
          · rw [show (300 : Nat) = 299 + 1 from rfl]
            rw [manometerref27_Grown.j0]
            rw [if_neg (by decide), if_pos h3, show (299 : Nat) = 298 + 1 from rfl, rj, hk2, no_drops hl D P.f0 P.f1 P.f2 Q.f0 Q.f1 Q.f2 (l.length - 1) 1 (by omega) (by omega), show (298 - (l.length - 1) - 1) + 1 = (298 - (l.length - 1) - 3) + 3 by omega]
            exact rtail_val _ hD hq
          · rw [hb, show (300 : Nat) = 299 + 1 from rfl, ej, if_pos h3, hb, show (299 : Nat) = 294 + 5 from rfl]
            exact j2_val _ hD hq
        · refine ⟨(0, false), ?_, ?_⟩
          · rw [show (fn != 2) = true by simpa using h3]; exact none 299
          · rw [show (300 : Nat) = 298 + 1 + 1 from rfl]
            rw [manometerref27_Grown.j0]
            rw [if_neg (by decide), if_neg h3]
            exact rnone _ _
end Go.Proofs.YthhbbmebfmfgjaaGreatDoor.PB
