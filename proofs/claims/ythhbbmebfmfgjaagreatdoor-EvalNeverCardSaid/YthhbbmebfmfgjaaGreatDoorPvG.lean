import Derived.Test.YthhbbmebfmfgjaaGreatDoorPvA
import Derived.Laws.FloatArith
/-! How much points grew: both texts have one value. -/
namespace Go.Proofs.YthhbbmebfmfgjaaGreatDoor.PB
open Go.RowKit Go.Proofs.YthhbbmebfmfgjaaGreatDoorW.PrintWords Go.Proofs.YthhbbmebfmfgjaaGreatDoorW.PrintLast

def doI (op a b : Int) : Int := ((doS op a.toNat b.toNat : Nat) : Int)
def holdsI (op a b : Int) : Bool := holdsS op a.toNat b.toNat
def ofI (n : Int) : Int := ((ofS n : Nat) : Int)
theorem do_val {op a b : Int} (ha : word a = true) (hb : word b = true) : real_Do.f op a b = some (doI op a b) := by
  unfold real_Do.f
  unfold doI
  rw [if_pos ha, if_pos hb]
theorem holds_val {op a b : Int} (ha : word a = true) (hb : word b = true) : real_Holds.f op a b = some (holdsI op a b) := by
  unfold real_Holds.f
  unfold holdsI
  rw [if_pos ha, if_pos hb]
theorem holds_eq (a b c : Int) : manometerref04_Holds.f a b c = real_Holds.f a b c := rfl
theorem of_val (n : Int) : real_Of.f n = some (ofI n) := rfl
theorem word_do {op a b : Int} (hop : op ≠ 4) (ha : word a = true) (hb : word b = true) : word (doI op a b) = true := word_nat (doS_lt hop (word_lt ha) (word_lt hb))
theorem ofS_lt (n : Int) : ofS n < 18446744073709551616 := by
  unfold ofS
  refine toldS_lt _ ?_
  have := floatOfInt_wf .f64 n
  simp [Lit.wf] at this
  exact this
theorem word_of (n : Int) : word (ofI n) = true := word_nat (ofS_lt n)
theorem of_two : ofI 2 = 4611686018427387904 := by kernel_rfl
theorem word0 : word 0 = true := by decide
theorem word2 : word 4611686018427387904 = true := by decide
theorem wordT : word 4607632778762754458 = true := by decide
theorem op0 : (0 : Int) ≠ 4 := by decide
theorem op1 : (1 : Int) ≠ 4 := by decide
theorem op2 : (2 : Int) ≠ 4 := by decide
theorem op3 : (3 : Int) ≠ 4 := by decide

theorem plus_val {a b : Int} (ha : word a = true) (hb : word b = true) : eval_plus.f a b = some (doI 0 a b) := by unfold eval_plus.f; rw [do_val ha hb]; rfl
theorem less_val {a b : Int} (ha : word a = true) (hb : word b = true) : eval_less.f a b = some (doI 1 a b) := by unfold eval_less.f; rw [do_val ha hb]; rfl
theorem mul_val {a b : Int} (ha : word a = true) (hb : word b = true) : eval_times.f a b = some (doI 2 a b) := by unfold eval_times.f; rw [do_val ha hb]; rfl
theorem by_val {a b : Int} (ha : word a = true) (hb : word b = true) : eval_by.f a b = some (doI 3 a b) := by unfold eval_by.f; rw [do_val ha hb]; rfl
theorem ticks_val (n : Int) : eval_ticks.f n = some (ofI (wrap64 n)) := rfl
theorem ticks_eq (n : Int) : manometerref27_ticks.f n = some (ofI (wrap64 n)) := rfl
theorem apart_val (a b : Int) : manometerref27_apart.f a b = some (ofI (wrap64 (IntKind.u64.wrap (IntKind.u64.wrap b - IntKind.u64.wrap a)))) := rfl

def edgeI (far a : Int) : Int := if holdsI 4 far (doI 2 a 4607632778762754458) = true then doI 3 a 4611686018427387904 else far
theorem word_edge {far a : Int} (hf : word far = true) (ha : word a = true) : word (edgeI far a) = true := by
  unfold edgeI
  split
  · exact word_do op3 ha word2
  · exact hf
theorem edge_val {far a : Int} (hf : word far = true) (ha : word a = true) : manometerref27_edge.f far a = some (edgeI far a) := by
  unfold manometerref27_edge.f
  unfold edgeI
  rw [do_eq, do_val ha wordT, Option.bind_some, holds_eq, holds_val hf (word_do op2 ha wordT), Option.bind_some]
  split
  · rw [of_eq, of_val, Option.bind_some, of_two, do_eq, do_val ha word2, Option.bind_some]
  · rfl
def tailI (fn w D s bef beh : Int) : Int :=
  if fn = 0 then doI 2 D (doI 3 (doI 3 (doI 0 (doI 0 s bef) beh) s) (ofI (wrap64 w))) else doI 2 D (doI 3 (doI 0 (doI 0 s bef) beh) s)

theorem j6_val {fn w D s bef beh : Int} (k : Nat) (hD : word D = true) (hs : word s = true) (hb : word bef = true) (hh : word beh = true) : eval_Grown.j6 (k + 1) fn w D s bef beh = some (tailI fn w D s bef beh, true) := by
  have w1 := word_do op0 hs hb
  have w2 := word_do op0 w1 hh
  have w3 := word_do op3 w2 hs
  rw [eval_Grown.j6]
  unfold tailI
  rw [plus_val hs hb, Option.bind_some, plus_val w1 hh, Option.bind_some, by_val w2 hs, Option.bind_some]
  split
  · rw [ticks_val, Option.bind_some, by_val w3 (word_of _), Option.bind_some, mul_val hD (word_do op3 w3 (word_of _)), Option.bind_some]
  · rw [mul_val hD w3, Option.bind_some]
theorem j5_val {fn w D s a bef beh : Int} (k : Nat) (hD : word D = true) (hs : word s = true) (ha : word a = true) (hb : word bef = true) (hh : word beh = true) : eval_Grown.j5 (k + 2) fn w D s a (doI 2 a 4607632778762754458) bef beh = some (tailI fn w D s bef (edgeI beh a), true) := by
  rw [eval_Grown.j5]
  unfold edgeI
  rw [holds_val hh (word_do op2 ha wordT), Option.bind_some]
  split
  · rw [by_val ha word2, Option.bind_some]
    exact j6_val k hD hs hb (word_do op3 ha word2)
  · exact j6_val k hD hs hb hh
def befI (z : Bool) (D s f bef : Int) : Int := if z = true then (if holdsI 3 (doI 2 s (doI 3 f D)) bef = true then doI 2 s (doI 3 f D) else bef) else bef
theorem word_bef {z : Bool} {D s f bef : Int} (hD : word D = true) (hs : word s = true) (hf : word f = true) (hb : word bef = true) : word (befI z D s f bef) = true := by
  unfold befI
  split
  · split
    · exact word_do op2 hs (word_do op3 hf hD)
    · exact hb
  · exact hb
theorem j4_val {fn w D s a bef beh x f y : Int} {z : Bool} (k : Nat) (hD : word D = true) (hs : word s = true) (ha : word a = true) (hb : word bef = true) (hh : word beh = true) (hf : word f = true) : eval_Grown.j4 (k + 3) fn w D s a (doI 2 a 4607632778762754458) bef beh z x f y = some (tailI fn w D s (befI z D s f bef) (edgeI beh a), true) := by
  have w1 := word_do op3 hf hD
  have w2 := word_do op2 hs w1
  rw [eval_Grown.j4]
  unfold befI
  by_cases hz : z = true
  · rw [if_pos hz, if_pos hz, by_val hf hD, Option.bind_some, mul_val hs w1, Option.bind_some, holds_val w2 hb, Option.bind_some]
    split
    · exact j5_val k hD hs ha w2 hh
    · exact j5_val k hD hs ha hb hh
  · rw [if_neg hz, if_neg hz]
    exact j5_val k hD hs ha hb hh
def zeroI (c : Bool) (D f : Int) : Bool := if c = true then (if holdsI 2 D 0 = true then holdsI 4 f 0 else false) else false
theorem j3_val {fn w D s a bef beh x f y : Int} {c : Bool} (k : Nat) (hD : word D = true) (hs : word s = true) (ha : word a = true) (hb : word bef = true) (hh : word beh = true) (hf : word f = true) : eval_Grown.j3 (k + 4) fn w D c s a (doI 2 a 4607632778762754458) bef beh x f y = some (tailI fn w D s (befI (zeroI c D f) D s f bef) (edgeI beh a), true) := by
  rw [eval_Grown.j3]
  unfold zeroI
  by_cases hc : c = true
  · rw [if_pos hc, if_pos hc, holds_val hD word0, Option.bind_some]
    by_cases h2 : holdsI 2 D 0 = true
    · rw [if_pos h2, if_pos h2, holds_val hf word0, Option.bind_some]
      exact j4_val k hD hs ha hb hh hf
    · rw [if_neg h2, if_neg h2]
      exact j4_val k hD hs ha hb hh hf
  · rw [if_neg hc, if_neg hc]
    exact j4_val k hD hs ha hb hh hf

def apI (a b : Int) : Int := ofI (wrap64 (IntKind.u64.wrap (IntKind.u64.wrap b - IntKind.u64.wrap a)))
def grownI (fn : Int) (n t w : Int) (c : Bool) (D a0 a1 b0 : Int) : Int :=
  tailI fn w D (apI a0 b0) (befI (zeroI c D a1) D (apI a0 b0) a1 (edgeI (ofI (wrap64 (IntKind.u64.wrap (w - IntKind.u64.wrap (IntKind.u64.wrap t - IntKind.u64.wrap a0))))) (doI 3 (apI a0 b0) (ofI n)))) (edgeI (apI b0 t) (doI 3 (apI a0 b0) (ofI n)))
theorem j2_val {fn t w D a0 a1 a2 b0 b1 b2 : Int} {l : List S44} {c : Bool} (k : Nat) (hD : word D = true) (hf : word a1 = true) : eval_Grown.j2 (k + 5) fn l t w D c a0 a1 a2 b0 b1 b2 = some (grownI fn (wrap64 ((l.length : Int) - 1)) t w c D a0 a1 b0, true) := by
  have ws : word (apI a0 b0) = true := word_of _
  have wa := word_do op3 ws (word_of (wrap64 ((l.length : Int) - 1)))
  rw [eval_Grown.j2]
  unfold grownI
  rw [ticks_val, Option.bind_some, of_val, Option.bind_some]
  change ((eval_by.f (apI a0 b0) (ofI (wrap64 ((l.length : Int) - 1)))).bind _) = _
  rw [by_val ws (word_of _), Option.bind_some, mul_val wa wordT, Option.bind_some, ticks_val, Option.bind_some, ticks_val, Option.bind_some, holds_val (word_of _) (word_do op2 wa wordT), Option.bind_some]
  have e : edgeI (ofI (wrap64 (IntKind.u64.wrap (w - IntKind.u64.wrap (IntKind.u64.wrap t - IntKind.u64.wrap a0))))) (doI 3 (apI a0 b0) (ofI (wrap64 ((l.length : Int) - 1)))) = edgeI (ofI (wrap64 (IntKind.u64.wrap (w - IntKind.u64.wrap (IntKind.u64.wrap t - IntKind.u64.wrap a0))))) (doI 3 (apI a0 b0) (ofI (wrap64 ((l.length : Int) - 1)))) := rfl
  conv at e => rhs; unfold edgeI
  rw [e]
  split
  · rw [by_val wa word2, Option.bind_some]
    exact j3_val k hD ws wa (word_do op3 wa word2) (word_of _) hf
  · exact j3_val k hD ws wa (word_of _) (word_of _) hf
end Go.Proofs.YthhbbmebfmfgjaaGreatDoor.PB
