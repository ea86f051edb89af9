/- Sum, Mean: both texts. -/
import Derived.Test.YtiieppaalffgjaaW11
namespace Go.Proofs.Ytiieppaalffgjaa
open Go.RowKit

theorem nanOf_lt (w : World) (x y : Nat) : nanOf w x y < 18446744073709551616 := by
  unfold nanOf Question.cut
  generalize w.tape w.drawn (Question.nanBits FloatKind.f64 x y) = t
  simp only [Nat.reducePow, Nat.reduceSub]
  have h1 : t % 2 = 0 ∨ t % 2 = 1 := by omega
  generalize t / 2 = q
  generalize t % 2 = r at h1
  rcases h1 with rfl | rfl <;> omega

theorem floatBits_lt {op : BinOp} {x y r : Nat} (h : floatBits op .f64 x y = some r) : r < 18446744073709551616 := by
  have := floatBits_wf h
  simp [Lit.wf] at this
  exact this

/-- an operation on floats, the world behind it under a name of its own -/
theorem arith_at (op : BinOp) (hop : op = .add ∨ op = .sub ∨ op = .mul ∨ op = .quo) (t : TypeId) (x y : Nat) (w : World) :
    ∃ r w1, Sem.run Try.prog (binOp op t (.float .f64 x) (.float .f64 y)) w = .ok (.float .f64 r) w1 ∧ Hid (Arith (floatBits op .f64 x y) r) ∧ r < 18446744073709551616 ∧ Hid (∃ k, w1 = w.drewN k) := by
  cases h : floatBits op .f64 x y with
  | some r => exact ⟨r, _, run_float_arith w op t .f64 x y r h, Lib.hid rfl, floatBits_lt h, Lib.hid ⟨0, rfl⟩⟩
  | none => exact ⟨_, _, run_arith op hop t x y w h, Lib.hid (fnan_nanOf w x y), nanOf_lt w x y, Lib.hid ⟨1, rfl⟩⟩

theorem fnan_nanC : fnan nanC = true := by unfold fnan rung nanC; simp
theorem fnan_told (x : Nat) : fnan (toldS x) = fnan x := by
  unfold toldS
  cases h : fnan x
  · simp [h]
  · simp [fnan_nanC]

theorem add_nan {x y : Nat} (h : fnan x = true ∨ fnan y = true) : D.add x y = none ∧ D.sub x y = none ∧ D.div x y = none := by
  rcases h with h | h
  · obtain ⟨s, t, hd⟩ := read_nan h
    unfold Ieee.Format.add Ieee.Format.sub Ieee.Format.div
    rw [hd]
    refine ⟨?_, ?_, ?_⟩ <;> cases D.read y <;> rfl
  · obtain ⟨s, t, hd⟩ := read_nan h
    unfold Ieee.Format.add Ieee.Format.sub Ieee.Format.div
    rw [hd]
    refine ⟨?_, ?_, ?_⟩ <;> cases D.read x <;> rfl

theorem told_cases (x : Nat) : fnan x = true ∨ toldS x = x := by
  cases h : fnan x
  · exact Or.inr (toldS_of_num h)
  · exact Or.inl rfl

theorem arith_told (x y : Nat) : D.add (toldS x) (toldS y) = D.add x y ∧ D.sub (toldS x) (toldS y) = D.sub x y ∧ D.div (toldS x) (toldS y) = D.div x y := by
  rcases told_cases x with hx | hx
  · obtain ⟨a1, a2, a3⟩ := @add_nan x y (Or.inl hx)
    obtain ⟨b1, b2, b3⟩ := @add_nan (toldS x) (toldS y) (Or.inl (by rw [fnan_told, hx]))
    rw [a1, a2, a3, b1, b2, b3]; exact ⟨rfl, rfl, rfl⟩
  · rcases told_cases y with hy | hy
    · obtain ⟨a1, a2, a3⟩ := @add_nan x y (Or.inr hy)
      obtain ⟨b1, b2, b3⟩ := @add_nan (toldS x) (toldS y) (Or.inr (by rw [fnan_told, hy]))
      rw [a1, a2, a3, b1, b2, b3]; exact ⟨rfl, rfl, rfl⟩
    · rw [hx, hy]; exact ⟨rfl, rfl, rfl⟩

theorem order_abs_told (x y : Nat) : D.order (rung (toldS x)) (rung (toldS y)) = D.order (rung x) (rung y) := by
  rcases told_cases x with hx | hx
  · rw [order_key, order_key, fnan_rung, fnan_rung, fnan_rung, fnan_told, hx]; simp
  · rcases told_cases y with hy | hy
    · rw [order_key, order_key, fnan_rung, fnan_rung, fnan_rung, fnan_rung, fnan_told, fnan_told, hy]; simp
    · rw [hx, hy]

theorem inf_told (x : Nat) : decide (rung (toldS x) = 9218868437227405312) = decide (rung x = 9218868437227405312) := by
  rcases told_cases x with hx | hx
  · rw [toldS_of_nan hx]
    unfold fnan at hx
    simp at hx
    have : rung nanC = 9221120237041090561 := by unfold rung nanC; omega
    rw [this]
    simp; omega
  · rw [hx]

theorem told_told (x : Nat) : toldS (toldS x) = toldS x := by
  unfold toldS
  cases h : fnan x
  · simp [h]
  · simp [fnan_nanC]

/-- 'Abs(s) >= Abs(x)' -/
def absGe (s x : Nat) : Bool := D.order (rung s) (rung x) == some .gt || D.order (rung s) (rung x) == some .eq

def sumStep (p : Nat × Nat) (x : Nat) : Nat × Nat :=
  let t := optT (D.add p.1 x)
  let c := if absGe p.1 x then optT (D.add p.2 (optT (D.add (optT (D.sub p.1 t)) x))) else optT (D.add p.2 (optT (D.add (optT (D.sub x t)) p.1)))
  (t, if rung t = 9218868437227405312 then 0 else c)
def sumFold (l : List Nat) : Nat × Nat := l.foldl sumStep (0, 0)
def sumS (l : List Nat) : Nat :=
  let p := sumFold l
  if rung p.1 = 9218868437227405312 then p.1 else optT (D.add p.1 p.2)

theorem sumFold_succ (l : List Nat) (k : Nat) (h : k < l.length) : sumFold (l.take (k + 1)) = sumStep (sumFold (l.take k)) (l.getD k 0) := by
  unfold sumFold
  rw [List.take_add_one, List.foldl_append]
  simp [List.getD, List.getElem?_eq_getElem h]

theorem optT_told {o : Option Nat} : toldS (optT o) = optT o := by
  cases o with
  | some v => exact told_told v
  | none => exact toldS_of_nan fnan_nanC

/-- one round, in the words of the floats that the walk has -/
theorem step_ge {s c x t d g u : Nat} (hge : absGe s x = true) (ht : Arith (D.add s x) t) (hd : Arith (D.sub s t) d) (hg : Arith (D.add d x) g) (hu : Arith (D.add c g) u) :
    sumStep (toldS s, toldS c) x = (toldS t, if decide (rung t = 9218868437227405312) = true then 0 else toldS u) := by
  have e1 : optT (D.add (toldS s) x) = toldS t := by rw [← (arith_told (toldS s) x).1, told_told, (arith_told s x).1, toldS_arith ht]
  have e2 : absGe (toldS s) x = true := by unfold absGe at hge ⊢; rw [← order_abs_told, told_told, order_abs_told]; exact hge
  have e3 : optT (D.sub (toldS s) (toldS t)) = toldS d := by rw [(arith_told s t).2.1, toldS_arith hd]
  have e4 : optT (D.add (toldS d) x) = toldS g := by rw [← (arith_told (toldS d) x).1, told_told, (arith_told d x).1, toldS_arith hg]
  have e5 : optT (D.add (toldS c) (toldS g)) = toldS u := by rw [(arith_told c g).1, toldS_arith hu]
  have e6 := inf_told t
  unfold sumStep
  dsimp only
  rw [e1, e2, e3, if_pos rfl, e4, e5]
  simp only [decide_eq_decide] at e6
  simp only [e6, decide_eq_true_eq]

theorem step_lt {s c x t d g u : Nat} (hge : absGe s x = false) (ht : Arith (D.add s x) t) (hd : Arith (D.sub x t) d) (hg : Arith (D.add d s) g) (hu : Arith (D.add c g) u) :
    sumStep (toldS s, toldS c) x = (toldS t, if decide (rung t = 9218868437227405312) = true then 0 else toldS u) := by
  have e1 : optT (D.add (toldS s) x) = toldS t := by rw [← (arith_told (toldS s) x).1, told_told, (arith_told s x).1, toldS_arith ht]
  have e2 : absGe (toldS s) x = false := by unfold absGe at hge ⊢; rw [← order_abs_told, told_told, order_abs_told]; exact hge
  have e3 : optT (D.sub x (toldS t)) = toldS d := by rw [← (arith_told x (toldS t)).2.1, told_told, (arith_told x t).2.1, toldS_arith hd]
  have e4 : optT (D.add (toldS d) (toldS s)) = toldS g := by rw [(arith_told d s).1, toldS_arith hg]
  have e5 : optT (D.add (toldS c) (toldS g)) = toldS u := by rw [(arith_told c g).1, toldS_arith hu]
  have e6 := inf_told t
  unfold sumStep
  dsimp only
  rw [e1, e2, e3, e4, e5]
  simp only [decide_eq_decide] at e6
  simp only [e6, decide_eq_true_eq, Bool.false_eq_true, if_false]

theorem toldS_zero : toldS 0 = 0 := by unfold toldS fnan rung; simp

/-- a slice of words in memory -/
def Words (w : World) (a : Option Addr) (ns : List Nat) : Prop :=
  ∀ j, j < ns.length → ∃ b off, a = some ⟨b, off, none⟩ ∧ w.cell? ⟨b, off + j, none⟩ = some (.int .u64 ((ns.getD j 0 : Nat) : Int))

theorem chain1 {w w1 wr : World} (h : ∃ q, wr = w.drewN q) (h1 : ∃ k, w1 = wr.drewN k) : ∃ q, w1 = w.drewN q := by
  obtain ⟨q, rfl⟩ := h
  obtain ⟨k, rfl⟩ := h1
  exact ⟨q + k, by rw [World.drewN_drewN]⟩
theorem chain4 {w wr w1 w2 w3 w4 : World} (h : ∃ q, wr = w.drewN q) (h1 : ∃ k, w1 = wr.drewN k) (h2 : ∃ k, w2 = w1.drewN k) (h3 : ∃ k, w3 = w2.drewN k) (h4 : ∃ k, w4 = w3.drewN k) : ∃ q, w4 = w.drewN q :=
  chain1 (chain1 (chain1 (chain1 h h1) h2) h3) h4

theorem sum_end_inf {ns : List Nat} {s c : Nat} (h : (toldS s, toldS c) = sumFold ns) (hi : decide (rung s = 9218868437227405312) = true) : toldS s = sumS ns := by
  unfold sumS
  rw [← h]
  have := inf_told s
  rw [hi] at this
  dsimp only
  rw [if_pos (by simpa using this)]
theorem sum_end_add {ns : List Nat} {s c t : Nat} (h : (toldS s, toldS c) = sumFold ns) (hi : decide (rung s = 9218868437227405312) = false) (ht : Arith (D.add s c) t) : toldS t = sumS ns := by
  unfold sumS
  rw [← h]
  have := inf_told s
  rw [hi] at this
  dsimp only
  rw [if_neg (by simpa using this), (arith_told s c).1, toldS_arith ht]

/-- the relation of Sum's loop -/
def SumAt (w : World) (ns : List Nat) (s c i : Value) (wr : World) : Prop :=
  ∃ k s' c' : Nat, k ≤ ns.length ∧ i = .int .i64 k ∧ s = .float .f64 s' ∧ c = .float .f64 c' ∧ s' < 18446744073709551616 ∧ (toldS s', toldS c') = sumFold (ns.take k) ∧ ∃ q, wr = w.drewN q

set_option maxHeartbeats 1600000 in
theorem realSum_any (a : Option Addr) (cap : Nat) (ns : List Nat) (hbig : ns.length ≤ 9223372036854775807) (hlt : ∀ x ∈ ns, x < 18446744073709551616) (w : World) (hc : Words w a ns) :
    Calls Try.prog 24 #[.slice a ns.length cap] w (Told (sumS ns) w) := by
  go_enter Try.func24, Try.ntmps24
  go_wp2
  go_loopw [3, 4, 11] (fun s c i wr => SumAt w ns s c i wr) (fun _ _ i _ => ns.length - (intOf i).toNat)
  case atStart => exact ⟨0, 0, 0, Nat.zero_le _, rfl, rfl, rfl, by omega, by rw [toldS_zero]; rfl, 0, rfl⟩
  case round =>
    obtain ⟨k, s', c', hk, rfl, rfl, rfl, hs, hf, hw⟩ := hrel
    by_cases hkl : k < ns.length
    · obtain ⟨b, off, rfl, hcell⟩ := hc k hkl
      have hx : ns.getD k 0 < 18446744073709551616 := by
        rw [List.getD_eq_getElem?_getD, List.getElem?_eq_getElem hkl]; exact hlt _ (List.getElem_mem hkl)
      have hf2 := sumFold_succ ns k hkl
      rw [← hf] at hf2
      have hcell2 : wr.cell? ⟨b, off + k, none⟩ = some (.int .u64 ((ns.getD k 0 : Nat) : Int)) := by obtain ⟨q, rfl⟩ := hw; exact hcell
      have HF := Lib.hid hf2
      have HW := Lib.hid hw
      have HK := Lib.hid hc
      clear hf hf2 hw hcell hc
      generalize ns.getD k 0 = x at *
      obtain ⟨t, w1, h1, a1, b1, q1⟩ := arith_at .add (Or.inl rfl) 42 s' x wr
      cases hge : absGe s' x
      · obtain ⟨d, w2, h2, a2, b2, q2⟩ := arith_at .sub (Or.inr (Or.inl rfl)) 42 x t w1
        obtain ⟨g, w3, h3, a3, b3, q3⟩ := arith_at .add (Or.inl rfl) 42 d s' w2
        obtain ⟨u, w4, h4, a4, b4, q4⟩ := arith_at .add (Or.inl rfl) 42 c' g w3
        have HS := Lib.hid (HF.out.trans (step_lt hge a1.out a2.out a3.out a4.out))
        unfold absGe at hge
        have hw4 : Hid (∃ q, w4 = w.drewN q) := Lib.hid (chain4 HW.out q1.out q2.out q3.out q4.out)
        clear HF
        cases hi : decide (rung t = 9218868437227405312)
        · have ci := fun w => hi ▸ isInf_any t b1 w
          rw [hi] at HS
          clear hi
          go_wp2_with (first | (go_at_call 35; refine (num_any _ _).mono ?_; rintro e w' ⟨rfl, rfl⟩) | (go_at_call 47; (first | (with_reducible refine (abs_any s' hs _).mono ?_) | (with_reducible refine (abs_any x hx _).mono ?_)); rintro e w' ⟨rfl, rfl⟩) | (go_at_call 36; refine (ci _).mono ?_; rintro e w' ⟨rfl, rfl⟩))
          go_roundw
          case rel => exact ⟨k + 1, t, u, by omega, by go_num, rfl, rfl, b1, by rw [HS.out]; rfl, hw4.out⟩
          case measure => simp [intOf]; omega
        · have ci := fun w => hi ▸ isInf_any t b1 w
          rw [hi] at HS
          clear hi
          go_wp2_with (first | (go_at_call 35; refine (num_any _ _).mono ?_; rintro e w' ⟨rfl, rfl⟩) | (go_at_call 47; (first | (with_reducible refine (abs_any s' hs _).mono ?_) | (with_reducible refine (abs_any x hx _).mono ?_)); rintro e w' ⟨rfl, rfl⟩) | (go_at_call 36; refine (ci _).mono ?_; rintro e w' ⟨rfl, rfl⟩))
          go_roundw
          case rel => exact ⟨k + 1, t, 0, by omega, by go_num, rfl, rfl, b1, by rw [HS.out, toldS_zero]; rfl, hw4.out⟩
          case measure => simp [intOf]; omega
      · obtain ⟨d, w2, h2, a2, b2, q2⟩ := arith_at .sub (Or.inr (Or.inl rfl)) 42 s' t w1
        obtain ⟨g, w3, h3, a3, b3, q3⟩ := arith_at .add (Or.inl rfl) 42 d x w2
        obtain ⟨u, w4, h4, a4, b4, q4⟩ := arith_at .add (Or.inl rfl) 42 c' g w3
        have HS := Lib.hid (HF.out.trans (step_ge hge a1.out a2.out a3.out a4.out))
        unfold absGe at hge
        have hw4 : Hid (∃ q, w4 = w.drewN q) := Lib.hid (chain4 HW.out q1.out q2.out q3.out q4.out)
        clear HF
        cases hi : decide (rung t = 9218868437227405312)
        · have ci := fun w => hi ▸ isInf_any t b1 w
          rw [hi] at HS
          clear hi
          go_wp2_with (first | (go_at_call 35; refine (num_any _ _).mono ?_; rintro e w' ⟨rfl, rfl⟩) | (go_at_call 47; (first | (with_reducible refine (abs_any s' hs _).mono ?_) | (with_reducible refine (abs_any x hx _).mono ?_)); rintro e w' ⟨rfl, rfl⟩) | (go_at_call 36; refine (ci _).mono ?_; rintro e w' ⟨rfl, rfl⟩))
          go_roundw
          case rel => exact ⟨k + 1, t, u, by omega, by go_num, rfl, rfl, b1, by rw [HS.out]; rfl, hw4.out⟩
          case measure => simp [intOf]; omega
        · have ci := fun w => hi ▸ isInf_any t b1 w
          rw [hi] at HS
          clear hi
          go_wp2_with (first | (go_at_call 35; refine (num_any _ _).mono ?_; rintro e w' ⟨rfl, rfl⟩) | (go_at_call 47; (first | (with_reducible refine (abs_any s' hs _).mono ?_) | (with_reducible refine (abs_any x hx _).mono ?_)); rintro e w' ⟨rfl, rfl⟩) | (go_at_call 36; refine (ci _).mono ?_; rintro e w' ⟨rfl, rfl⟩))
          go_roundw
          case rel => exact ⟨k + 1, t, 0, by omega, by go_num, rfl, rfl, b1, by rw [HS.out, toldS_zero]; rfl, hw4.out⟩
          case measure => simp [intOf]; omega
    · obtain rfl : k = ns.length := by omega
      rw [List.take_length] at hf
      have HF := Lib.hid hf
      have HW := Lib.hid hw
      clear hf hw hc
      cases hi : decide (rung s' = 9218868437227405312)
      · have ci := fun w => hi ▸ isInf_any s' hs w
        obtain ⟨t, w1, h1, a1, b1, q1⟩ := arith_at .add (Or.inl rfl) 42 s' c' wr
        have HR : Hid (toldS t = sumS ns) := Lib.hid (sum_end_add HF.out hi a1.out)
        have hw1 : Hid (∃ q, w1 = w.drewN q) := Lib.hid (chain1 HW.out q1.out)
        clear hi HF
        go_wp2_with (first | (go_at_call 36; refine (ci _).mono ?_; rintro e w' ⟨rfl, rfl⟩) | (go_at_call 41; refine (told_any _ _).mono ?_; rintro e w' ⟨rfl, rfl⟩))
        go_ret
        obtain ⟨q, hq⟩ := hw1.out
        exact Told.some HR.out hq
      · have ci := fun w => hi ▸ isInf_any s' hs w
        have HR : Hid (toldS s' = sumS ns) := Lib.hid (sum_end_inf HF.out hi)
        clear hi HF
        go_wp2_with (first | (go_at_call 36; refine (ci _).mono ?_; rintro e w' ⟨rfl, rfl⟩) | (go_at_call 41; refine (told_any _ _).mono ?_; rintro e w' ⟨rfl, rfl⟩))
        go_ret
        obtain ⟨q, hq⟩ := HW.out
        exact Told.some HR.out hq
end Go.Proofs.Ytiieppaalffgjaa
