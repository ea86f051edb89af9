/- Package math's bodiless functions under contract; better, One, Of: both texts. -/
import Derived.Test.YtiieppaalffgjaaW3
namespace Go.Proofs.Ytiieppaalffgjaa
open Go.RowKit

theorem drewN_zero (w : World) : w.drewN 0 = w := rfl
theorem drew_drewN (w : World) : w.drew = w.drewN 1 := rfl

/-- what an operation on floats gives: the word, or some NaN -/
def Arith (o : Option Nat) (r : Nat) : Prop := match o with | some v => r = v | none => fnan r = true

theorem arith_run (op : BinOp) (hop : op = .add ∨ op = .sub ∨ op = .mul ∨ op = .quo) (t : TypeId) (x y : Nat) (w : World) :
    ∃ r k, Sem.run Try.prog (binOp op t (.float .f64 x) (.float .f64 y)) w = .ok (.float .f64 r) (w.drewN k) ∧ Arith (floatBits op .f64 x y) r := by
  cases h : floatBits op .f64 x y with
  | some r => exact ⟨r, 0, run_float_arith w op t .f64 x y r h, rfl⟩
  | none => exact ⟨_, 1, run_arith op hop t x y w h, fnan_nanOf w x y⟩

theorem toldS_arith {o : Option Nat} {r : Nat} (h : Arith o r) : toldS r = optT o := by
  cases o with
  | some v => cases h; rfl
  | none => unfold toldS; rw [show fnan r = true from h]; rfl

/-- a number made whole, as a word -/
def intg (way : Ieee.Toward) (n : Nat) : Nat := D.write ((D.read n).integral way)

theorem read_nan {n : Nat} (h : fnan n = true) : ∃ s t, D.read n = .nan s t := by
  rw [read_word]
  unfold fnan at h
  simp at h
  rw [if_neg (by omega), if_neg (by omega)]
  exact ⟨_, _, rfl⟩
theorem read_num {n : Nat} (h : fnan n = false) : (D.read n).isNaN = false := by
  rw [read_word]
  unfold fnan at h
  simp at h
  by_cases g : rung n < 9218868437227405312
  · rw [if_pos g]; rfl
  · rw [if_neg g, if_pos (by omega)]; rfl

/-- what the bodiless function does at a float, by what the float reads as -/
def integ (way : Ieee.Toward) (x : Nat) (d : Ieee.Datum) : Sem Value :=
  match d with
  | .nan s t =>
    if FloatKind.f64.format.quiet t = t then pure (.float .f64 x) else do
    let kept ← choose (.extern "math.Floor,Ceil,Trunc,RoundToEven.signallingNaN kept" 2)
    pure (.float .f64 (if kept == 1 then x else FloatKind.f64.encode (.nan s (FloatKind.f64.format.quiet t))))
  | d => pure (.float .f64 (FloatKind.f64.encode (d.integral way)))
theorem toIntegral_eq (name : String) (way : Ieee.Toward) (x : Nat) : Extern.MathFloor.toIntegral name way #[.float .f64 x] = integ way x (D.read x) := rfl

theorem integral_num (name : String) (way : Ieee.Toward) (n : Nat) (h : fnan n = false) (w : World) :
    Sem.run Try.prog (Extern.MathFloor.toIntegral name way #[.float .f64 n]) w = .ok (.float .f64 (intg way n)) w := by
  have g := read_num h
  rw [toIntegral_eq]
  unfold intg
  cases hd : D.read n with
  | number s m p => rfl
  | infinity s => rfl
  | nan s t => rw [hd] at g; cases g

theorem write_nan (s : Bool) (t : Nat) (ht : t % 4503599627370496 ≠ 0) : fnan (D.write (.nan s t)) = true := by
  unfold Ieee.Format.write
  dsimp only
  rw [D_inf, D_binade]
  obtain ⟨_, h⟩ := word_sgn s (9218868437227405312 + t % 4503599627370496) (by omega)
  unfold fnan
  rw [h]
  simp; omega

theorem quiet_ne (t : Nat) : (Ieee.Format.quiet D t) % 4503599627370496 ≠ 0 := by
  unfold Ieee.Format.quiet
  rw [D_frac]
  intro h
  have h1 : (t ||| 2 ^ (52 - 1)).testBit 51 = true := by rw [Nat.testBit_or, Nat.testBit_two_pow]; simp
  have h2 : ((t ||| 2 ^ (52 - 1)) % 2 ^ 52).testBit 51 = true := by rw [Nat.testBit_mod_two_pow, h1]; rfl
  rw [show (2 : Nat) ^ 52 = 4503599627370496 from rfl, h] at h2
  simp at h2

theorem integral_nan (name : String) (way : Ieee.Toward) (n : Nat) (h : fnan n = true) (w : World) :
    ∃ r k, Sem.run Try.prog (Extern.MathFloor.toIntegral name way #[.float .f64 n]) w = .ok (.float .f64 r) (w.drewN k) ∧ fnan r = true := by
  obtain ⟨s, t, hd⟩ := read_nan h
  rw [toIntegral_eq, hd]
  unfold integ
  dsimp only
  by_cases q : FloatKind.f64.format.quiet t = t
  · rw [if_pos q]
    exact ⟨n, 0, rfl, h⟩
  · rw [if_neg q]
    simp only [Sem.run_bind, choose, Sem.run, Question.forced, Result.andThen]
    simp
    by_cases g : Question.cut (.extern "math.Floor,Ceil,Trunc,RoundToEven.signallingNaN kept" 2) (w.tape w.drawn (.extern "math.Floor,Ceil,Trunc,RoundToEven.signallingNaN kept" 2)) = 1
    · exact ⟨n, ⟨by rw [if_pos g], 1, rfl⟩, h⟩
    · exact ⟨_, ⟨by rw [if_neg g]; rfl, 1, rfl⟩, write_nan s _ (quiet_ne t)⟩
def SomeNaN (w : World) (e : Ending) (w' : World) : Prop := ∃ r, e = .returned (.float .f64 r) ∧ fnan r = true ∧ ∃ k, w' = w.drewN k

theorem trunc_run (n : Nat) (h : fnan n = false) (w : World) :
    Sem.run Try.prog (callFunc 56 #[Value.float .f64 n]) w = .ok (.value (.float .f64 (intg .zero n))) w := by
  rw [run_callFunc_extern Try.func56 (by kernel_rfl) (by kernel_rfl) (by kernel_rfl) (e := Extern.MathFloor.toIntegral "math.archTrunc" .zero) (by kernel_rfl), integral_num _ _ _ h]
  rfl
theorem trunc_runN (n : Nat) (h : fnan n = true) (w : World) :
    ∃ r k, Sem.run Try.prog (callFunc 56 #[Value.float .f64 n]) w = .ok (.value (.float .f64 r)) (w.drewN k) ∧ fnan r = true := by
  obtain ⟨r, k, h1, h2⟩ := integral_nan "math.archTrunc" .zero n h w
  refine ⟨r, k, ?_, h2⟩
  rw [run_callFunc_extern Try.func56 (by kernel_rfl) (by kernel_rfl) (by kernel_rfl) (e := Extern.MathFloor.toIntegral "math.archTrunc" .zero) (by kernel_rfl), h1]
  rfl
set_option maxHeartbeats 400000 in
theorem trunc_any (n : Nat) (h : fnan n = false) (w : World) :
    Calls Try.prog 50 #[.float .f64 n] w fun e w' => e = .returned (.float .f64 (intg .zero n)) ∧ w = w' := by
  have hr := trunc_run n h
  clear h
  go_enter Try.func50, Try.ntmps50
  go_wp2
  go_ret
  exact ⟨rfl, rfl⟩
set_option maxHeartbeats 400000 in
theorem trunc_nan (n : Nat) (h : fnan n = true) (w : World) :
    Calls Try.prog 50 #[.float .f64 n] w (SomeNaN w) := by
  obtain ⟨r, k, hr, h2⟩ := trunc_runN n h w
  clear h
  have H2 := Lib.hid h2
  clear h2
  go_enter Try.func50, Try.ntmps50
  go_wp2
  go_ret
  exact ⟨r, rfl, H2.out, k, rfl⟩

theorem floor_run (n : Nat) (h : fnan n = false) (w : World) :
    Sem.run Try.prog (callFunc 58 #[Value.float .f64 n]) w = .ok (.value (.float .f64 (intg .down n))) w := by
  rw [run_callFunc_extern Try.func58 (by kernel_rfl) (by kernel_rfl) (by kernel_rfl) (e := Extern.MathFloor.toIntegral "math.archFloor" .down) (by kernel_rfl), integral_num _ _ _ h]
  rfl
theorem floor_runN (n : Nat) (h : fnan n = true) (w : World) :
    ∃ r k, Sem.run Try.prog (callFunc 58 #[Value.float .f64 n]) w = .ok (.value (.float .f64 r)) (w.drewN k) ∧ fnan r = true := by
  obtain ⟨r, k, h1, h2⟩ := integral_nan "math.archFloor" .down n h w
  refine ⟨r, k, ?_, h2⟩
  rw [run_callFunc_extern Try.func58 (by kernel_rfl) (by kernel_rfl) (by kernel_rfl) (e := Extern.MathFloor.toIntegral "math.archFloor" .down) (by kernel_rfl), h1]
  rfl
set_option maxHeartbeats 400000 in
theorem floor_any (n : Nat) (h : fnan n = false) (w : World) :
    Calls Try.prog 51 #[.float .f64 n] w fun e w' => e = .returned (.float .f64 (intg .down n)) ∧ w = w' := by
  have hr := floor_run n h
  clear h
  go_enter Try.func51, Try.ntmps51
  go_wp2
  go_ret
  exact ⟨rfl, rfl⟩
set_option maxHeartbeats 400000 in
theorem floor_nan (n : Nat) (h : fnan n = true) (w : World) :
    Calls Try.prog 51 #[.float .f64 n] w (SomeNaN w) := by
  obtain ⟨r, k, hr, h2⟩ := floor_runN n h w
  clear h
  have H2 := Lib.hid h2
  clear h2
  go_enter Try.func51, Try.ntmps51
  go_wp2
  go_ret
  exact ⟨r, rfl, H2.out, k, rfl⟩

theorem ceil_run (n : Nat) (h : fnan n = false) (w : World) :
    Sem.run Try.prog (callFunc 60 #[Value.float .f64 n]) w = .ok (.value (.float .f64 (intg .up n))) w := by
  rw [run_callFunc_extern Try.func60 (by kernel_rfl) (by kernel_rfl) (by kernel_rfl) (e := Extern.MathFloor.toIntegral "math.archCeil" .up) (by kernel_rfl), integral_num _ _ _ h]
  rfl
theorem ceil_runN (n : Nat) (h : fnan n = true) (w : World) :
    ∃ r k, Sem.run Try.prog (callFunc 60 #[Value.float .f64 n]) w = .ok (.value (.float .f64 r)) (w.drewN k) ∧ fnan r = true := by
  obtain ⟨r, k, h1, h2⟩ := integral_nan "math.archCeil" .up n h w
  refine ⟨r, k, ?_, h2⟩
  rw [run_callFunc_extern Try.func60 (by kernel_rfl) (by kernel_rfl) (by kernel_rfl) (e := Extern.MathFloor.toIntegral "math.archCeil" .up) (by kernel_rfl), h1]
  rfl
set_option maxHeartbeats 400000 in
theorem ceil_any (n : Nat) (h : fnan n = false) (w : World) :
    Calls Try.prog 53 #[.float .f64 n] w fun e w' => e = .returned (.float .f64 (intg .up n)) ∧ w = w' := by
  have hr := ceil_run n h
  clear h
  go_enter Try.func53, Try.ntmps53
  go_wp2
  go_ret
  exact ⟨rfl, rfl⟩
set_option maxHeartbeats 400000 in
theorem ceil_nan (n : Nat) (h : fnan n = true) (w : World) :
    Calls Try.prog 53 #[.float .f64 n] w (SomeNaN w) := by
  obtain ⟨r, k, hr, h2⟩ := ceil_runN n h w
  clear h
  have H2 := Lib.hid h2
  clear h2
  go_enter Try.func53, Try.ntmps53
  go_wp2
  go_ret
  exact ⟨r, rfl, H2.out, k, rfl⟩

theorem sqrt_run (n : Nat) (w : World) :
    ∃ r k, Sem.run Try.prog (callFunc 62 #[Value.float .f64 n]) w = .ok (.value (.float .f64 r)) (w.drewN k) ∧ Arith (D.sqrt n) r := by
  have e : ∀ w, Sem.run Try.prog (callFunc 62 #[Value.float .f64 n]) w = ((Extern.MathSqrt.sqrt #[Value.float .f64 n]).run Try.prog w).andThen fun v w' => .ok (.value v) w' :=
    fun w => run_callFunc_extern Try.func62 (by kernel_rfl) (by kernel_rfl) (by kernel_rfl) (e := Extern.MathSqrt.sqrt) (by kernel_rfl) _ _
  have e2 : Extern.MathSqrt.sqrt #[Value.float .f64 n] = (match D.sqrt n with | some r => (pure (.float .f64 r) : Sem Value) | none => (choose (.nanBits .f64 n n) >>= fun t => pure (.float .f64 t))) := rfl
  rw [e, e2]
  cases D.sqrt n with
  | some r => exact ⟨r, 0, rfl, rfl⟩
  | none => exact ⟨nanOf w n n, 1, rfl, fnan_nanOf w n n⟩

/-- a float of an operation, some draws later -/
def SomeArith (o : Option Nat) (w : World) (e : Ending) (w' : World) : Prop := ∃ r, e = .returned (.float .f64 r) ∧ Arith o r ∧ ∃ k, w' = w.drewN k

set_option maxHeartbeats 400000 in
theorem sqrt_any (n : Nat) (w : World) : Calls Try.prog 54 #[.float .f64 n] w (SomeArith (D.sqrt n) w) := by
  obtain ⟨r, k, hr, h2⟩ := sqrt_run n w
  have H2 := Lib.hid h2
  clear h2
  go_enter Try.func54, Try.ntmps54
  go_wp2
  go_ret
  exact ⟨r, rfl, H2.out, k, rfl⟩

end Go.Proofs.Ytiieppaalffgjaa
