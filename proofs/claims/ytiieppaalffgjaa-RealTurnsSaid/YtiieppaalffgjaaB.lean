/- The bodiless functions of package math, and arithmetic on floats, as the walk meets them. -/
import Derived.Test.YtiieppaalffgjaaRows
import Derived.Test.YtiieppaalffgjaaS
import Derived.WalkSpells
import Derived.WalkLawsBesides
import Derived.Outline
import Derived.Deep.QuietTactic
import Derived.BigQuiet
import Derived.Lib.Hide
namespace Go.Proofs.Ytiieppaalffgjaa
open Go.RowKit

@[go_sem] theorem run_frombits (n : Int) (w : World) :
    Sem.run Try.prog (callFunc 52 #[Value.int IntKind.u64 n]) w = .ok (.value (.float .f64 n.toNat)) w := by
  rw [run_callFunc_extern Try.func52 (by kernel_rfl) (by kernel_rfl) (by kernel_rfl) (e := Extern.MathFloatBits.float64frombits) (by kernel_rfl)]
  rfl

@[go_sem] theorem run_bits (n : Nat) (w : World) :
    Sem.run Try.prog (callFunc 48 #[Value.float .f64 n]) w = .ok (.value (.int .u64 n)) w := by
  rw [run_callFunc_extern Try.func48 (by kernel_rfl) (by kernel_rfl) (by kernel_rfl) (e := Extern.MathFloatBits.float64bits) (by kernel_rfl)]
  rfl

/-- a NaN that the tape names -/
def nanOf (w : World) (x y : Nat) : Nat := Question.cut (.nanBits .f64 x y) (w.tape w.drawn (.nanBits .f64 x y))

theorem fnan_nanOf (w : World) (x y : Nat) : fnan (nanOf w x y) = true := by
  unfold nanOf Question.cut fnan rung
  generalize w.tape w.drawn (Question.nanBits FloatKind.f64 x y) = t
  simp only [decide_eq_true_eq, Nat.reducePow, Nat.reduceSub]
  have h1 : t % 2 = 0 ∨ t % 2 = 1 := by omega
  generalize t / 2 = q
  generalize t % 2 = r at h1
  rcases h1 with rfl | rfl <;> omega

theorem run_arith (op : BinOp) (hop : op = .add ∨ op = .sub ∨ op = .mul ∨ op = .quo) (t : TypeId) (x y : Nat) (w : World) (h : floatBits op .f64 x y = none) :
    Sem.run Try.prog (binOp op t (.float .f64 x) (.float .f64 y)) w = .ok (.float .f64 (nanOf w x y)) w.drew := by
  rcases hop with rfl | rfl | rfl | rfl <;> (simp only [floatBits] at h; simp [binOp, Op.floatArith, h, choose, Sem.run, nanOf, Question.forced])

end Go.Proofs.Ytiieppaalffgjaa
