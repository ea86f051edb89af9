import Derived.Test.YthlabaijaadocaaDoorMc
import Derived.Test.YthlabaijaadocaaDoorRxB
/-! Matchers, plainly. No program in sight. -/
namespace Go.Proofs.YthlabaijaadocaaDoor
namespace Mt
open Ut Rx Go.Lib
/-- a matcher: kind, name, value -/
structure M where
  k : Int
  n : ByteArray
  v : ByteArray
/-- a label -/
structure L where
  n : ByteArray
  v : ByteArray

abbrev by_ (s : ByteArray) : List UInt8 := s.data.toList
def valuedB (s : ByteArray) : Bool := decide (s.size ≤ 128) && validD s.data.toList
def errF (r : Except Int Pat) : Int := match r with | .ok _ => 0 | .error e => e
/-- what is wrong with a matcher -/
def checkF (m : M) : Int :=
  if decide (m.k < 1) || decide (m.k > 4) then 70 else
  if !namedF (by_ m.n) then 50 else
  if !valuedB m.v then 51 else
  if m.k < 3 then 0 else errF (rexF (rn (by_ m.v)))
def matchB (r : Except Int Pat) (s : List Int) : Bool := match r with | .ok p => fullB p s | .error _ => false
def passF (m : M) (v : ByteArray) : Bool :=
  if m.k = 1 then by_ v == by_ m.v else if m.k = 2 then by_ v != by_ m.v else
  if m.k = 3 then matchB (rexF (rn (by_ m.v))) (rn (by_ v)) else if m.k = 4 then !matchB (rexF (rn (by_ m.v))) (rn (by_ v)) else false
def oneB (m : M) (v : ByteArray) : Bool := decide (checkF m = 0) && passF m v
/-- the loop of `ready` -/
def readyGo : List M → Bool → Int
  | [], strict => if strict then 0 else 71
  | m :: t, strict => if checkF m = 0 then readyGo t (strict || !passF m ⟨#[]⟩) else checkF m
def rightF (l : List M) : Int := if l.length > 16 then 3 else readyGo l false
def getF : List L → List UInt8 → ByteArray
  | [], _ => ⟨#[]⟩
  | x :: t, n => if by_ x.n == n then x.v else getF t n
def passAll (l : List M) (x : List L) : Bool := l.all fun m => passF m (getF x (by_ m.n))
def allF (l : List M) (x : List L) : Bool := decide (rightF l = 0) && passAll l x

/-! ### texts -/
def bareF (l : List UInt8) : List UInt8 := l.dropWhile (· == 32)
def letU (b : UInt8) : Bool := letB b.toNat
def unqF : List UInt8 → Except Int (List UInt8 × List UInt8)
  | [] => .error 6
  | c :: t =>
    if c == 34 then .ok ([], t) else if c == 10 then .error 8 else if c == 92 then
      (match t with
      | [] => .error 6
      | d :: u => if d == 34 || d == 92 then (match unqF u with | .ok (s, r) => .ok (d :: s, r) | .error e => .error e)
        else if d == 110 then (match unqF u with | .ok (s, r) => .ok (10 :: s, r) | .error e => .error e) else .error 8)
    else match unqF t with | .ok (s, r) => .ok (c :: s, r) | .error e => .error e
def unquoteF : List UInt8 → Except Int (List UInt8 × List UInt8)
  | [] => .error 6
  | c :: t => if c == 34 then unqF t else .error 8
def quoGo : List UInt8 → List UInt8
  | [] => [34]
  | c :: t => if c == 34 || c == 92 then 92 :: c :: quoGo t else if c == 10 then 92 :: 110 :: quoGo t else c :: quoGo t
def quoteF (l : List UInt8) : List UInt8 := 34 :: quoGo l
end Mt
end Go.Proofs.YthlabaijaadocaaDoor
