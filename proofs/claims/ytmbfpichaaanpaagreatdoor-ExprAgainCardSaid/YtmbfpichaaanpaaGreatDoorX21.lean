import Derived.Test.YtmbfpichaaanpaaGreatDoorX20
import Derived.Test.YtmbfpichaaanpaaGreatDoorCards
import Derived.Test.YtmbfpichaaanpaaGreatDoorTie
import Derived.WalkKit
import Derived.ProofKit
import Derived.OpenShut
import Derived.ShutString
import Derived.ChangeOld
import Derived.Below
import Derived.Carry
import Derived.Deep.DeepHandedRow
import Derived.Lib.LaidTab
import Derived.Lib.SmallJoins
/-! Matchers as a text. -/
namespace Go.Proofs.YtmbfpichaaanpaaGreatDoor
open Go.RowKit Ut Rx Mt

def headB (m : M) : Bool := decide (m.k = 1) && decide (by_ m.n = nameL) && namedF (by_ m.v)
def printF (l : List M) : List UInt8 :=
  match l with
  | [] => bracesF []
  | m :: t => if headB m then (if t = [] then by_ m.v else by_ m.v ++ bracesF t) else bracesF (m :: t)
def PrPost (w : World) (l : List M) (e : Ending) (w' : World) : Prop := e = .returned (.string ⟨(printF l).toArray⟩) ∧ Below w.heap.size w w'
theorem Ms.tail {w : World} {b off c : Nat} {m : M} {t : List M} (h : Ms w (.slice (some ⟨b, off, none⟩) (t.length + 1) c) (m :: t)) : Ms w (.slice (some ⟨b, off + 3, none⟩) t.length (c - 1)) t := by
  obtain ⟨A, c', e, hb, hl⟩ := h
  obtain ⟨b', off', rfl, hc⟩ := hl (by simp)
  simp only [Value.slice.injEq, Option.some.injEq, Addr.mk.injEq, true_and, and_true, List.length_cons] at e
  obtain ⟨⟨rfl, rfl⟩, rfl⟩ := e
  refine ⟨_, _, rfl, by simp at hb ⊢; omega, fun _ => ⟨_, _, rfl, fun i hi => ?_⟩⟩
  have := hc (i + 1) (by simpa using hi)
  simp only [List.getElem_cons_succ] at this
  rw [show off + (i + 1) * 3 = off + 3 + i * 3 by omega] at this
  exact this
theorem by_inj {a b : ByteArray} (h : by_ a = by_ b) : a = b := ByteArray.ext (Array.ext' h)

theorem mk_by (s : ByteArray) : (⟨(by_ s).toArray⟩ : ByteArray) = s := rfl
theorem braGo_len : ∀ (l : List M) (b : Bool), (∀ m ∈ l, m.n.size ≤ 100000 ∧ m.v.size ≤ 100000) → (braGo b l).length ≤ 1 + l.length * 400010
  | [], _, _ => by simp [braGo]
  | m :: t, b, h => by
    have ih := braGo_len t false fun x hx => h x (List.mem_cons_of_mem _ hx)
    obtain ⟨h1, h2⟩ := h m (by simp)
    have hs := signT_len m.k
    have hq := quoteF_len (by_ m.v)
    rw [tl_len] at hq
    have hn : (by_ m.n).length = m.n.size := tl_len _
    unfold braGo
    simp only [List.length_append, List.length_cons]
    rw [hn]
    have : (if b then ([] : List UInt8) else [44, 32]).length ≤ 2 := by cases b <;> simp
    omega
theorem bracesF_len {l : List M} (h : ∀ m ∈ l, m.n.size ≤ 100000 ∧ m.v.size ≤ 100000) : (bracesF l).length ≤ 2 + l.length * 400010 := by
  have := braGo_len l true h
  unfold bracesF
  simp only [List.length_cons]
  omega

set_option maxRecDepth 100000 in
set_option maxHeartbeats 4000000 in
theorem print_any (l : List M) (A : Option Addr) (c : Nat) (w : World) (hl : Ms w (.slice A l.length c) l) (hcap : l.length ≤ c) (hn : l.length ≤ 100000) (hsz : ∀ m ∈ l, m.n.size ≤ 100000 ∧ m.v.size ≤ 100000) :
    Calls Tryz.prog 70 #[.slice A l.length c] w (PrPost w l) := by
  have BR := Lib.hid (fun w' (b : Below w.heap.size w w') => braces_any l _ w' (hl.below b) hn hsz)
  cases l with
  | nil =>
    have E : Hid (printF [] = bracesF []) := rfl
    go_enter Tryz.func70, Tryz.ntmps70
    go_wp2_with fail
    refine (BR.out _ (Below.refl _ _)).mono ?_
    rintro e w1 ⟨rfl, hb⟩
    go_wp2_with fail
    go_ret
    exact ⟨rfl, hb⟩
  | cons m t =>
    have HL := Lib.hid hl
    obtain ⟨A', c', e, hb, hcl⟩ := hl
    obtain ⟨b, off, rfl, hc⟩ := hcl (by simp)
    simp only [Value.slice.injEq, List.length_cons, true_and] at e
    obtain ⟨rfl, rfl⟩ := e
    obtain ⟨c0, c1, c2⟩ := hc 0 (by simp)
    simp only [Nat.zero_mul, Nat.add_zero, List.getElem_cons_zero] at c0 c1 c2
    have hz := hsz m (by simp)
    have HS : Hid (∀ m ∈ t, m.n.size ≤ 100000 ∧ m.v.size ≤ 100000) := fun x hx => hsz x (List.mem_cons_of_mem _ hx)
    simp only [List.length_cons] at hcap hn
    obtain ⟨mk, mn, mv⟩ := m
    simp only at c0 c1 c2 hz
    have N := Lib.hid (named_any mv w)
    clear hc hcl hb hsz
    by_cases hk : mk = 1
    · subst hk
      by_cases hq : by_ mn = nameL
      · obtain rfl : mn = ⟨#[95, 95, 110, 97, 109, 101, 95, 95]⟩ := by_inj hq
        clear hq
        cases hnm : namedF mv.data.toList with
        | false =>
          have E : Hid (printF (⟨1, ⟨#[95, 95, 110, 97, 109, 101, 95, 95]⟩, mv⟩ :: t) = bracesF (⟨1, ⟨#[95, 95, 110, 97, 109, 101, 95, 95]⟩, mv⟩ :: t)) := by
            show _ = _
            unfold printF headB
            simp only
            rw [show namedF (by_ mv) = false from hnm, Bool.and_false, if_neg (by simp)]
          rw [hnm] at N
          clear hnm
          simp only [List.length_cons] at BR ⊢
          go_enter Tryz.func70, Tryz.ntmps70
          go_wp2_with fail
          refine N.out.mono ?_
          rintro e w1 ⟨rfl, hb1⟩
          have B := Lib.hid (BR.out w1 hb1)
          go_wp2_with fail
          refine B.out.mono ?_
          rintro e w2 ⟨rfl, hb2⟩
          go_wp2_with fail
          go_ret
          exact ⟨by rw [E.out]; rfl, hb1.trans (hb2.mono hb1.size)⟩
        | true =>
          rw [hnm] at N
          have H1 : Hid (headB ⟨1, ⟨#[95, 95, 110, 97, 109, 101, 95, 95]⟩, mv⟩ = true) := by
            show _ = _
            unfold headB
            simp only
            rw [show namedF (by_ mv) = true from hnm]
            rfl
          clear hnm BR
          cases t with
          | nil =>
            have E : Hid (printF [⟨1, ⟨#[95, 95, 110, 97, 109, 101, 95, 95]⟩, mv⟩] = by_ mv) := by
              show _ = _
              unfold printF
              simp only
              rw [if_pos H1.out, if_pos trivial]
            simp only [List.length_cons, List.length_nil] at HL ⊢
            go_enter Tryz.func70, Tryz.ntmps70
            go_wp2_with fail
            refine N.out.mono ?_
            rintro e w1 ⟨rfl, hb1⟩
            have c2' := (hb1.cell (p := ⟨b, off + 2, none⟩) (World.block_lt_of_cell? w _ c2)).trans c2
            go_wp2_with fail
            go_ret
            exact ⟨by rw [E.out, mk_by]; rfl, hb1⟩
          | cons m2 t2 =>
            have E : Hid (printF (⟨1, ⟨#[95, 95, 110, 97, 109, 101, 95, 95]⟩, mv⟩ :: m2 :: t2) = by_ mv ++ bracesF (m2 :: t2)) := by
              show _ = _
              unfold printF
              simp only
              rw [if_pos H1.out, if_neg (by simp)]
            have hlen : 2 ≤ (m2 :: t2).length + 1 := by simp
            have HT := Lib.hid (Ms.tail HL.out)
            clear HL H1
            generalize hts : m2 :: t2 = ts at *
            clear hts
            have hc1 : ¬ c = 1 := by omega
            have hcI : (ts.length : Int) + 1 ≤ c := by omega
            have hcJ : (1 : Int) ≤ ts.length + 1 := by omega
            have hcK : ¬ (c : Int) = 1 := by omega
            go_enter Tryz.func70, Tryz.ntmps70
            go_wp2_with fail
            refine N.out.mono ?_
            rintro e w1 ⟨rfl, hb1⟩
            have c2' := (hb1.cell (p := ⟨b, off + 2, none⟩) (World.block_lt_of_cell? w _ c2)).trans c2
            have lb := World.block_lt_of_cell? w1 _ c2'
            have KP : Hid (∀ w', Below w1.heap.size w1 w' → w'.cell? ⟨b, off + 2, none⟩ = some (.string mv) ∧ Below w1.heap.size w1 w') := fun w' b' => ⟨(b'.cell (p := ⟨b, off + 2, none⟩) lb).trans c2', b'⟩
            have BE : Hid (∀ w', Below w1.heap.size w1 w' → Calls Tryz.prog 91 #[.slice (some ⟨b, off + 3, none⟩) ts.length (c - 1)] w' (fun e w2 => e = .returned (.string ⟨(bracesF ts).toArray⟩) ∧ Below w1.heap.size w1 w2)) := fun w' b' =>
              (braces_any ts _ w' (HT.out.below (hb1.trans (b'.mono hb1.size))) (by omega) HS.out).mono fun e w2 h => ⟨h.1, b'.trans (h.2.mono b'.size)⟩
            have hb0 : Below w1.heap.size w1 w1 := Below.refl _ _
            generalize hbs : (⟨(bracesF ts).toArray⟩ : ByteArray) = bs at *
            have HBS := Lib.hid hbs
            have hbz : bs.size ≤ 2 + ts.length * 400010 := by rw [← hbs]; exact bracesF_len HS.out
            have hz2 : mv.size ≤ 100000 := hz.2
            have hq1 : ¬ 9223372036854775807 < mv.size + bs.size := by omega
            clear hbs N HT
            go_upto_region 5 with fail
            go_region_held3 (fun w' => w'.cell? ⟨b, off + 2, none⟩ = some (.string mv) ∧ Below w1.heap.size w1 w')
              ((refine KP.out _ ?_; (try go_split_ands); (repeat (first | refine Below.drew ?_ | refine below_drewN ?_ _)); assumption))
              ((go_at_call 91; refine Calls.mono (BE.out _ ?_) ?_; (repeat (first | refine Below.drew ?_ | refine below_drewN ?_ _)); assumption; rintro e w' ⟨rfl, hb9⟩))
            all_goals
              have B2 := Lib.hid (hb1.trans (hb9.mono hb1.size))
              go_wp2_with fail
              go_ret
              exact ⟨by rw [E.out]; show Ending.returned (.string (mv ++ bs)) = _; rw [← HBS.out]; congr 2, B2.out⟩
      · have E : Hid (printF (⟨1, mn, mv⟩ :: t) = bracesF (⟨1, mn, mv⟩ :: t)) := by
          show _ = _
          unfold printF headB
          simp only
          rw [decide_eq_false hq, Bool.and_false, Bool.false_and, if_neg (by simp)]
        have hne : (mn.toList == [95, 95, 110, 97, 109, 101, 95, 95]) = false := by
          rw [tl_eq]
          simpa [nameL] using hq
        have hne2 : (mn.toList != [95, 95, 110, 97, 109, 101, 95, 95]) = true := by
          unfold bne
          rw [hne]; rfl
        clear hq
        simp only [List.length_cons] at BR ⊢
        go_enter Tryz.func70, Tryz.ntmps70
        go_wp2_with fail
        refine (BR.out _ (Below.refl _ _)).mono ?_
        rintro e w2 ⟨rfl, hb2⟩
        go_wp2_with fail
        go_ret
        exact ⟨by rw [E.out]; rfl, hb2⟩
    · have E : Hid (printF (⟨mk, mn, mv⟩ :: t) = bracesF (⟨mk, mn, mv⟩ :: t)) := by
        show _ = _
        unfold printF headB
        simp only
        rw [decide_eq_false hk, Bool.false_and, Bool.false_and, if_neg (by simp)]
      have hne2 : (mk != 1) = true := by simpa using hk
      clear hk
      simp only [List.length_cons] at BR ⊢
      go_enter Tryz.func70, Tryz.ntmps70
      go_wp2_with fail
      refine (BR.out _ (Below.refl _ _)).mono ?_
      rintro e w2 ⟨rfl, hb2⟩
      go_wp2_with fail
      go_ret
      exact ⟨by rw [E.out]; rfl, hb2⟩
end Go.Proofs.YtmbfpichaaanpaaGreatDoor

/-! Expressions, plainly: nodes, what is wrong with them, how they are read and printed. No program in sight. -/
namespace Go.Proofs.YtmbfpichaaanpaaGreatDoor
namespace Ex
open Ut Rx Mt Go.Lib
/-- a node -/
structure Nd where
  k : Int
  op : Int
  v : Nat
  wd : Nat
  sel : List M
  bl : Bool
  gb : Bool
  nm : List ByteArray

def opsE (k : Int) : Int := if k = 0 ∨ k = 1 ∨ k = 2 ∨ k = 4 then 0 else if k = 3 then 15 else if k = 5 then 5 else if k = 6 then 6 else if k = 7 then 3 else if k = 8 then 6 else -1
def plainE (n : Nd) : Bool := (decide (n.k = 0) || decide (n.v = 0)) && (decide (n.k = 2) || decide (n.wd = 0)) && (decide (n.k = 1) || decide (n.k = 2) || n.sel.isEmpty) && (decide (n.k = 6) || !n.bl) && (decide (n.k = 8) || !n.gb && n.nm.isEmpty)
def namesE : List ByteArray → Int
  | [] => 0
  | s :: t => if namedF (by_ s) then namesE t else 50
def argE (n : Nd) : Bool := decide (opsE n.k < 0) || decide (n.op < 0) || (decide (0 < opsE n.k) && decide (opsE n.k ≤ n.op)) || (decide (opsE n.k = 0) && !decide (n.op = 0)) || !plainE n
def aloneE (n : Nd) : Int :=
  if argE n then 1 else
  if n.k = 2 ∧ (n.wd = 0 ∨ 9223372036854775808 ≤ n.wd) then 1 else
  if n.k = 1 ∨ n.k = 2 then rightF n.sel else
  if 16 < n.nm.length then 3 else namesE n.nm
def takesE (n : Nd) : Int := if n.k = 0 ∨ n.k = 1 ∨ n.k = 2 then 0 else if n.k = 8 then (if n.op = 5 then 2 else 1) else if n.k = 3 ∨ n.k = 4 then 1 else if n.k = 5 ∨ n.k = 6 ∨ n.k = 7 then 2 else -1
def valuedE (t : Int) : Bool := decide (t = 1) || decide (t = 2)
def twoE (n : Nd) (a b : Int) : Int :=
  if n.k = 7 then (if a = 2 ∧ b = 2 then 2 else 0) else
  if n.k = 8 then (if a = 1 ∧ b = 2 then 2 else 0) else
  if !valuedE a || !valuedE b then 0 else if a = 2 ∨ b = 2 then 2 else if n.k = 5 ∨ n.bl = true then 1 else 0
def oneE (n : Nd) (a : Int) : Int :=
  if n.k = 4 then (if valuedE a then a else 0) else
  if n.k = 3 ∧ n.op ≤ 8 then (if a = 3 then 2 else 0) else
  if n.k = 3 ∧ n.op = 13 then (if a = 2 then 1 else 0) else
  if n.k = 3 ∧ n.op = 14 then (if a = 1 then 2 else 0) else
  if a = 2 then 2 else 0
/-- the types behind one node more (the last one first), or what is wrong -/
def stepE (n : Nd) (l : List Int) : Except Int (List Int) :=
  if aloneE n ≠ 0 then .error (aloneE n) else
  if (l.length : Int) < takesE n then .error 8 else
  if n.k = 0 then .ok (1 :: l) else if n.k = 1 then .ok (2 :: l) else if n.k = 2 then .ok (3 :: l) else
  if takesE n = 1 then (match l with
    | a :: t => if oneE n a = 0 then .error 260 else .ok (oneE n a :: t)
    | [] => .error 8)
  else match l with
    | b :: a :: t => if twoE n a b = 0 then .error 260 else .ok (twoE n a b :: t)
    | _ => .error 8
def checkGo : List Nd → List Int → Except Int (List Int)
  | [], l => .ok l
  | n :: t, l => match stepE n l with | .ok l2 => checkGo t l2 | .error e => .error e
def checkE (e : List Nd) : Int × Int :=
  if 64 < e.length then (0, 3) else
  match checkGo e [] with
  | .error x => (0, x)
  | .ok [t] => if t = 3 then (0, 260) else (t, 0)
  | .ok _ => (0, 8)
/-- from place i down -/
def beginGo (e : List Nd) : Nat → Int → Int
  | i, need => match e[i]? with
    | none => -1
    | some n => if takesE n < 0 then -1 else if need + (takesE n - 1) = 0 then (i : Int) else match i with | 0 => -1 | i + 1 => beginGo e i (need + (takesE n - 1))
def beginE (e : List Nd) (i : Int) : Int := if i < 0 ∨ (e.length : Int) ≤ i then -1 else beginGo e i.toNat 1

/-! ### words -/
def callsT : List (List UInt8) := [[114, 97, 116, 101], [105, 110, 99, 114, 101, 97, 115, 101], [100, 101, 108, 116, 97], [115, 117, 109, 95, 111, 118, 101, 114, 95, 116, 105, 109, 101], [97, 118, 103, 95, 111, 118, 101, 114, 95, 116, 105, 109, 101], [109, 105, 110, 95, 111, 118, 101, 114, 95, 116, 105, 109, 101], [109, 97, 120, 95, 111, 118, 101, 114, 95, 116, 105, 109, 101], [99, 111, 117, 110, 116, 95, 111, 118, 101, 114, 95, 116, 105, 109, 101], [108, 97, 115, 116, 95, 111, 118, 101, 114, 95, 116, 105, 109, 101], [97, 98, 115], [102, 108, 111, 111, 114], [99, 101, 105, 108], [115, 113, 114, 116], [115, 99, 97, 108, 97, 114], [118, 101, 99, 116, 111, 114]]
def aggsT : List (List UInt8) := [[115, 117, 109], [97, 118, 103], [109, 105, 110], [109, 97, 120], [99, 111, 117, 110, 116], [113, 117, 97, 110, 116, 105, 108, 101]]
def setsT : List (List UInt8) := [[97, 110, 100], [111, 114], [117, 110, 108, 101, 115, 115]]
def cmpsT : List (List UInt8) := [[61, 61], [33, 61], [62], [60], [62, 61], [60, 61]]
def binsT : List (List UInt8) := [[43], [45], [42], [47], [37]]
def boolT : List UInt8 := [98, 111, 111, 108]
def byT : List UInt8 := [98, 121]
def withoutT : List UInt8 := [119, 105, 116, 104, 111, 117, 116]
/-- where a text stands in a list; -1: nowhere -/
def placeGo : List (List UInt8) → List UInt8 → Int → Int
  | [], _, _ => -1
  | x :: t, s, i => if x = s then i else placeGo t s (i + 1)
def placeE (l : List (List UInt8)) (s : List UInt8) : Int := placeGo l s 0
def reservedE (s : List UInt8) : Bool := decide (s = boolT) || decide (s = byT) || decide (s = withoutT) || decide (0 ≤ placeE callsT s) || decide (0 ≤ placeE aggsT s) || decide (0 ≤ placeE setsT s)

/-! ### reading -/
structure P where
  s : List UInt8
  l : List Nd
  bad : Bool
  e : Int
def bareP (p : P) : P := { p with s := bareF p.s }
def hasP (t : List UInt8) (p : P) : Bool × P := match eatF t (bareF p.s) with | some u => (true, { p with s := u }) | none => (false, bareP p)
def nextP (c : UInt8) (p : P) : Bool × P := (decide ((bareF p.s).head? = some c), bareP p)
def mustP (t : List UInt8) (p : P) : P := match eatF t (bareF p.s) with | some u => { p with s := u } | none => { bareP p with bad := true }
def wordF (s : List UInt8) : List UInt8 := s.takeWhile letU
def peekW (s : List UInt8) : List UInt8 := if headDig (wordF (bareF s)) then [] else wordF (bareF s)
def isP (w : List UInt8) (p : P) : Bool × P := if peekW p.s = w then (true, { p with s := (bareF p.s).drop w.length }) else (false, bareP p)
def digC (c : UInt8) : Bool := decide (48 ≤ c.toNat) && decide (c.toNat ≤ 57)
/-- digits: the number, how many, what is left; none: too great -/
def whoGo (most : Nat) : Nat → Nat → List UInt8 → Option (Nat × Nat × List UInt8)
  | n, k, c :: t => if digC c then (if (most - (c.toNat - 48)) / 10 < n then none else whoGo most (10 * n + (c.toNat - 48)) (k + 1) t) else some (n, k, c :: t)
  | n, k, [] => some (n, k, [])
def wholeP (most : Nat) (p : P) : Nat × P :=
  match whoGo most 0 0 (bareF p.s) with
  | none => (0, { bareP p with bad := true })
  | some (n, k, r) => (n, { p with s := r, bad := p.bad || decide (k = 0) || (decide (1 < k) && decide ((bareF p.s).head? = some 48)) })
def hexV (c : UInt8) : Option Nat := if 48 ≤ c.toNat ∧ c.toNat ≤ 57 then some (c.toNat - 48) else if 97 ≤ c.toNat ∧ c.toNat ≤ 102 then some (c.toNat - 87) else none
/-- at most k digits of sixteen: the value (of 64 bits), how many are wanting, what is left -/
def hexGo : Nat → Nat → List UInt8 → Nat × Nat × List UInt8
  | 0, v, l => (v, 0, l)
  | k + 1, v, [] => (v, k + 1, [])
  | k + 1, v, c :: t => match hexV c with | some d => hexGo k ((16 * v + d) % 18446744073709551616) t | none => (v, k + 1, c :: t)
def bitsP (p : P) : Nat × P := let r := hexGo 16 0 p.s; (r.1, { p with s := r.2.2, bad := p.bad || decide (r.2.1 ≠ 0) })
/-- how many bytes up to the first } outside of quotes -/
def scanF : Nat → List UInt8 → Option Nat
  | 0, _ => none
  | _ + 1, [] => none
  | n + 1, c :: t => if c = 125 then some 1 else if c = 34 then (match unqF t with
      | .ok (_, r) => (scanF n r).map (· + ((c :: t).length - r.length))
      | .error _ => none)
    else (scanF n t).map (· + 1)
def bracesE (p : P) : List UInt8 × P := match scanF p.s.length (p.s.drop 1) with
  | some n => (p.s.take (n + 1), { p with s := p.s.drop (n + 1) })
  | none => ([], { p with bad := true })
def nd0 : Nd := ⟨0, 0, 0, 0, [], false, false, []⟩
/-- a selector's text -/
def selW (p : P) : List UInt8 × P :=
  let w := peekW p.s
  let p1 : P := { p with s := bareF ((bareF p.s).drop w.length) }
  if p1.s.head? = some 123 then (w ++ (bracesE p1).1, (bracesE p1).2) else (w, p1)
def selE (p : P) : P :=
  let w := (selW p).1
  let p1 : P := { (selW p).2 with bad := (selW p).2.bad || w.isEmpty }
  let p2 : P := match parseP w with | .ok _ => p1 | .error x => { p1 with e := if p1.e = 0 then x else p1.e }
  let sl := match parseP w with | .ok l => l | .error _ => []
  let h := hasP [91] p2
  if h.1 then
    let q := wholeP 9223372036854775807 h.2
    let p3 := mustP [93] q.2
    { p3 with l := p3.l ++ [{ nd0 with k := 2, wd := q.1, sel := sl }] }
  else { h.2 with l := h.2.l ++ [{ nd0 with k := 1, sel := sl }] }
def namesGo : Nat → Bool → List ByteArray → P → Option (List ByteArray × P)
  | 0, _, _, _ => none
  | n + 1, first, acc, p =>
    if p.bad then some (acc, p) else
    if (nextP 41 p).1 then some (acc, (nextP 41 p).2) else
    let p1 := if first then bareP p else mustP [44] (bareP p)
    let w := peekW p1.s
    namesGo n false (acc ++ [⟨w.toArray⟩]) { p1 with s := (bareF p1.s).drop w.length, bad := p1.bad || w.isEmpty }
def namesP (p : P) : Option (List ByteArray × P) := (namesGo (p.s.length + 3) true [] (mustP [40] p)).map fun r => (r.1, mustP [41] r.2)
/-- what groups stand behind the name of what many come to -/
def byP (op : Int) (p : P) : Option (Nd × P) :=
  if (isP byT p).1 then (namesP (isP byT p).2).map fun r => ({ nd0 with k := 8, op := op, gb := true, nm := r.1 }, r.2) else
  if (isP withoutT (isP byT p).2).1 then (namesP (isP withoutT (isP byT p).2).2).map fun r => ({ nd0 with k := 8, op := op, gb := false, nm := r.1 }, r.2) else
  some ({ nd0 with k := 8, op := op, gb := true }, (isP withoutT (isP byT p).2).2)
/-- does what stands next begin a function, or what many come to? -/
def callAt (s : List UInt8) : Bool :=
  let w := peekW s
  let after := (bareF s).drop w.length
  (decide (0 ≤ placeE callsT w) || decide (0 ≤ placeE aggsT w)) && (decide ((bareF after).head? = some 40) || (decide (0 ≤ placeE aggsT w) && (decide (peekW after = byT) || decide (peekW after = withoutT))))
def tryP : List (Int × List UInt8) → P → Option Int × P
  | [], p => (none, p)
  | (k, t) :: r, p => if (hasP t p).1 then (some k, (hasP t p).2) else tryP r (hasP t p).2
def cmpOrd : List (Int × List UInt8) := [(0, [61, 61]), (1, [33, 61]), (4, [62, 61]), (5, [60, 61]), (2, [62]), (3, [60])]
def binOrd : List (Int × List UInt8) := [(2, [42]), (3, [47]), (4, [37])]
/-- a sign of a strength -/
def signE (k : Int) (p : P) : Option Nd × P :=
  if k = 0 then (let r := isP [111, 114] p; if r.1 then (some { nd0 with k := 7, op := 1 }, r.2) else (none, r.2)) else
  if k = 1 then (let r := isP [97, 110, 100] p; if r.1 then (some { nd0 with k := 7, op := 0 }, r.2) else
    let q := isP [117, 110, 108, 101, 115, 115] r.2; if q.1 then (some { nd0 with k := 7, op := 2 }, q.2) else (none, q.2)) else
  if k = 2 then (match tryP cmpOrd p with
    | (some o, q) => let r := isP boolT q; (some { nd0 with k := 6, op := o, bl := r.1 }, r.2)
    | (none, q) => (none, q)) else
  if k = 3 then (let r := hasP [43] p; if r.1 then (some { nd0 with k := 5 }, r.2) else
    let q := hasP [45] r.2; if q.1 then (some { nd0 with k := 5, op := 1 }, q.2) else (none, q.2)) else
  match tryP binOrd p with
  | (some o, q) => (some { nd0 with k := 5, op := o }, q)
  | (none, q) => (none, q)
inductive Md where
  | level (k : Nat)
  | loop (k : Nat)
  | term
def putP (n : Nd) (p : P) : P := { p with l := p.l ++ [n] }
/-- of: a whole number as a value -/
def parE (of : Int → Nat) : Nat → Md → P → Option P
  | 0, _, _ => none
  | n + 1, .level k, p => (parE of n (if k = 4 then .term else .level (k + 1)) p).bind (parE of n (.loop k))
  | n + 1, .loop k, p =>
    if p.bad then some p else
    match signE k p with
    | (none, q) => some q
    | (some x, q) => (parE of n (if k = 4 then .term else .level (k + 1)) q).bind fun r => parE of n (.loop k) (putP x r)
  | n + 1, .term, p =>
    match bareF p.s with
    | [] => some { bareP p with bad := true }
    | c :: t =>
      if p.bad then some (bareP p) else
      if c = 45 then (parE of n .term { p with s := t }).map (putP { nd0 with k := 4 }) else
      if digC c then (let q := wholeP 9007199254740992 (bareP p); some (putP { nd0 with v := of (q.1 : Int) } q.2)) else
      if c = 35 then (let q := bitsP { p with s := t }; some (putP { nd0 with v := q.1 } q.2)) else
      if c = 40 then (parE of n (.level 0) { p with s := t }).map (mustP [41]) else
      if callAt (c :: t) then
        (let w := peekW (c :: t)
         let p1 : P := { p with s := (c :: t).drop w.length }
         if 0 ≤ placeE aggsT w then
           (byP (placeE aggsT w) p1).bind fun r =>
           (parE of n (.level 0) (mustP [40] r.2)).bind fun q =>
           if placeE aggsT w = 5 then (parE of n (.level 0) (mustP [44] q)).map fun q2 => putP r.1 (mustP [41] q2)
           else some (putP r.1 (mustP [41] q))
         else (parE of n (.level 0) (mustP [40] p1)).map fun q => putP { nd0 with k := 3, op := placeE callsT w } (mustP [41] q))
      else some (selE (bareP p))
def parseE (of : Int → Nat) (s : List UInt8) : Except Int (List Nd) :=
  if 1024 < s.length then .error 3 else
  match parE of (8 * s.length + 20) (.level 0) ⟨s, [], false, 0⟩ with
  | none => .error (-1)
  | some p => if p.bad || !(bareF p.s).isEmpty then .error 8 else if 64 < p.l.length then .error 3 else if p.e ≠ 0 then .error p.e else if (checkE p.l).2 ≠ 0 then .error (checkE p.l).2 else .ok p.l
end Ex
end Go.Proofs.YtmbfpichaaanpaaGreatDoor

/-! A world for the witness of each card: the tables of unicode/utf8 and the words of expressions laid. -/
namespace Go.Proofs.YtmbfpichaaanpaaGreatDoor
open Go.ChangeShapes Go.WideShapes Go.ChangeAt Go.RowKit

set_option maxRecDepth 100000 in
theorem ownNone : ownKnob Tryz.prog.godebug = none := by kernel_rfl
set_option maxRecDepth 100000 in
theorem laidOutAll : laidOutB Tryz.prog = true := by kernel_rfl
def acceptZ : List Nat := [128, 191, 160, 191, 128, 159, 144, 191, 128, 143, 0, 0, 0, 0, 0, 0, 0, 0, 0, 0, 0, 0, 0, 0, 0, 0, 0, 0, 0, 0, 0, 0]
def putCells (cs : Array Value) : Obj → Obj
  | .cells _ t frozen => .cells cs t frozen
  | o => o
def wordsV (l : List (List UInt8)) : Array Value := (l.map fun x => Value.string ⟨x.toArray⟩).toArray
/-- the settled world, the tables holding what their initialisers lay -/
noncomputable def laidWorld (os : Os) : World :=
  { World.holding Tryz.prog os ⟨#[], #[], []⟩ with heap := (((((((World.holding Tryz.prog os ⟨#[], #[], []⟩).heap.modify 6 (putCells (Go.Pinned.utf8FirstZ.map (fun (n : Nat) => Value.int .u8 n)).toArray)).modify 7 (putCells (acceptZ.map (fun (n : Nat) => Value.int .u8 n)).toArray)).modify 0 (putCells (wordsV Ex.callsT))).modify 1 (putCells (wordsV Ex.aggsT))).modify 2 (putCells (wordsV Ex.setsT))).modify 3 (putCells (wordsV Ex.binsT))).modify 4 (putCells (wordsV Ex.cmpsT)) }
end Go.Proofs.YtmbfpichaaanpaaGreatDoor

/-! Expressions printed, plainly. No program in sight. -/
namespace Go.Proofs.YtmbfpichaaanpaaGreatDoor
namespace Ex
open Ut Rx Mt Go.Lib
def digGo : Nat → Nat → List UInt8
  | 0, n => [UInt8.ofNat (48 + n % 10)]
  | f + 1, n => if n < 10 then [UInt8.ofNat (48 + n)] else digGo f (n / 10) ++ [UInt8.ofNat (48 + n % 10)]
def digF (n : Nat) : List UInt8 := digGo 20 n
def hexD (d : Nat) : UInt8 := UInt8.ofNat (if d < 10 then 48 + d else 87 + d)
/-- k digits of sixteen, the least last -/
def hexF : Nat → Nat → List UInt8
  | 0, _ => []
  | k + 1, v => hexF k (v / 16) ++ [hexD (v % 16)]
structure Fl where
  of : Int → Nat
  ws : Nat → Int
  wb : Nat → Bool
def numE (f : Fl) (v : Nat) : List UInt8 := if f.wb v = true ∧ 0 ≤ f.ws v ∧ f.ws v ≤ 9007199254740992 ∧ f.of (f.ws v) = v then digF (f.ws v).toNat else 35 :: hexF 16 v
def xM : M := ⟨1, ⟨#[120]⟩, ⟨#[]⟩⟩
def selT (l : List M) : List UInt8 :=
  let s := printF l
  let w := wordF s
  match l with
  | [] => s
  | m :: t => if w = [] ∨ reservedE w = false then s else
    let first := ((printF [xM, m]).drop 7).dropLast
    if t = [] then 123 :: (first ++ [125]) else 123 :: (first ++ [44, 32] ++ s.drop (w.length + 1))
def joinC : List ByteArray → List UInt8
  | [] => []
  | [s] => by_ s
  | s :: t => by_ s ++ [44, 32] ++ joinC t
def groupT (n : Nd) : List UInt8 := if n.gb = true ∧ n.nm = [] then [] else
  (if n.gb then [32, 98, 121, 32, 40] else [32, 119, 105, 116, 104, 111, 117, 116, 32, 40]) ++ joinC n.nm ++ [41, 32]
def pairT (a s b : List UInt8) : List UInt8 := [40] ++ a ++ [32] ++ s ++ [32] ++ b ++ [41]
def nthT (l : List (List UInt8)) (i : Int) : List UInt8 := l.getD i.toNat []
/-- the text of the part that ends at place i -/
def textE (f : Fl) (e : List Nd) : Nat → Int → List UInt8
  | 0, _ => []
  | k + 1, i => match e[i.toNat]? with
    | none => []
    | some n =>
      if n.k = 0 then numE f n.v else if n.k = 1 then selT n.sel else if n.k = 2 then selT n.sel ++ [91] ++ digF n.wd ++ [93] else
      let b := textE f e k (i - 1)
      if takesE n = 1 then
        (if n.k = 3 then nthT callsT n.op ++ [40] ++ b ++ [41] else if n.k = 4 then [40, 45] ++ b ++ [41] else nthT aggsT n.op ++ groupT n ++ [40] ++ b ++ [41])
      else
        let a := textE f e k (beginE e (i - 1) - 1)
        if n.k = 5 then pairT a (nthT binsT n.op) b else
        if n.k = 6 then pairT a (nthT cmpsT n.op ++ (if n.bl then [32, 98, 111, 111, 108] else [])) b else
        if n.k = 7 then pairT a (nthT setsT n.op) b else
        nthT aggsT n.op ++ groupT n ++ [40] ++ a ++ [44, 32] ++ b ++ [41]
def printE (f : Fl) (e : List Nd) : List UInt8 := if (checkE e).2 ≠ 0 then [] else textE f e (e.length + 1) ((e.length : Int) - 1)
end Ex
end Go.Proofs.YtmbfpichaaanpaaGreatDoor
