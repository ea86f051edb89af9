import Derived.Test.YtmbfpichaaanpaaGreatDoorX02
import Derived.Shelf.Small.Utf8
import Derived.Shelf.Unicode.ValidAny
import Derived.Shelf.Unicode.Decode
import Derived.Shelf.Unicode.DecodeSlow
import Derived.Shelf.Unicode.DecodeAny
import Derived.Ground.SlgnProg
import Derived.Shelf.SlicesE.Clone
import Derived.Test.YtmbfpichaaanpaaGreatDoorProg
/-! Patterns: their parts, what they match, how they are read, plainly. No program in sight. -/
namespace Go.Proofs.YtmbfpichaaanpaaGreatDoor
namespace Rx
/-- a pattern -/
inductive Pat where
  | one (set : List Span) (but : Bool)
  | nil
  | cat (a b : Pat)
  | alt (a b : Pat)
  | again (a : Pat) (sign : Int)

def den : Pat → Fi
  | .one s b => oneF s b
  | .nil => fun _ v => v
  | .cat a b => fun l v => den b l (den a l v)
  | .alt a b => fun l v => orF (den a l v) (den b l v)
  | .again a s => oftenF (den a) s

theorem den_lin (l : List Int) : ∀ p : Pat, Lin (l.length + 1) (den p l)
  | .one s b => oneF_lin s b l
  | .nil => id_lin _
  | .cat a b => comp_lin (p := den a l) (q := den b l) (den_lin l a) (den_lin l b)
  | .alt a b => or_lin (p := den a l) (q := den b l) (den_lin l a) (den_lin l b)
  | .again a s => oftenF_lin (den a) s l (den_lin l a)

/-- the rune that stands next; -1: the end -/
def pk : List Int → Int
  | [] => -1
  | c :: _ => c

def specB (c : Int) : Bool := [46, 42, 43, 63, 40, 41, 91, 93, 123, 125, 124, 94, 36, 92].contains c
def shortF (c : Int) : Option (List Span) :=
  if c = 100 then some [(48, 57)] else if c = 119 then some [(48, 57), (65, 90), (97, 122), (95, 95)] else if c = 115 then some [(32, 32), (9, 9), (10, 10)] else none
/-- behind a backslash: the runes; is it one by itself; what is left -/
def escF : List Int → Except Int (List Span × Bool × List Int)
  | [] => .error 8
  | c :: t => match shortF c with
    | some s => .ok (s, false, t)
    | none => if specB c || c == 45 || c == 47 then .ok ([(c, c)], true, t) else .error 8
/-- of a class -/
def memF : List Int → Except Int (List Span × Bool × List Int)
  | [] => .error 8
  | c :: t => if c == 91 || c == 93 || c == 94 || c == 45 then .error 8 else if c == 92 then escF t else .ok ([(c, c)], true, t)
def lowF (s : List Span) : Int := (s.headD (0, 0)).1
def uppF (lo : Int) (l : List Int) : Except Int (Int × List Int) :=
  if pk l == 92 && decide (lo > 125) then .error 8 else
  match memF l with
  | .error e => .error e
  | .ok (s, single, t) => if !single || decide (lowF s < lo) then .error 8 else .ok (lowF s, t)
def itemF (l : List Int) : Except Int (List Span × List Int) :=
  match memF l with
  | .error e => .error e
  | .ok (s, single, t) => if single && pk t == 45 then
      (match uppF (lowF s) t.tail with
      | .error e => .error e
      | .ok (hi, u) => .ok ([(lowF s, hi)], u))
    else .ok (s, t)
def clsF : Nat → Bool → List Span → List Int → Option (Except Int (List Span × List Int))
  | 0, _, _, _ => none
  | n + 1, first, acc, l => if first || pk l != 93 then
      (match itemF l with
      | .error e => some (.error e)
      | .ok (s, t) => clsF n false (acc ++ s) t)
    else some (.ok (acc, l.tail))

/-- which function reads -/
inductive Md where
  | pat
  | alt (acc : Pat)
  | bra (acc : Pat)
  | atom

abbrev Out := Except Int (Pat × List Int)
def thenF (r : Option Out) (k : Pat → List Int → Option Out) : Option Out :=
  match r with
  | none => none
  | some (.error e) => some (.error e)
  | some (.ok (p, l)) => k p l
def signB (c : Int) : Bool := c == 42 || c == 43 || c == 63
def butF (l : List Int) : List Int := if pk l == 94 then l.tail else l
def parF : Nat → Md → Nat → List Int → Option Out
  | 0, _, _, _ => none
  | n + 1, .pat, d, l => thenF (parF n (.bra .nil) d l) fun p l => parF n (.alt p) d l
  | n + 1, .alt acc, d, l => if pk l == 124 then thenF (parF n (.bra .nil) d l.tail) fun p l => parF n (.alt (.alt acc p)) d l else some (.ok (acc, l))
  | n + 1, .bra acc, d, l => if decide (pk l ≥ 0) && pk l != 124 && pk l != 41 then
      thenF (parF n .atom d l) fun p l => if signB (pk l) then parF n (.bra (.cat acc (.again p (pk l)))) d l.tail else parF n (.bra (.cat acc p)) d l
    else some (.ok (acc, l))
  | n + 1, .atom, d, l =>
    if pk l == 40 then (if d ≥ 20 then some (.error 60) else thenF (parF n .pat (d + 1) l.tail) fun p l => if pk l == 41 then some (.ok (p, l.tail)) else some (.error 8))
    else if pk l == 91 then (match clsF n true [] (butF l.tail) with
      | none => none
      | some (.error e) => some (.error e)
      | some (.ok (s, t)) => some (.ok (.one s (pk l.tail == 94), t)))
    else if pk l == 46 then some (.ok (.one [] true, l.tail))
    else if pk l == 92 then (match escF l.tail with
      | .error e => some (.error e)
      | .ok (s, _, t) => some (.ok (.one s false, t)))
    else if specB (pk l) then some (.error 8)
    else some (.ok (.one [(pk l, pk l)] false, l.tail))

/-! ### the reading ends -/
theorem escF_le {l : List Int} {s : List Span} {b : Bool} {t : List Int} (h : escF l = .ok (s, b, t)) : t.length < l.length := by
  cases l with
  | nil => cases h
  | cons c u =>
    unfold escF at h
    simp only at h
    split at h
    · cases h; simp
    · split at h
      · cases h; simp
      · cases h
theorem memF_le {l : List Int} {s : List Span} {b : Bool} {t : List Int} (h : memF l = .ok (s, b, t)) : t.length < l.length := by
  cases l with
  | nil => cases h
  | cons c u =>
    simp only [memF] at h
    split at h
    · cases h
    · split at h
      · have := escF_le h; simp; omega
      · cases h; simp
theorem uppF_le {lo : Int} {l : List Int} {c : Int} {t : List Int} (h : uppF lo l = .ok (c, t)) : t.length < l.length := by
  unfold uppF at h
  split at h
  · cases h
  · split at h
    · cases h
    · rename_i s b t' hm
      split at h
      · cases h
      · cases h; exact memF_le hm
theorem itemF_le {l : List Int} {s : List Span} {t : List Int} (h : itemF l = .ok (s, t)) : t.length < l.length := by
  unfold itemF at h
  split at h
  · cases h
  · rename_i s' b t' hm
    have := memF_le hm
    split at h
    · split at h
      · cases h
      · rename_i hi u hu
        have := uppF_le hu
        cases h
        have : t'.tail.length ≤ t'.length := by simp
        omega
    · cases h; exact this
theorem clsF_ends : ∀ (n : Nat) (first : Bool) (acc : List Span) (l : List Int), l.length < n → ∃ r, (∀ k, clsF (n + k) first acc l = some r) ∧ ∀ s t, r = .ok (s, t) → t.length ≤ l.length
  | 0, _, _, _, h => by omega
  | n + 1, first, acc, l, h => by
    have e : ∀ k, n + 1 + k = n + k + 1 := fun k => by omega
    by_cases c : (first || pk l != 93) = true
    · cases hi : itemF l with
      | error er => exact ⟨.error er, fun k => by rw [e]; unfold clsF; rw [if_pos c, hi], fun s t h => by cases h⟩
      | ok st =>
        obtain ⟨s, t⟩ := st
        have hl := itemF_le hi
        obtain ⟨r, hr, ht⟩ := clsF_ends n false (acc ++ s) t (by omega)
        exact ⟨r, fun k => by rw [e]; unfold clsF; rw [if_pos c, hi]; exact hr k, fun s' t' h' => by have := ht s' t' h'; omega⟩
    · exact ⟨.ok (acc, l.tail), fun k => by rw [e]; unfold clsF; rw [if_neg c], fun s t h => by cases h; simp⟩

theorem butF_le (l : List Int) : (butF l).length ≤ l.length := by unfold butF; split <;> simp
theorem pk_pos {l : List Int} (h : pk l ≥ 0) : l.tail.length < l.length := by
  cases l with
  | nil => simp [pk] at h
  | cons c t => simp

/-- how many rounds are enough -/
def need : Md → Nat → Nat
  | .atom, m => 3 * m + 2
  | .bra _, m => 3 * m + 3
  | .alt _, m => 3 * m + 2
  | .pat, m => 3 * m + 4
def shrinks : Md → List Int → List Int → Prop
  | .atom, l, t => t.length < l.length
  | _, l, t => t.length ≤ l.length
def EndsM (n : Nat) (md : Md) (d : Nat) (l : List Int) : Prop := ∃ r, (∀ k, parF (n + k) md d l = some r) ∧ ∀ p t, r = .ok (p, t) → shrinks md l t

theorem parF_ends : ∀ (n : Nat) (md : Md) (d : Nat) (l : List Int), (md = .atom → pk l ≥ 0) → need md l.length ≤ n → EndsM n md d l
  | 0, md, d, l, _, h => by cases md <;> simp [need] at h
  | n + 1, .pat, d, l, _, h => by
    have e : ∀ k, n + 1 + k = n + k + 1 := fun k => by omega
    simp only [need] at h
    obtain ⟨r, hr, ht⟩ := parF_ends n (.bra .nil) d l (fun h => by cases h) (by simp only [need]; omega)
    cases r with
    | error er => exact ⟨.error er, fun k => by rw [e, parF, hr k]; rfl, fun _ _ h => by cases h⟩
    | ok pt =>
      obtain ⟨p, t⟩ := pt
      have h1 : t.length ≤ l.length := ht p t rfl
      obtain ⟨r2, hr2, ht2⟩ := parF_ends n (.alt p) d t (fun h => by cases h) (by simp only [need]; omega)
      exact ⟨r2, fun k => by rw [e, parF, hr k]; exact hr2 k, fun p' t' h' => by have h2 : t'.length ≤ t.length := ht2 p' t' h'; show t'.length ≤ l.length; omega⟩
  | n + 1, .alt acc, d, l, _, h => by
    have e : ∀ k, n + 1 + k = n + k + 1 := fun k => by omega
    simp only [need] at h
    by_cases c : (pk l == 124) = true
    · have hl : l.tail.length < l.length := pk_pos (by have : pk l = 124 := (by simpa using c); omega)
      obtain ⟨r, hr, ht⟩ := parF_ends n (.bra .nil) d l.tail (fun h => by cases h) (by simp only [need]; omega)
      cases r with
      | error er => exact ⟨.error er, fun k => by rw [e, parF, if_pos c, hr k]; rfl, fun _ _ h => by cases h⟩
      | ok pt =>
        obtain ⟨p, t⟩ := pt
        have h1 : t.length ≤ l.tail.length := ht p t rfl
        obtain ⟨r2, hr2, ht2⟩ := parF_ends n (.alt (.alt acc p)) d t (fun h => by cases h) (by simp only [need]; omega)
        exact ⟨r2, fun k => by rw [e, parF, if_pos c, hr k]; exact hr2 k, fun p' t' h' => by have h2 : t'.length ≤ t.length := ht2 p' t' h'; show t'.length ≤ l.length; omega⟩
    · exact ⟨.ok (acc, l), fun k => by rw [e, parF, if_neg c], fun _ _ h => by cases h; exact Nat.le_refl _⟩
  | n + 1, .bra acc, d, l, _, h => by
    have e : ∀ k, n + 1 + k = n + k + 1 := fun k => by omega
    simp only [need] at h
    by_cases c : (decide (pk l ≥ 0) && pk l != 124 && pk l != 41) = true
    · have hp : pk l ≥ 0 := by simp only [Bool.and_eq_true, decide_eq_true_eq] at c; exact c.1.1
      obtain ⟨r, hr, ht⟩ := parF_ends n .atom d l (fun _ => hp) (by simp only [need]; omega)
      cases r with
      | error er => exact ⟨.error er, fun k => by rw [e, parF, if_pos c, hr k]; rfl, fun _ _ h => by cases h⟩
      | ok pt =>
        obtain ⟨p, t⟩ := pt
        have h1 : t.length < l.length := ht p t rfl
        have h1' : t.tail.length ≤ t.length := by simp
        by_cases cs : signB (pk t) = true
        · obtain ⟨r2, hr2, ht2⟩ := parF_ends n (.bra (.cat acc (.again p (pk t)))) d t.tail (fun h => by cases h) (by simp only [need]; omega)
          exact ⟨r2, fun k => by rw [e, parF, if_pos c, hr k]; simp only [thenF]; rw [if_pos cs]; exact hr2 k, fun p' t' h' => by have h2 : t'.length ≤ t.tail.length := ht2 p' t' h'; show t'.length ≤ l.length; omega⟩
        · obtain ⟨r2, hr2, ht2⟩ := parF_ends n (.bra (.cat acc p)) d t (fun h => by cases h) (by simp only [need]; omega)
          exact ⟨r2, fun k => by rw [e, parF, if_pos c, hr k]; simp only [thenF]; rw [if_neg cs]; exact hr2 k, fun p' t' h' => by have h2 : t'.length ≤ t.length := ht2 p' t' h'; show t'.length ≤ l.length; omega⟩
    · exact ⟨.ok (acc, l), fun k => by rw [e, parF, if_neg c], fun _ _ h => by cases h; exact Nat.le_refl _⟩
  | n + 1, .atom, d, l, hp, h => by
    have e : ∀ k, n + 1 + k = n + k + 1 := fun k => by omega
    simp only [need] at h
    have hl := pk_pos (hp rfl)
    by_cases c0 : (pk l == 40) = true
    · by_cases cd : d ≥ 20
      · exact ⟨.error 60, fun k => by rw [e, parF, if_pos c0, if_pos cd], fun _ _ h => by cases h⟩
      · obtain ⟨r, hr, ht⟩ := parF_ends n .pat (d + 1) l.tail (fun h => by cases h) (by simp only [need]; omega)
        cases r with
        | error er => exact ⟨.error er, fun k => by rw [e, parF, if_pos c0, if_neg cd, hr k]; rfl, fun _ _ h => by cases h⟩
        | ok pt =>
          obtain ⟨p, t⟩ := pt
          have h1 : t.length ≤ l.tail.length := ht p t rfl
          have h1' : t.tail.length ≤ t.length := by simp
          by_cases c1 : (pk t == 41) = true
          · exact ⟨.ok (p, t.tail), fun k => by rw [e, parF, if_pos c0, if_neg cd, hr k]; simp only [thenF]; rw [if_pos c1], fun _ _ h => by cases h; show t.tail.length < l.length; omega⟩
          · exact ⟨.error 8, fun k => by rw [e, parF, if_pos c0, if_neg cd, hr k]; simp only [thenF]; rw [if_neg c1], fun _ _ h => by cases h⟩
    · by_cases c1 : (pk l == 91) = true
      · have hb := butF_le l.tail
        obtain ⟨r, hr, ht⟩ := clsF_ends n true [] (butF l.tail) (by omega)
        cases r with
        | error er => exact ⟨.error er, fun k => by rw [e, parF, if_neg c0, if_pos c1, hr k], fun _ _ h => by cases h⟩
        | ok st =>
          obtain ⟨s, t⟩ := st
          have h1 := ht s t rfl
          exact ⟨.ok (.one s (pk l.tail == 94), t), fun k => by rw [e, parF, if_neg c0, if_pos c1, hr k], fun _ _ h => by cases h; show t.length < l.length; omega⟩
      · by_cases c2 : (pk l == 46) = true
        · exact ⟨_, fun k => by rw [e, parF, if_neg c0, if_neg c1, if_pos c2], fun _ _ h => by cases h; exact hl⟩
        · by_cases c3 : (pk l == 92) = true
          · cases he : escF l.tail with
            | error er => exact ⟨.error er, fun k => by rw [e, parF, if_neg c0, if_neg c1, if_neg c2, if_pos c3, he], fun _ _ h => by cases h⟩
            | ok sbt =>
              obtain ⟨s, b, t⟩ := sbt
              have := escF_le he
              exact ⟨.ok (.one s false, t), fun k => by rw [e, parF, if_neg c0, if_neg c1, if_neg c2, if_pos c3, he], fun _ _ h => by cases h; show t.length < l.length; omega⟩
          · by_cases c4 : specB (pk l) = true
            · exact ⟨.error 8, fun k => by rw [e, parF, if_neg c0, if_neg c1, if_neg c2, if_neg c3, if_pos c4], fun _ _ h => by cases h⟩
            · exact ⟨_, fun k => by rw [e, parF, if_neg c0, if_neg c1, if_neg c2, if_neg c3, if_neg c4], fun _ _ h => by cases h; exact hl⟩

/-- a whole text as a pattern; the number is what is wrong -/
def rexF (l : List Int) : Except Int Pat :=
  match parF (3 * l.length + 4) .pat 0 l with
  | some (.ok (p, [])) => .ok p
  | some (.ok (_, _ :: _)) => .error 8
  | some (.error e) => .error e
  | none => .error 8
theorem parF_more {l : List Int} {n : Nat} (h : 3 * l.length + 4 ≤ n) : ∃ r, parF n .pat 0 l = some r ∧ parF (3 * l.length + 4) .pat 0 l = some r := by
  obtain ⟨r, hr, _⟩ := parF_ends (3 * l.length + 4) .pat 0 l (fun h => by cases h) (Nat.le_refl _)
  obtain ⟨k, rfl⟩ : ∃ k, n = 3 * l.length + 4 + k := ⟨n - (3 * l.length + 4), by omega⟩
  exact ⟨r, hr k, hr 0⟩
/-- which texts are of it -/
def fullB (p : Pat) (s : List Int) : Bool := (den p s (true :: List.replicate s.length false)).getD s.length false
end Rx
end Go.Proofs.YtmbfpichaaanpaaGreatDoor

/-
  DERIVED: THE SHELF's CONTRACTS AT THIS DUMP, IN PLAIN WORDS (tools/lay-plain.mjs out of 'TrydShelf.lean', which tools/lay-shelf.mjs wrote): THE SAME DECLARATIONS UNDER THE SAME NAMES: 'import', 'namespace', 'open', 'def', 'theorem' AND NOTHING ELSE: no command of the shelf's: FOR A HAND-IN. Each laying: the table of numbers ('.._ren') and one theorem, a field a fact of the dump's own or the kernel's comparison; each contract: ONE APPLICATION.
-/
namespace Go.Proofs
open Go.Shelf
def Tryz.lays118_ren : Go.Shelf.Ren := ⟨fun | 118 => 160 | n => n, fun | 21 => 21 | 3 => 3 | 4 => 4 | n => n, fun | n => n⟩
theorem Tryz.lays118 : Go.Proofs.Lays.n118 Tryz.prog Tryz.lays118_ren := {
  mixed := by kernel_rfl
  f118 := Tryz.func160.trans (congrArg some (by kernel_rfl))
  t3 := Tryz.underlying3
  a3 := Tryz.isAgg3
  z3 := Tryz.sizeOf3
  v3 := Tryz.zeroValue3
  t4 := Tryz.underlying4
  a4 := Tryz.isAgg4
  z4 := Tryz.sizeOf4
  v4 := Tryz.zeroValue4
  t21 := Tryz.underlying21
  a21 := Tryz.isAgg21
  z21 := Tryz.sizeOf21
  v21 := Tryz.zeroValue21 }
/-- utf8.RuneLen: "RuneLen returns the number of bytes in the UTF-8 encoding of the rune. It returns -1 if the rune is not a valid value to encode in UTF-8.": IT RETURNS 'Lib.runeLen r'; the world is as it was. (LAID: no walk: one application.) -/
theorem Tryz.utf8_RuneLen (r : Int) (w : World) :
    Calls Tryz.prog 160 #[.int .i32 r] w fun e w' => e = .returned (.int .i64 (Lib.runeLen r)) ∧ w' = w := Any.utf8_RuneLen Tryz.lays118 r w
def Tryz.lays197_ren : Go.Shelf.Ren := ⟨fun | 197 => 159 | 260 => 167 | n => n, fun | 9 => 9 | 21 => 21 | 3 => 3 | 4 => 4 | 5 => 5 | 105 => 173 | 119 => 169 | 0 => 0 | 46 => 89 | 139 => 172 | 138 => 171 | n => n, fun | 3 => 6 | 4 => 7 | n => n⟩
theorem Tryz.lays197 : Go.Proofs.Lays.n197 Tryz.prog Tryz.lays197_ren := {
  mixed := by kernel_rfl
  f197 := Tryz.func159.trans (congrArg some (by kernel_rfl))
  f260 := Tryz.func167.trans (congrArg some (by kernel_rfl))
  t0 := Tryz.underlying0
  a0 := Tryz.isAgg0
  z0 := Tryz.sizeOf0
  v0 := Tryz.zeroValue0
  t3 := Tryz.underlying3
  a3 := Tryz.isAgg3
  z3 := Tryz.sizeOf3
  v3 := Tryz.zeroValue3
  t4 := Tryz.underlying4
  a4 := Tryz.isAgg4
  z4 := Tryz.sizeOf4
  v4 := Tryz.zeroValue4
  t5 := Tryz.underlying5
  a5 := Tryz.isAgg5
  z5 := Tryz.sizeOf5
  v5 := Tryz.zeroValue5
  t9 := Tryz.underlying9
  a9 := Tryz.isAgg9
  z9 := Tryz.sizeOf9
  v9 := Tryz.zeroValue9
  t21 := Tryz.underlying21
  a21 := Tryz.isAgg21
  z21 := Tryz.sizeOf21
  v21 := Tryz.zeroValue21
  t46 := Tryz.underlying89
  a46 := Tryz.isAgg89
  z46 := Tryz.sizeOf89
  v46 := Tryz.zeroValue89
  t105 := Tryz.underlying173
  a105 := Tryz.isAgg173
  z105 := Tryz.sizeOf173
  v105 := Tryz.zeroValue173
  t119 := Tryz.underlying169
  a119 := Tryz.isAgg169
  z119 := Tryz.sizeOf169
  t138 := Tryz.underlying171
  a138 := Tryz.isAgg171
  z138 := Tryz.sizeOf171
  v138 := Tryz.zeroValue171
  t139 := Tryz.underlying172
  a139 := Tryz.isAgg172
  z139 := Tryz.sizeOf172
  v139 := Tryz.zeroValue172
  g3 := by kernel_rfl
  g4 := by kernel_rfl }
open Go.RowKit Go.Lib in
/-- unicode/utf8.DecodeRuneInString: "DecodeRuneInString is like DecodeRune but its input is a string.": ("DecodeRune unpacks the first UTF-8 encoding in p and returns the rune and its width in bytes."): WHERE s BEGINS WITH AN ASCII BYTE x: (x, 1). (LAID: no walk: one application.) -/
theorem Tryz.utf8_DecodeRuneInString_ascii (s : ByteArray) (x : UInt8) (w : World) (h0 : s.data.toList[0]? = some x) (hx : x.toNat < 128) :
    Calls Tryz.prog 159 #[.string s] w fun e w' => e = .returned (.tuple #[.int .i32 x.toNat, .int .i64 1]) ∧ w' = w := Any.utf8_DecodeRuneInString_ascii Tryz.lays197 s x w h0 hx
def Tryz.lays260_ren : Go.Shelf.Ren := ⟨fun | 260 => 167 | n => n, fun | 9 => 9 | 21 => 21 | 3 => 3 | 4 => 4 | 5 => 5 | 119 => 169 | 0 => 0 | 46 => 89 | 139 => 172 | 138 => 171 | n => n, fun | 3 => 6 | 4 => 7 | n => n⟩
theorem Tryz.lays260 : Go.Proofs.Lays.n260 Tryz.prog Tryz.lays260_ren := {
  mixed := by kernel_rfl
  f260 := Tryz.func167.trans (congrArg some (by kernel_rfl))
  t0 := Tryz.underlying0
  a0 := Tryz.isAgg0
  z0 := Tryz.sizeOf0
  v0 := Tryz.zeroValue0
  t3 := Tryz.underlying3
  a3 := Tryz.isAgg3
  z3 := Tryz.sizeOf3
  v3 := Tryz.zeroValue3
  t4 := Tryz.underlying4
  a4 := Tryz.isAgg4
  z4 := Tryz.sizeOf4
  v4 := Tryz.zeroValue4
  t5 := Tryz.underlying5
  a5 := Tryz.isAgg5
  z5 := Tryz.sizeOf5
  v5 := Tryz.zeroValue5
  t9 := Tryz.underlying9
  a9 := Tryz.isAgg9
  z9 := Tryz.sizeOf9
  v9 := Tryz.zeroValue9
  t21 := Tryz.underlying21
  a21 := Tryz.isAgg21
  z21 := Tryz.sizeOf21
  v21 := Tryz.zeroValue21
  t46 := Tryz.underlying89
  a46 := Tryz.isAgg89
  z46 := Tryz.sizeOf89
  v46 := Tryz.zeroValue89
  t119 := Tryz.underlying169
  a119 := Tryz.isAgg169
  z119 := Tryz.sizeOf169
  t138 := Tryz.underlying171
  a138 := Tryz.isAgg171
  z138 := Tryz.sizeOf171
  v138 := Tryz.zeroValue171
  t139 := Tryz.underlying172
  a139 := Tryz.isAgg172
  z139 := Tryz.sizeOf172
  v139 := Tryz.zeroValue172
  g3 := by kernel_rfl
  g4 := by kernel_rfl }
open Go.RowKit Go.Lib in
theorem Tryz.utf8_decodeRuneInStringSlow (s : ByteArray) (w : World) (hT : Lib.Utf8Tabs 6 7 w) :
    Calls Tryz.prog 167 #[.string s] w fun e w' => e = .returned (.tuple #[.int .i32 (Lib.decodeGo s).1, .int .i64 (Lib.decodeGo s).2]) ∧ Below w.heap.size w w' := Any.utf8_decodeRuneInStringSlow Tryz.lays260 s w hT
open Go.RowKit Go.Lib in
/-- **unicode/utf8.DecodeRuneInString AT EVERY STRING.** (LAID: no walk: one application.) -/
theorem Tryz.utf8_DecodeRuneInString (s : ByteArray) (w : World) (hT : Lib.Utf8Tabs 6 7 w) :
    Calls Tryz.prog 159 #[.string s] w fun e w' => e = .returned (.tuple #[.int .i32 (Lib.decodeGo s).1, .int .i64 (Lib.decodeGo s).2]) ∧ Below w.heap.size w w' := Any.utf8_DecodeRuneInString Tryz.lays197 s w hT
def Tryz.laysSlE041_f101_ren : Go.Shelf.Ren := ⟨fun | 41 => 161 | n => n, fun | 22 => 132 | 23 => 4 | 4 => 4 | n => n, fun | n => n⟩
theorem Tryz.laysSlE041_f101 : Go.Proofs.SlLaysE0.n41 Tryz.prog Tryz.laysSlE041_f101_ren := {
  mixed := by kernel_rfl
  f41 := ⟨Tryz.f161.name, by decide, Tryz.func161.trans (congrArg some (by kernel_rfl))⟩
  t4 := Tryz.underlying4
  a4 := Tryz.isAgg4
  z4 := Tryz.sizeOf4
  v4 := Tryz.zeroValue4
  t22 := Tryz.underlying132
  a22 := Tryz.isAgg132
  z22 := Tryz.sizeOf132
  v22 := Tryz.zeroValue132 }
open Go.RowKit Go.Lib in
/-- slices.Clone: "Clone returns a copy of the slice. The elements are copied using assignment, so this is a shallow clone. The result may have additional unused capacity. The result preserves the nilness of s.": OF A SLICE THAT IS NOT nil IT RETURNS A SLICE THAT IS NOT nil, OF THE SAME CELLS, IN MEMORY OF THE CALL's OWN ('ownsRow': the how-to's 6f); below the heap's size at the call all is as it was. (LAID AT THE INSTANCE 'slices.Clone[[]bool,bool]': no walk: one application.) -/
theorem Tryz.slices_Clone (i0 : TypeInfo) (z : Value) (size bytes : Nat) (hi : Tryz.prog.info? 4 = some i0) (hz0 : i0.zero = some z) (hz1 : i0.size = size) (hz2 : i0.bytes = bytes) (hzs : z.cells.size = size) (hsz : 0 < size) (z23 : ∀ w, (Go.sizeOf 4).run Tryz.prog w = .ok size w) (b off n c : Nat) (news : List Value) (w : World) (hl : news.length = n * size) (hn : n ≤ maxLen) (hbig : n * bytes ≤ 140737488355328) (hc : ∀ j u, news[j]? = some u → w.cell? ⟨b, off + j, none⟩ = some u) (h1 : ∀ u ∈ news, u.oneCell' = true) :
    Calls Tryz.prog 161 #[.slice (some ⟨b, off, none⟩) n c] w fun e w' => ∃ v', e = .returned v' ∧ w'.ownsRow w.heap.size 4 size v' n news ∧ v' ≠ .slice none 0 0 ∧ Below w.heap.size w w' := AnyE.slices_Clone Tryz.laysSlE041_f101 i0 z size bytes hi hz0 hz1 hz2 hzs hsz z23 b off n c news w hl hn hbig hc h1
open Go.RowKit Go.Lib in
/-- The same at nil: nil comes back; the world is as it was; nothing is asked of the element's type. (LAID AT THE INSTANCE 'slices.Clone[[]bool,bool]': no walk: one application.) -/
theorem Tryz.slices_Clone_nil (n c : Nat) (w : World) :
    Calls Tryz.prog 161 #[.slice none n c] w fun e w' => e = .returned (.slice none 0 0) ∧ w' = w := AnyE.slices_Clone_nil Tryz.laysSlE041_f101 n c w
def Tryz.laysValid_ren : Go.Shelf.Ren := ⟨fun | 196 => 145 | 259 => 157 | n => n, fun | 9 => 9 | 4 => 4 | 3 => 3 | 5 => 5 | 12 => 12 | 119 => 169 | 0 => 0 | 46 => 89 | 139 => 172 | 138 => 171 | 53 => 33 | n => n, fun | 3 => 6 | 4 => 7 | n => n⟩
theorem Tryz.laysValid : Go.Proofs.Lays.n196 Tryz.prog Tryz.laysValid_ren := {
  mixed := by kernel_rfl
  f196 := Tryz.func145.trans (congrArg some (by kernel_rfl))
  f259 := Tryz.func157.trans (congrArg some (by kernel_rfl))
  t0 := Tryz.underlying0
  a0 := Tryz.isAgg0
  z0 := Tryz.sizeOf0
  v0 := Tryz.zeroValue0
  t3 := Tryz.underlying3
  a3 := Tryz.isAgg3
  z3 := Tryz.sizeOf3
  v3 := Tryz.zeroValue3
  t4 := Tryz.underlying4
  a4 := Tryz.isAgg4
  z4 := Tryz.sizeOf4
  v4 := Tryz.zeroValue4
  t5 := Tryz.underlying5
  a5 := Tryz.isAgg5
  z5 := Tryz.sizeOf5
  v5 := Tryz.zeroValue5
  t9 := Tryz.underlying9
  a9 := Tryz.isAgg9
  z9 := Tryz.sizeOf9
  v9 := Tryz.zeroValue9
  t12 := Tryz.underlying12
  a12 := Tryz.isAgg12
  z12 := Tryz.sizeOf12
  v12 := Tryz.zeroValue12
  t46 := Tryz.underlying89
  a46 := Tryz.isAgg89
  z46 := Tryz.sizeOf89
  v46 := Tryz.zeroValue89
  t53 := Tryz.underlying33
  a53 := Tryz.isAgg33
  z53 := Tryz.sizeOf33
  v53 := Tryz.zeroValue33
  t119 := Tryz.underlying169
  a119 := Tryz.isAgg169
  z119 := Tryz.sizeOf169
  t138 := Tryz.underlying171
  a138 := Tryz.isAgg171
  z138 := Tryz.sizeOf171
  v138 := Tryz.zeroValue171
  t139 := Tryz.underlying172
  a139 := Tryz.isAgg172
  z139 := Tryz.sizeOf172
  v139 := Tryz.zeroValue172
  g3 := by kernel_rfl
  g4 := by kernel_rfl }
open Go.RowKit Go.Lib in
/-- utf8.ValidString. -/
theorem Tryz.utf8_ValidString (s : ByteArray) (w : World) (hs : s.size ≤ 9223372036854775807) (hT : Lib.Utf8Tabs 6 7 w) :
    Calls Tryz.prog 145 #[.string s] w fun e w' => e = .returned (.bool (Lib.validD s.data.toList)) ∧ Below w.heap.size w w' := Any.utf8_ValidString Tryz.laysValid s w hs hT
end Go.Proofs
