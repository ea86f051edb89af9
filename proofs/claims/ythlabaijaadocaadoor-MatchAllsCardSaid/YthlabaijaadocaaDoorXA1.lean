import Derived.Lib.RuneCount
import Derived.Lib.ValidLaws
import Derived.Test.YthlabaijaadocaaDoorRows
import Derived.WalkSpells
import Derived.WalkLawsBesides
import Derived.Outline
import Derived.Deep.QuietTactic
import Derived.BigQuiet
import Derived.Below
import Derived.Lib.Hide
import Derived.Laws.RangeString
import Derived.Laws.RangeAny
import Derived.LoopTactic
import Derived.Lib.Small
import Derived.Shelf.Unicode.DecodeSlow
/-! Runes of a text, plainly; names. No program in sight. -/
namespace Go.Proofs.YthlabaijaadocaaDoor
namespace Ut
open Go.Lib

/-- a letter of a name, a digit -/
def digB (c : Int) : Bool := decide (c ≥ 48) && decide (c ≤ 57)
def firB (c : Int) : Bool := (decide (c ≥ 97) && decide (c ≤ 122)) || (decide (c ≥ 65) && decide (c ≤ 90)) || decide (c = 95)
def letB (c : Int) : Bool := firB c || digB c
/-- is a text a name? -/
def namedF (l : List UInt8) : Bool := decide (1 ≤ l.length) && decide (l.length ≤ 64) && l.all (fun b => letB b.toNat) && firB (l.getD 0 0).toNat

theorem letB_high {c : Int} (h : 128 ≤ c) : letB c = false := by
  unfold letB firB digB
  rw [decide_eq_false (show ¬ c ≤ 122 by omega), decide_eq_false (show ¬ c ≤ 90 by omega), decide_eq_false (show ¬ c = 95 by omega), decide_eq_false (show ¬ c ≤ 57 by omega)]
  simp
theorem firB_letB {c : Int} (h : firB c = true) : letB c = true := by unfold letB; rw [h]; rfl

theorem tl_get (s : ByteArray) (j : Nat) (hj : j < s.size) (h : j < s.data.toList.length) : s.data.toList[j]'h = s[j]'hj := Array.getElem_toList _
theorem tl_len (s : ByteArray) : s.data.toList.length = s.size := by simp
theorem tl_getD (s : ByteArray) (hj : 0 < s.size) : s.data.toList.getD 0 0 = s[0]'hj := by
  rw [List.getD_eq_getElem?_getD, List.getElem?_eq_getElem (by rw [tl_len]; exact hj), Option.getD_some, tl_get s 0 hj]
theorem namedF_no_letter {s : ByteArray} {pos : Nat} (hp : pos < s.size) (h : letB (s[pos]'hp).toNat = false) : namedF s.data.toList = false := by
  unfold namedF
  have : (s.data.toList.all fun b => letB b.toNat) = false := by
    rw [List.all_eq_false]
    exact ⟨s.data.toList[pos]'(by rw [tl_len]; exact hp), List.getElem_mem _, by rw [tl_get s pos hp, h]; simp⟩
  rw [this]; simp
theorem namedF_no_first {s : ByteArray} (hp : 0 < s.size) (h : firB (s[0]'hp).toNat = false) : namedF s.data.toList = false := by
  unfold namedF
  rw [tl_getD s hp, h]; simp
theorem namedF_yes {s : ByteArray} (h1 : 1 ≤ s.size) (h2 : s.size ≤ 64) (hl : ∀ j (hj : j < s.size), letB (s[j]'hj).toNat = true) (hf : firB (s[0]'h1).toNat = true) : namedF s.data.toList = true := by
  unfold namedF
  have : (s.data.toList.all fun b => letB b.toNat) = true := by
    rw [List.all_eq_true]
    intro b hb
    obtain ⟨j, hj, rfl⟩ := List.getElem_of_mem hb
    rw [tl_get s j (by rw [← tl_len]; exact hj)]
    exact hl j _
  rw [this, tl_getD s h1, hf, tl_len, decide_eq_true h1, decide_eq_true h2]; rfl
/-- the rune that stands at a place, and its first byte -/
theorem dec_letB {s : ByteArray} {pos : Nat} (hp : pos < s.size) : letB ((Utf8.decode s pos).1 : Int) = letB ((s[pos]'hp).toNat : Int) ∧ firB ((Utf8.decode s pos).1 : Int) = firB ((s[pos]'hp).toNat : Int) ∧ (letB ((s[pos]'hp).toNat : Int) = true → (Utf8.decode s pos).2 = 1) := by
  by_cases ha : (s[pos]'hp).toNat < 128
  · rw [decode_ascii s pos hp ha]; exact ⟨rfl, rfl, fun _ => rfl⟩
  · have h := decode_high s pos hp (by omega)
    have e1 := letB_high (c := ((Utf8.decode s pos).1 : Int)) (by omega)
    have e2 := letB_high (c := ((s[pos]'hp).toNat : Int)) (by omega)
    have f1 : firB ((Utf8.decode s pos).1 : Int) = false := by cases e : firB ((Utf8.decode s pos).1 : Int) with | false => rfl | true => rw [firB_letB e] at e1; cases e1
    have f2 : firB ((s[pos]'hp).toNat : Int) = false := by cases e : firB ((s[pos]'hp).toNat : Int) with | false => rfl | true => rw [firB_letB e] at e2; cases e2
    rw [e1, e2, f1, f2]
    exact ⟨rfl, rfl, fun h => by cases h⟩
end Ut
end Go.Proofs.YthlabaijaadocaaDoor

/-! Walks: a letter, a name. -/
namespace Go.Proofs.YthlabaijaadocaaDoor
open Go.RowKit Ut

theorem ret_bb {a b c d : Bool} (h : a = c) (k : b = d) : Ending.returned (.tuple #[.bool a, .bool b]) = Ending.returned (.tuple #[.bool c, .bool d]) := by rw [h, k]
def LetPost (c : Int) (w : World) (e : Ending) (w' : World) : Prop := e = .returned (.tuple #[.bool (letB c), .bool (firB c)]) ∧ w = w'
set_option maxRecDepth 100000 in
theorem letter_any (c : Int) (w : World) : Calls Tryd.prog 51 #[.int .i32 c] w (LetPost c w) := by
  go_enter Tryd.func51, Tryd.ntmps51
  go_wp2_with fail
  all_goals
    go_ret2
    refine ⟨ret_bb ?_ ?_, rfl⟩
    all_goals (rw [Bool.eq_iff_iff]; simp [letB, firB, digB]; try omega)

set_option maxRecDepth 100000 in
set_option maxHeartbeats 2000000 in
theorem named_any (s : ByteArray) (w : World) :
    Calls Tryd.prog 31 #[.string s] w fun e w' => e = .returned (.bool (namedF s.data.toList)) ∧ Below w.heap.size w w' := by
  have hlen := tl_len s
  by_cases h1 : 1 ≤ s.size
  · have hne : s.toList.isEmpty = false := by
      rw [ByteArray.toList_eq]
      cases e : s.data.toList with
      | nil => rw [e] at hlen; simp at hlen; omega
      | cons a b => rfl
    by_cases h64 : s.size ≤ 64
    · have hz : (s.size : Int) ≤ 64 := by omega
      have HL := Lib.hid hlen
      clear hlen
      go_enter Tryd.func31, Tryd.ntmps31
      go_wp2_with fail
      go_loopw [3, 4] (fun _ _ w' => ∃ pos, w' = w.iter s pos ∧ pos ≤ s.size ∧ Hid (∀ j (hj : j < s.size), j < pos → letB (s[j]'hj).toNat = true) ∧ Hid (0 < pos → firB (s[0]'h1).toNat = true)) (fun _ _ w' => s.size - w'.iterPos w.heap.size)
      case atStart => exact ⟨0, rfl, Nat.zero_le _, fun j hj h => by omega, fun h => by omega⟩
      case round =>
        obtain ⟨pos, rfl, hps, HA, HF⟩ := hrel
        by_cases hp : pos < s.size
        · obtain ⟨d1, d2, d3⟩ := dec_letB hp
          have hwd := Lib.decode_width_pos s pos hp
          have hnx : ∀ ty, (Instr.next (.pointer (some ⟨w.heap.size, 0, none⟩)) true ty).run Tryd.prog (w.iter s pos) = _ := fun ty => run_next_any w s pos ty hp
          have hle := decode_le s pos
          generalize (Utf8.decode s pos).1 = r at d1 d2 hnx hle
          generalize (Utf8.decode s pos).2 = wd at d3 hwd hnx
          have D3 := Lib.hid d3
          clear d3
          have C : Hid (∀ w, Calls Tryd.prog 51 #[.int .i32 r] w (LetPost r w)) := fun w => letter_any r w
          cases hL : letB (r : Int) with
          | false =>
            have NN := Lib.hid (namedF_no_letter hp (by rw [← d1]; exact hL))
            have HL2 := Lib.hid hL
            clear d1 d2 hL
            go_wp2_with fail
            refine (C.out _).mono ?_
            rintro e w1 ⟨rfl, rfl⟩
            rw [HL2.out]
            go_wp2_with fail
            go_ret
            rw [NN.out]
            exact ⟨rfl, ((Below.refl _ _).alloc (Nat.le_refl _) _)⟩
          | true =>
            have hb : letB ((s[pos]'hp).toNat : Int) = true := by rw [← d1]; exact hL
            have H1 := Lib.hid (D3.out hb)
            have HA2 : Hid (∀ j (hj : j < s.size), j < pos + 1 → letB (s[j]'hj).toNat = true) := fun j hj h => by
              by_cases e : j = pos
              · subst e; exact hb
              · exact HA.out j hj (by omega)
            have HL2 := Lib.hid hL
            clear hb hL d1
            cases hF : firB (r : Int) with
            | true =>
              have HF2 := Lib.hid hF
              have HFF : Hid (0 < pos + 1 → firB (s[0]'h1).toNat = true) := fun _ => by
                by_cases e : pos = 0
                · subst e; rw [← d2]; exact hF
                · exact HF.out (by omega)
              clear hF d2
              go_wp2_with fail
              refine (C.out _).mono ?_
              rintro e w1 ⟨rfl, rfl⟩
              rw [HL2.out, HF2.out]
              go_wp2_with fail
              all_goals
                go_roundw
                case rel => exact ⟨pos + 1, by rw [H1.out] <;> (congr 1; omega), by omega, HA2, HFF⟩
                case measure => simp; omega
            | false =>
              by_cases e : pos = 0
              · subst e
                have NN := Lib.hid (namedF_no_first hp (by rw [← d2]; exact hF))
                have HF2 := Lib.hid hF
                clear hF d2
                go_wp2_with fail
                refine (C.out _).mono ?_
                rintro e w1 ⟨rfl, rfl⟩
                rw [HL2.out, HF2.out]
                go_wp2_with fail
                go_ret
                rw [NN.out]
                exact ⟨rfl, ((Below.refl _ _).alloc (Nat.le_refl _) _)⟩
              · have HFF : Hid (0 < pos + 1 → firB (s[0]'h1).toNat = true) := fun _ => HF.out (by omega)
                have ez : ((pos : Int) == 0) = false := by simp; omega
                have HF2 := Lib.hid hF
                clear hF d2
                go_wp2_with fail
                refine (C.out _).mono ?_
                rintro e w1 ⟨rfl, rfl⟩
                rw [HL2.out, HF2.out]
                go_wp2_with fail
                go_roundw
                case rel => exact ⟨pos + 1, by rw [H1.out], by omega, HA2, HFF⟩
                case measure => simp; omega
        · have hnx : ∀ ty, (Instr.next (.pointer (some ⟨w.heap.size, 0, none⟩)) true ty).run Tryd.prog (w.iter s pos) = _ := fun ty => run_next_end w s pos ty hp
          have NN := Lib.hid (namedF_yes h1 h64 (fun j hj => HA.out j hj (by omega)) (HF.out (by omega)))
          go_wp2_with fail
          go_ret
          rw [NN.out]
          exact ⟨rfl, ((Below.refl _ _).alloc (Nat.le_refl _) _)⟩
    · have hz : ¬ (s.size : Int) ≤ 64 := by omega
      have NN : namedF s.data.toList = false := by unfold namedF; rw [hlen, decide_eq_false h64]; simp
      rw [NN]
      clear hlen
      go_enter Tryd.func31, Tryd.ntmps31
      go_wp2_with fail
      go_ret
      exact ⟨rfl, Below.refl _ _⟩
  · have NN : namedF s.data.toList = false := by unfold namedF; rw [hlen, decide_eq_false h1]; simp
    have hne : s.toList.isEmpty = true := by
      rw [ByteArray.toList_eq]
      cases e : s.data.toList with
      | nil => rfl
      | cons a b => rw [e] at hlen; simp at hlen; omega
    rw [NN]
    clear hlen
    go_enter Tryd.func31, Tryd.ntmps31
    go_wp2_with fail
    go_ret
    exact ⟨rfl, Below.refl _ _⟩
end Go.Proofs.YthlabaijaadocaaDoor

/-! The runes of a text, plainly. No program in sight. -/
namespace Go.Proofs.YthlabaijaadocaaDoor
namespace Ut
open Go.Lib

def rnGo : Nat → List UInt8 → List Int
  | 0, _ => []
  | k + 1, l => if l = [] then [] else ((decodeL l).1 : Int) :: rnGo k (l.drop (decodeL l).2)
/-- the runes that bytes spell -/
def rn (l : List UInt8) : List Int := rnGo l.length l

theorem rnGo_nil : ∀ k, rnGo k [] = []
  | 0 => rfl
  | _ + 1 => by simp [rnGo]
theorem rnGo_fuel : ∀ (n m : Nat) (l : List UInt8), l.length ≤ n → l.length ≤ m → rnGo n l = rnGo m l
  | 0, m, l, hn, _ => by
    have : l = [] := List.eq_nil_of_length_eq_zero (by omega)
    subst this; rw [rnGo_nil, rnGo_nil]
  | n + 1, 0, l, _, hm => by
    have : l = [] := List.eq_nil_of_length_eq_zero (by omega)
    subst this; rw [rnGo_nil, rnGo_nil]
  | n + 1, m + 1, l, hn, hm => by
    unfold rnGo
    by_cases hne : l = []
    · simp [hne]
    · have hw := decodeL_width l
      have hl : 0 < l.length := List.length_pos_iff.2 hne
      rw [if_neg hne, if_neg hne, rnGo_fuel n m (l.drop (decodeL l).2) (by rw [List.length_drop]; omega) (by rw [List.length_drop]; omega)]
theorem rn_nil : rn [] = [] := rfl
theorem rn_step (l : List UInt8) (hne : l ≠ []) : rn l = ((decodeL l).1 : Int) :: rn (l.drop (decodeL l).2) := by
  have hl : 0 < l.length := List.length_pos_iff.2 hne
  have hw := decodeL_width l
  obtain ⟨n, hn⟩ : ∃ n, l.length = n + 1 := ⟨l.length - 1, by omega⟩
  unfold rn
  rw [hn]
  show (if l = [] then [] else _) = _
  rw [if_neg hne, rnGo_fuel n (l.drop (decodeL l).2).length _ (by rw [List.length_drop]; omega) (Nat.le_refl _)]
theorem rn_eq_nil {l : List UInt8} (h : rn l = []) : l = [] := by
  by_cases hne : l = []
  · exact hne
  · rw [rn_step l hne] at h; cases h

/-- what is decoded, and is no fault, is as long as RuneLen says -/
theorem decode_len {l : List UInt8} (_hne : l ≠ []) (hv : ¬ ((decodeL l).1 = 65533 ∧ (decodeL l).2 = 1)) : runeLen ((decodeL l).1 : Int) = ((decodeL l).2 : Int) := by
  rw [decodeL_N] at *
  generalize l.length = n at *
  have b0 := (l.getD 0 0).toNat_lt
  have b1 := (l.getD 1 0).toNat_lt
  have b2 := (l.getD 2 0).toNat_lt
  have b3 := (l.getD 3 0).toNat_lt
  generalize (l.getD 0 0).toNat = x0 at *
  generalize (l.getD 1 0).toNat = x1 at *
  generalize (l.getD 2 0).toNat = x2 at *
  generalize (l.getD 3 0).toNat = x3 at *
  unfold decodeN at *
  unfold runeLen
  split at hv
  · rename_i h; simp only [h, if_true]; split <;> (repeat' split) <;> simp at * <;> omega
  · rename_i h
    simp only [h, if_false]
    split at hv
    · rename_i h2
      simp only [h2, and_self, if_true]
      split at hv
      · rename_i h3; simp only [h3, if_true]; (repeat' split) <;> simp at * <;> omega
      · exact absurd ⟨rfl, rfl⟩ hv
    · rename_i h2
      simp only [h2, if_false]
      split at hv
      · rename_i h3
        simp only [h3, and_self, if_true]
        split at hv
        · rename_i h4; simp only [h4, and_self, if_true]; (repeat' split) <;> simp at * <;> omega
        · exact absurd ⟨rfl, rfl⟩ hv
      · rename_i h3
        simp only [h3, if_false]
        split at hv
        · rename_i h4
          simp only [h4, and_self, if_true]
          split at hv
          · rename_i h5; simp only [h5, and_self, if_true]; (repeat' split) <;> simp at * <;> omega
          · exact absurd ⟨rfl, rfl⟩ hv
        · exact absurd ⟨rfl, rfl⟩ hv

/-- at a place of a text whose rest is valid the runes l are left -/
structure Pos (s : ByteArray) (p : Nat) (l : List Int) : Prop where
  le : p ≤ s.size
  valid : validD (s.data.toList.drop p) = true
  runes : rn (s.data.toList.drop p) = l

theorem Pos.start {s : ByteArray} (h : validD s.data.toList = true) : Pos s 0 (rn s.data.toList) := ⟨Nat.zero_le _, by simpa using h, by simp⟩
theorem Pos.nil {s : ByteArray} {p : Nat} (h : Pos s p []) : p = s.size := by
  have := rn_eq_nil h.runes
  have h2 := congrArg List.length this
  rw [List.length_drop, tl_len] at h2
  have := h.le
  simp at h2; omega
theorem Pos.cons {s : ByteArray} {p : Nat} {c : Int} {l : List Int} (h : Pos s p (c :: l)) : p < s.size ∧ ∃ n : Nat, (decodeGo (s.extract p s.size)).1 = c.toNat ∧ (decodeGo (s.extract p s.size)).2 = n ∧ 0 ≤ c ∧ c ≤ 1114111 ∧ ¬ (c = 65533 ∧ n = 1) ∧ 1 ≤ n ∧ runeLen c = n ∧ Pos s (p + n) l := by
  have hne : s.data.toList.drop p ≠ [] := fun e => by have := h.runes; rw [e, rn_nil] at this; cases this
  have hlt : p < s.size := by
    have := List.length_pos_iff.2 hne
    rw [List.length_drop, tl_len] at this; omega
  have hr := h.runes
  rw [rn_step _ hne] at hr
  obtain ⟨hc, hl⟩ := List.cons.inj hr
  have hv := h.valid
  rw [validD_step _ hne] at hv
  have hv1 : ¬ ((decodeL (s.data.toList.drop p)).1 = 65533 ∧ (decodeL (s.data.toList.drop p)).2 = 1) := fun e => by rw [if_pos e] at hv; cases hv
  rw [if_neg hv1] at hv
  have hlen := decode_len hne hv1
  have hrune := decodeL_rune (s.data.toList.drop p)
  have hw := decodeL_width (s.data.toList.drop p)
  have hle := decodeL_le _ hne
  rw [List.length_drop, tl_len] at hle
  have hd : decodeGo (s.extract p s.size) = decodeL (s.data.toList.drop p) := by
    unfold decodeGo
    have e : (s.extract p s.size).data.toList = s.data.toList.drop p := Lib.extract_to_end s p
    rw [if_neg (by
      intro e2
      have := congrArg List.length e
      rw [tl_len, e2, List.length_drop, tl_len] at this; omega), ← decodeL_drop (s.extract p s.size) 0, List.drop_zero, e]
  refine ⟨hlt, (decodeL (s.data.toList.drop p)).2, by rw [hd, ← hc]; simp, by rw [hd], by omega, by omega, fun e => hv1 ⟨by omega, e.2⟩, hw, by rw [← hc]; exact hlen, ⟨by omega, ?_, ?_⟩⟩
  · rw [List.drop_drop] at hv; exact hv
  · rw [List.drop_drop] at hl; exact hl
end Ut
end Go.Proofs.YthlabaijaadocaaDoor

/-! What patterns match, plainly: from which places of a text one comes to which. No program in sight. -/
namespace Go.Proofs.YthlabaijaadocaaDoor
namespace Rx
/-- a pattern's part: of a text's runes, and of some places, the places to which it leads -/
abbrev Fi := List Int → List Bool → List Bool
abbrev Span := Int × Int

def hasS (set : List Span) (c : Int) : Bool := set.any fun x => decide (c ≥ x.1) && decide (c ≤ x.2)
def oneF (set : List Span) (but : Bool) : Fi := fun l v => false :: List.zipWith (fun c f => f && (hasS set c != but)) l v
def manyF (ps : List Fi) : Fi := fun l v => ps.foldl (fun v p => p l v) v
def orF (a b : List Bool) : List Bool := List.zipWith (fun x y => x || y) a b
def alikeF (ps : List Fi) : Fi := fun l v => ps.foldl (fun out p => orF out (p l v)) (List.replicate v.length false)
/-- `for join(out, x.ends(l, out))` -/
def clos (p : List Bool → List Bool) : Nat → List Bool → List Bool
  | 0, out => out
  | k + 1, out => if orF out (p out) = out then out else clos p k (orF out (p out))
def oftenF (x : Fi) (sign : Int) : Fi := fun l v =>
  let once := x l v
  let out := if sign = 43 then once else orF once v
  if sign = 63 then out else clos (x l) (v.length + 1) out

/-- the other text's: only what is new goes on -/
def fresh (next out : List Bool) : List Bool := List.zipWith (fun a b => a && !b) next out
def cloR (p : List Bool → List Bool) : Nat → List Bool → List Bool → List Bool
  | 0, _, out => out
  | k + 1, now, out => let f := fresh (p now) out; if f.any id then cloR p k f (orF out f) else orF out f

/-! ### sets of places -/
def sub (a b : List Bool) : Prop := ∀ i, a.getD i false = true → b.getD i false = true
theorem sub_refl (a : List Bool) : sub a a := fun _ h => h
theorem sub_trans {a b c : List Bool} (h : sub a b) (k : sub b c) : sub a c := fun i hi => k i (h i hi)
theorem sub_antisymm {a b : List Bool} (hl : a.length = b.length) (h : sub a b) (k : sub b a) : a = b := by
  apply List.ext_getElem hl
  intro i h1 h2
  have e1 : a.getD i false = a[i] := by simp [List.getD_eq_getElem?_getD, h1]
  have e2 : b.getD i false = b[i] := by simp [List.getD_eq_getElem?_getD, h2]
  have := h i; have := k i
  rw [e1, e2] at *
  cases ha : a[i] <;> cases hb : b[i] <;> simp_all

theorem orF_length {a b : List Bool} (h : a.length = b.length) : (orF a b).length = a.length := by simp [orF, h]
theorem orF_get {a b : List Bool} (h : a.length = b.length) (i : Nat) : (orF a b).getD i false = (a.getD i false || b.getD i false) := by
  unfold orF
  simp only [List.getD_eq_getElem?_getD, List.getElem?_zipWith]
  by_cases hi : i < a.length
  · simp [hi, show i < b.length by omega]
  · simp [List.getElem?_eq_none (show a.length ≤ i by omega), List.getElem?_eq_none (show b.length ≤ i by omega)]
theorem sub_or_left {a b : List Bool} (h : a.length = b.length) : sub a (orF a b) := fun i hi => by rw [orF_get h, hi]; rfl
theorem sub_or_right {a b : List Bool} (h : a.length = b.length) : sub b (orF a b) := fun i hi => by rw [orF_get h, hi]; simp
theorem or_sub {a b c : List Bool} (h : a.length = b.length) (h1 : sub a c) (h2 : sub b c) : sub (orF a b) c := fun i hi => by
  rw [orF_get h] at hi
  rcases Bool.or_eq_true _ _ ▸ hi with e | e
  · exact h1 i e
  · exact h2 i e
theorem or_same {a b : List Bool} (h : a.length = b.length) (k : sub b a) : orF a b = a := sub_antisymm (orF_length h) (or_sub h (sub_refl _) k) (sub_or_left h)
theorem sub_of_or_same {a b : List Bool} (h : a.length = b.length) (k : orF a b = a) : sub b a := k ▸ sub_or_right h

theorem fresh_length {a b : List Bool} (h : a.length = b.length) : (fresh a b).length = b.length := by simp [fresh, h]
theorem fresh_get {a b : List Bool} (h : a.length = b.length) (i : Nat) : (fresh a b).getD i false = (a.getD i false && !b.getD i false) := by
  unfold fresh
  simp only [List.getD_eq_getElem?_getD, List.getElem?_zipWith]
  by_cases hi : i < a.length
  · simp [hi, show i < b.length by omega]
  · simp [List.getElem?_eq_none (show a.length ≤ i by omega), List.getElem?_eq_none (show b.length ≤ i by omega)]
theorem any_get {a : List Bool} : a.any id = false ↔ ∀ i, a.getD i false = false := by
  constructor
  · intro h i
    rw [List.any_eq_false] at h
    by_cases hi : i < a.length
    · have := h a[i] (List.getElem_mem hi)
      simp [List.getD_eq_getElem?_getD, hi]; simpa using this
    · simp [List.getD_eq_getElem?_getD, List.getElem?_eq_none (show a.length ≤ i by omega)]
  · intro h
    rw [List.any_eq_false]
    intro x hx
    obtain ⟨i, hi, rfl⟩ := List.getElem_of_mem hx
    have := h i
    simp [List.getD_eq_getElem?_getD, hi] at this
    simpa using this

/-- how many places a set has -/
def cnt (a : List Bool) : Nat := (a.filter id).length
theorem cnt_le (a : List Bool) : cnt a ≤ a.length := List.length_filter_le _ _
theorem cnt_sub : ∀ {a b : List Bool}, a.length = b.length → sub a b → cnt a ≤ cnt b
  | [], [], _, _ => Nat.le_refl _
  | x :: a, y :: b, h, k => by
    have k' : sub a b := fun i hi => by have := k (i + 1); simpa using this (by simpa using hi)
    have e := cnt_sub (by simpa using h) k'
    have k0 := k 0
    unfold cnt at *
    cases x <;> cases y <;> simp_all <;> omega
theorem cnt_lt : ∀ {a b : List Bool}, a.length = b.length → sub a b → a ≠ b → cnt a < cnt b
  | [], [], _, _, h => absurd rfl h
  | x :: a, y :: b, h, k, ne => by
    have k' : sub a b := fun i hi => by have := k (i + 1); simpa using this (by simpa using hi)
    have e := cnt_sub (by simpa using h) k'
    have k0 := k 0
    by_cases hab : a = b
    · subst hab
      unfold cnt
      cases x <;> cases y <;> simp_all
    · have e2 := cnt_lt (by simpa using h) k' hab
      unfold cnt at *
      cases x <;> cases y <;> simp_all <;> omega

/-- a step from places to places: keeps the length, and goes from each place by itself -/
structure Lin (n : Nat) (p : List Bool → List Bool) : Prop where
  len : ∀ v, v.length = n → (p v).length = n
  mono : ∀ a b, a.length = n → b.length = n → sub a b → sub (p a) (p b)
  dist : ∀ a b, a.length = n → b.length = n → sub (p (orF a b)) (orF (p a) (p b))

/-! ### the first text's loop comes to the least set that holds where it began and is closed -/
theorem clos_spec {n : Nat} {p : List Bool → List Bool} (L : Lin n p) : ∀ (k : Nat) (out : List Bool), out.length = n → n < cnt out + k →
    (clos p k out).length = n ∧ sub out (clos p k out) ∧ sub (p (clos p k out)) (clos p k out) ∧ ∀ S, S.length = n → sub out S → sub (p S) S → sub (clos p k out) S
  | 0, out, h, hk => by have := cnt_le out; omega
  | k + 1, out, h, hk => by
    have hp := L.len out h
    unfold clos
    by_cases e : orF out (p out) = out
    · rw [if_pos e]
      exact ⟨h, sub_refl _, sub_of_or_same (by omega) e, fun S _ hS _ => hS⟩
    · rw [if_neg e]
      have hl : (orF out (p out)).length = n := by rw [orF_length (by omega)]; exact h
      have hc := cnt_lt (a := out) (b := orF out (p out)) (by omega) (sub_or_left (by omega)) (fun e' => e e'.symm)
      obtain ⟨a1, a2, a3, a4⟩ := clos_spec L k (orF out (p out)) hl (by omega)
      refine ⟨a1, sub_trans (sub_or_left (by omega)) a2, a3, fun S hS hout hc => a4 S hS (or_sub (by omega) hout (sub_trans (L.mono _ _ h hS hout) hc)) hc⟩

theorem zero_of_any {f : List Bool} (h : f.any id = false) (S : List Bool) : sub f S := fun i hi => by rw [any_get.1 h i] at hi; cases hi

theorem fresh_sub {a b : List Bool} (h : a.length = b.length) : sub (fresh a b) a := fun i hi => by
  rw [fresh_get h] at hi
  cases e : a.getD i false with
  | true => rfl
  | false => rw [e] at hi; cases hi

/-- all of next is in out or is new -/
theorem next_sub {a b : List Bool} (h : a.length = b.length) : sub a (orF b (fresh a b)) := fun i hi => by
  rw [orF_get (by rw [fresh_length h]), fresh_get h, hi]
  cases b.getD i false <;> rfl

/-- the second text's loop: what it comes to is closed, and within every closed set that holds where it began and what comes next -/
theorem cloR_spec {n : Nat} {p : List Bool → List Bool} (L : Lin n p) : ∀ (k : Nat) (now out : List Bool), now.length = n → out.length = n → n < cnt out + k →
    sub (p out) (orF out (p now)) →
    (cloR p k now out).length = n ∧ sub out (cloR p k now out) ∧ sub (p now) (cloR p k now out) ∧ sub (p (cloR p k now out)) (cloR p k now out) ∧ ∀ S, S.length = n → sub out S → sub (p now) S → sub (p S) S → sub (cloR p k now out) S
  | 0, now, out, h1, h2, hk, _ => by have := cnt_le out; omega
  | k + 1, now, out, h1, h2, hk, hr => by
    have hp := L.len now h1
    have hf : (fresh (p now) out).length = n := by rw [fresh_length (by omega)]; exact h2
    have hpf := L.len _ hf
    have ho : (orF out (fresh (p now) out)).length = n := by rw [orF_length (by omega)]; exact h2
    have hn : sub (p now) (orF out (fresh (p now) out)) := next_sub (by omega)
    have hpo : sub (p out) (orF out (fresh (p now) out)) := sub_trans hr (or_sub (by omega) (sub_or_left (by omega)) hn)
    unfold cloR
    by_cases e : (fresh (p now) out).any id = true
    · rw [if_pos e]
      have hne : out ≠ orF out (fresh (p now) out) := by
        intro e'
        have hz : (fresh (p now) out).any id = false := any_get.2 fun i => by
          cases hi : (fresh (p now) out).getD i false with
          | false => rfl
          | true =>
            have h5 := sub_or_right (a := out) (b := fresh (p now) out) (by omega) i hi
            rw [← e'] at h5
            rw [fresh_get (by omega), h5] at hi
            simp at hi
        rw [hz] at e; cases e
      have hc := cnt_lt (a := out) (b := orF out (fresh (p now) out)) (by omega) (sub_or_left (by omega)) hne
      have hr' : sub (p (orF out (fresh (p now) out))) (orF (orF out (fresh (p now) out)) (p (fresh (p now) out))) :=
        sub_trans (L.dist _ _ h2 hf) (or_sub (by rw [L.len _ h2, hpf]) (sub_trans hpo (sub_or_left (by omega))) (sub_or_right (by omega)))
      obtain ⟨a1, a2, a3, a4, a5⟩ := cloR_spec L k (fresh (p now) out) (orF out (fresh (p now) out)) hf ho (by omega) hr'
      refine ⟨a1, sub_trans (sub_or_left (by omega)) a2, sub_trans hn a2, a4, fun S hS hout hnow hcS => ?_⟩
      have hfS : sub (fresh (p now) out) S := sub_trans (fresh_sub (by omega)) hnow
      exact a5 S hS (or_sub (by omega) hout hfS) (sub_trans (L.mono _ _ hf hS hfS) hcS) hcS
    · have e0 : (fresh (p now) out).any id = false := by simpa using e
      rw [if_neg e]
      have hz := zero_of_any e0
      exact ⟨ho, sub_or_left (by omega), hn, sub_trans (L.mono _ _ ho h2 (or_sub (by omega) (sub_refl _) (hz out))) hpo, fun S hS hout hnow hcS => or_sub (by omega) hout (hz S)⟩

/-! ### each kind of part is such a step -/
theorem oneF_lin (set : List Span) (but : Bool) (l : List Int) : Lin (l.length + 1) (oneF set but l) := by
  have g : ∀ v : List Bool, v.length = l.length + 1 → ∀ i, (oneF set but l v).getD i false = if i = 0 then false else (v.getD (i - 1) false && (decide (i - 1 < l.length) && (hasS set (l.getD (i - 1) 0) != but))) := by
    intro v hv i
    unfold oneF
    cases i with
    | zero => rfl
    | succ i =>
      rw [if_neg (by omega)]
      simp only [List.getD_cons_succ, Nat.add_sub_cancel]
      by_cases hi : i < l.length
      · have hv' : i < v.length := by omega
        simp [List.getD_eq_getElem?_getD, List.getElem?_zipWith, hi, hv']
      · simp [List.getD_eq_getElem?_getD, List.getElem?_zipWith, hi]
  refine ⟨fun v hv => by simp [oneF]; omega, fun a b ha hb h i hi => ?_, fun a b ha hb i hi => ?_⟩
  · rw [g a ha] at hi; rw [g b hb]
    by_cases h0 : i = 0
    · rw [if_pos h0] at hi; cases hi
    · rw [if_neg h0] at *
      simp only [Bool.and_eq_true] at *
      exact ⟨h _ hi.1, hi.2⟩
  · have hab : (orF a b).length = l.length + 1 := by rw [orF_length (by omega)]; exact ha
    rw [g _ hab] at hi
    rw [orF_get (by simp [oneF]; omega), g a ha, g b hb]
    by_cases h0 : i = 0
    · rw [if_pos h0] at hi; cases hi
    · rw [if_neg h0] at *
      rw [orF_get (by omega)] at hi
      rw [if_neg h0]
      simp only [Bool.and_eq_true, Bool.or_eq_true] at *
      rcases hi with ⟨h1 | h1, h2⟩
      · exact Or.inl ⟨h1, h2⟩
      · exact Or.inr ⟨h1, h2⟩

theorem id_lin (n : Nat) : Lin n (fun v => v) := ⟨fun _ h => h, fun _ _ _ _ h => h, fun _ _ _ _ => sub_refl _⟩
theorem comp_lin {n : Nat} {p q : List Bool → List Bool} (hp : Lin n p) (hq : Lin n q) : Lin n (fun v => q (p v)) :=
  ⟨fun v h => hq.len _ (hp.len _ h), fun a b ha hb h => hq.mono _ _ (hp.len _ ha) (hp.len _ hb) (hp.mono _ _ ha hb h),
   fun a b ha hb => sub_trans (hq.mono _ _ (hp.len _ (by rw [orF_length (by omega)]; exact ha)) (by rw [orF_length (by rw [hp.len _ ha, hp.len _ hb])]; exact hp.len _ ha) (hp.dist a b ha hb)) (hq.dist _ _ (hp.len _ ha) (hp.len _ hb))⟩
theorem or_mono {n : Nat} {a b c d : List Bool} (ha : a.length = n) (hb : b.length = n) (hc : c.length = n) (hd : d.length = n) (h : sub a c) (k : sub b d) : sub (orF a b) (orF c d) :=
  or_sub (by omega) (sub_trans h (sub_or_left (by omega))) (sub_trans k (sub_or_right (by omega)))
theorem or_lin {n : Nat} {p q : List Bool → List Bool} (hp : Lin n p) (hq : Lin n q) : Lin n (fun v => orF (p v) (q v)) := by
  have len : ∀ v, v.length = n → (orF (p v) (q v)).length = n := fun v h => by rw [orF_length (by rw [hp.len _ h, hq.len _ h])]; exact hp.len _ h
  refine ⟨len, fun a b ha hb h => or_mono (hp.len _ ha) (hq.len _ ha) (hp.len _ hb) (hq.len _ hb) (hp.mono _ _ ha hb h) (hq.mono _ _ ha hb h), fun a b ha hb => ?_⟩
  have ho : (orF a b).length = n := by rw [orF_length (by omega)]; exact ha
  have lpa := hp.len _ ha; have lpb := hp.len _ hb; have lqa := hq.len _ ha; have lqb := hq.len _ hb
  refine or_sub (by rw [hp.len _ ho, hq.len _ ho]) (sub_trans (hp.dist a b ha hb) ?_) (sub_trans (hq.dist a b ha hb) ?_)
  · exact or_mono lpa lpb (len _ ha) (len _ hb) (sub_or_left (by omega)) (sub_or_left (by omega))
  · exact or_mono lqa lqb (len _ ha) (len _ hb) (sub_or_right (by omega)) (sub_or_right (by omega))
theorem zero_lin (n : Nat) : Lin n (fun v : List Bool => List.replicate v.length false) := by
  have z : ∀ m S, sub (List.replicate m false) S := fun m S i hi => by simp [List.getD_eq_getElem?_getD, List.getElem?_replicate] at hi; split at hi <;> simp at hi
  exact ⟨fun v h => by simpa using h, fun _ _ _ _ _ => z _ _, fun _ _ _ _ => z _ _⟩

theorem manyF_lin (l : List Int) (n : Nat) : ∀ (ps : List Fi), (∀ p ∈ ps, Lin n (p l)) → Lin n (manyF ps l)
  | [], _ => id_lin n
  | p :: ps, h => comp_lin (p := p l) (h p (by simp)) (manyF_lin l n ps fun q hq => h q (by simp [hq]))

theorem alikeF_aux (l : List Int) (n : Nat) : ∀ (ps : List Fi) (q : List Bool → List Bool), Lin n q → (∀ p ∈ ps, Lin n (p l)) → Lin n (fun v => ps.foldl (fun out p => orF out (p l v)) (q v))
  | [], q, hq, _ => hq
  | p :: ps, q, hq, h => alikeF_aux l n ps (fun v => orF (q v) (p l v)) (or_lin hq (h p (by simp))) fun r hr => h r (by simp [hr])
theorem alikeF_lin (l : List Int) (n : Nat) (ps : List Fi) (h : ∀ p ∈ ps, Lin n (p l)) : Lin n (alikeF ps l) := alikeF_aux l n ps (fun v : List Bool => List.replicate v.length false) (zero_lin n) h

theorem clos_lin {n : Nat} {p q : List Bool → List Bool} (hp : Lin n p) (hq : Lin n q) : Lin n (fun v => clos p (n + 1) (q v)) := by
  have sp := fun (v : List Bool) (hv : v.length = n) => clos_spec hp (n + 1) (q v) (hq.len _ hv) (by omega)
  refine ⟨fun v hv => (sp v hv).1, fun a b ha hb h => ?_, fun a b ha hb => ?_⟩
  · obtain ⟨a1, a2, a3, a4⟩ := sp a ha
    obtain ⟨b1, b2, b3, b4⟩ := sp b hb
    exact a4 _ b1 (sub_trans (hq.mono _ _ ha hb h) b2) b3
  · have ho : (orF a b).length = n := by rw [orF_length (by omega)]; exact ha
    obtain ⟨a1, a2, a3, a4⟩ := sp a ha
    obtain ⟨b1, b2, b3, b4⟩ := sp b hb
    obtain ⟨c1, c2, c3, c4⟩ := sp _ ho
    refine c4 _ (by rw [orF_length (by omega)]; exact a1) (sub_trans (hq.dist a b ha hb) (or_mono (hq.len _ ha) (hq.len _ hb) a1 b1 a2 b2)) ?_
    exact sub_trans (hp.dist _ _ a1 b1) (or_mono (hp.len _ a1) (hp.len _ b1) a1 b1 a3 b3)

theorem oftenF_lin (x : Fi) (sign : Int) (l : List Int) (h : Lin (l.length + 1) (x l)) : Lin (l.length + 1) (oftenF x sign l) := by
  have hb : Lin (l.length + 1) (fun v => if sign = 43 then x l v else orF (x l v) v) := by
    by_cases e : sign = 43
    · simp only [e, if_true]; exact h
    · simp only [e, if_false]; exact or_lin h (id_lin _)
  by_cases e : sign = 63
  · refine ⟨fun v hv => ?_, fun a b ha hb' hs => ?_, fun a b ha hb' => ?_⟩
    all_goals unfold oftenF; simp only [e, if_true]; rw [e] at hb
    · exact hb.len v hv
    · exact hb.mono a b ha hb' hs
    · exact hb.dist a b ha hb'
  · have hc := clos_lin h hb
    have eq : ∀ v, v.length = l.length + 1 → oftenF x sign l v = clos (x l) (l.length + 1 + 1) ((fun v => if sign = 43 then x l v else orF (x l v) v) v) := fun v hv => by
      unfold oftenF; simp only [e, if_false]; rw [hv]
    refine ⟨fun v hv => by rw [eq v hv]; exact hc.len v hv, fun a b ha hb' hs => by rw [eq a ha, eq b hb']; exact hc.mono a b ha hb' hs, fun a b ha hb' => ?_⟩
    rw [eq _ (by rw [orF_length (by omega)]; exact ha), eq a ha, eq b hb']
    exact hc.dist a b ha hb'

/-- the two texts' ways of going round come to the same -/
theorem star_same {n : Nat} {p : List Bool → List Bool} (L : Lin n p) (v : List Bool) (hv : v.length = n) (plus : Bool) :
    clos p (n + 1) (if plus then p v else orF (p v) v) = cloR p (n + 1) v (if plus then List.replicate n false else v) := by
  have hz : sub (List.replicate n false) v := fun i hi => by simp [List.getD_eq_getElem?_getD, List.getElem?_replicate] at hi; split at hi <;> simp at hi
  have hz' : ∀ S, sub (List.replicate n false) S := fun S i hi => by simp [List.getD_eq_getElem?_getD, List.getElem?_replicate] at hi; split at hi <;> simp at hi
  have hpv := L.len v hv
  cases plus with
  | true =>
    simp only [if_true]
    obtain ⟨a1, a2, a3, a4⟩ := clos_spec L (n + 1) (p v) hpv (by omega)
    obtain ⟨b1, b2, b3, b4, b5⟩ := cloR_spec L (n + 1) v (List.replicate n false) hv (by simp) (by omega) (sub_trans (L.mono _ _ (by simp) hv hz) (sub_or_right (by simp [hpv])))
    exact sub_antisymm (by omega) (a4 _ b1 b3 b4) (b5 _ a1 (hz' _) a2 a3)
  | false =>
    simp only [Bool.false_eq_true, if_false]
    obtain ⟨a1, a2, a3, a4⟩ := clos_spec L (n + 1) (orF (p v) v) (by rw [orF_length (by omega)]; exact hpv) (by omega)
    obtain ⟨b1, b2, b3, b4, b5⟩ := cloR_spec L (n + 1) v v hv hv (by omega) (sub_or_right (by omega))
    exact sub_antisymm (by omega) (a4 _ b1 (or_sub (by omega) b3 b2) b4) (b5 _ a1 (sub_trans (sub_or_right (by omega)) a2) (sub_trans (sub_or_left (by omega)) a2) a3)
end Rx
end Go.Proofs.YthlabaijaadocaaDoor

/-! Patterns: their parts, what they match, how they are read, plainly. No program in sight. -/
namespace Go.Proofs.YthlabaijaadocaaDoor
namespace Rx
/-- a pattern -/
inductive Pat where
  | one (set : List Span) (but : Bool)
  | nil
  | cat (a b : Pat)
  | alt (a b : Pat)
  | again (a : Pat) (sign : Int)

def den : Pat → Fi
  | .one s b => oneF s b
  | .nil => fun _ v => v
  | .cat a b => fun l v => den b l (den a l v)
  | .alt a b => fun l v => orF (den a l v) (den b l v)
  | .again a s => oftenF (den a) s

theorem den_lin (l : List Int) : ∀ p : Pat, Lin (l.length + 1) (den p l)
  | .one s b => oneF_lin s b l
  | .nil => id_lin _
  | .cat a b => comp_lin (p := den a l) (q := den b l) (den_lin l a) (den_lin l b)
  | .alt a b => or_lin (p := den a l) (q := den b l) (den_lin l a) (den_lin l b)
  | .again a s => oftenF_lin (den a) s l (den_lin l a)

/-- the rune that stands next; -1: the end -/
def pk : List Int → Int
  | [] => -1
  | c :: _ => c

def specB (c : Int) : Bool := [46, 42, 43, 63, 40, 41, 91, 93, 123, 125, 124, 94, 36, 92].contains c
def shortF (c : Int) : Option (List Span) :=
  if c = 100 then some [(48, 57)] else if c = 119 then some [(48, 57), (65, 90), (97, 122), (95, 95)] else if c = 115 then some [(32, 32), (9, 9), (10, 10)] else none
/-- behind a backslash: the runes; is it one by itself; what is left -/
def escF : List Int → Except Int (List Span × Bool × List Int)
  | [] => .error 8
  | c :: t => match shortF c with
    | some s => .ok (s, false, t)
    | none => if specB c || c == 45 || c == 47 then .ok ([(c, c)], true, t) else .error 8
/-- of a class -/
def memF : List Int → Except Int (List Span × Bool × List Int)
  | [] => .error 8
  | c :: t => if c == 91 || c == 93 || c == 94 || c == 45 then .error 8 else if c == 92 then escF t else .ok ([(c, c)], true, t)
def lowF (s : List Span) : Int := (s.headD (0, 0)).1
def uppF (lo : Int) (l : List Int) : Except Int (Int × List Int) :=
  if pk l == 92 && decide (lo > 125) then .error 8 else
  match memF l with
  | .error e => .error e
  | .ok (s, single, t) => if !single || decide (lowF s < lo) then .error 8 else .ok (lowF s, t)
def itemF (l : List Int) : Except Int (List Span × List Int) :=
  match memF l with
  | .error e => .error e
  | .ok (s, single, t) => if single && pk t == 45 then
      (match uppF (lowF s) t.tail with
      | .error e => .error e
      | .ok (hi, u) => .ok ([(lowF s, hi)], u))
    else .ok (s, t)
def clsF : Nat → Bool → List Span → List Int → Option (Except Int (List Span × List Int))
  | 0, _, _, _ => none
  | n + 1, first, acc, l => if first || pk l != 93 then
      (match itemF l with
      | .error e => some (.error e)
      | .ok (s, t) => clsF n false (acc ++ s) t)
    else some (.ok (acc, l.tail))

/-- which function reads -/
inductive Md where
  | pat
  | alt (acc : Pat)
  | bra (acc : Pat)
  | atom

abbrev Out := Except Int (Pat × List Int)
def thenF (r : Option Out) (k : Pat → List Int → Option Out) : Option Out :=
  match r with
  | none => none
  | some (.error e) => some (.error e)
  | some (.ok (p, l)) => k p l
def signB (c : Int) : Bool := c == 42 || c == 43 || c == 63
def butF (l : List Int) : List Int := if pk l == 94 then l.tail else l
def parF : Nat → Md → Nat → List Int → Option Out
  | 0, _, _, _ => none
  | n + 1, .pat, d, l => thenF (parF n (.bra .nil) d l) fun p l => parF n (.alt p) d l
  | n + 1, .alt acc, d, l => if pk l == 124 then thenF (parF n (.bra .nil) d l.tail) fun p l => parF n (.alt (.alt acc p)) d l else some (.ok (acc, l))
  | n + 1, .bra acc, d, l => if decide (pk l ≥ 0) && pk l != 124 && pk l != 41 then
      thenF (parF n .atom d l) fun p l => if signB (pk l) then parF n (.bra (.cat acc (.again p (pk l)))) d l.tail else parF n (.bra (.cat acc p)) d l
    else some (.ok (acc, l))
  | n + 1, .atom, d, l =>
    if pk l == 40 then (if d ≥ 20 then some (.error 60) else thenF (parF n .pat (d + 1) l.tail) fun p l => if pk l == 41 then some (.ok (p, l.tail)) else some (.error 8))
    else if pk l == 91 then (match clsF n true [] (butF l.tail) with
      | none => none
      | some (.error e) => some (.error e)
      | some (.ok (s, t)) => some (.ok (.one s (pk l.tail == 94), t)))
    else if pk l == 46 then some (.ok (.one [] true, l.tail))
    else if pk l == 92 then (match escF l.tail with
      | .error e => some (.error e)
      | .ok (s, _, t) => some (.ok (.one s false, t)))
    else if specB (pk l) then some (.error 8)
    else some (.ok (.one [(pk l, pk l)] false, l.tail))

/-! ### the reading ends -/
theorem escF_le {l : List Int} {s : List Span} {b : Bool} {t : List Int} (h : escF l = .ok (s, b, t)) : t.length < l.length := by
  cases l with
  | nil => cases h
  | cons c u =>
    unfold escF at h
    simp only at h
    split at h
    · cases h; simp
    · split at h
      · cases h; simp
      · cases h
theorem memF_le {l : List Int} {s : List Span} {b : Bool} {t : List Int} (h : memF l = .ok (s, b, t)) : t.length < l.length := by
  cases l with
  | nil => cases h
  | cons c u =>
    simp only [memF] at h
    split at h
    · cases h
    · split at h
      · have := escF_le h; simp; omega
      · cases h; simp
theorem uppF_le {lo : Int} {l : List Int} {c : Int} {t : List Int} (h : uppF lo l = .ok (c, t)) : t.length < l.length := by
  unfold uppF at h
  split at h
  · cases h
  · split at h
    · cases h
    · rename_i s b t' hm
      split at h
      · cases h
      · cases h; exact memF_le hm
theorem itemF_le {l : List Int} {s : List Span} {t : List Int} (h : itemF l = .ok (s, t)) : t.length < l.length := by
  unfold itemF at h
  split at h
  · cases h
  · rename_i s' b t' hm
    have := memF_le hm
    split at h
    · split at h
      · cases h
      · rename_i hi u hu
        have := uppF_le hu
        cases h
        have : t'.tail.length ≤ t'.length := by simp
        omega
    · cases h; exact this
theorem clsF_ends : ∀ (n : Nat) (first : Bool) (acc : List Span) (l : List Int), l.length < n → ∃ r, (∀ k, clsF (n + k) first acc l = some r) ∧ ∀ s t, r = .ok (s, t) → t.length ≤ l.length
  | 0, _, _, _, h => by omega
  | n + 1, first, acc, l, h => by
    have e : ∀ k, n + 1 + k = n + k + 1 := fun k => by omega
    by_cases c : (first || pk l != 93) = true
    · cases hi : itemF l with
      | error er => exact ⟨.error er, fun k => by rw [e]; unfold clsF; rw [if_pos c, hi], fun s t h => by cases h⟩
      | ok st =>
        obtain ⟨s, t⟩ := st
        have hl := itemF_le hi
        obtain ⟨r, hr, ht⟩ := clsF_ends n false (acc ++ s) t (by omega)
        exact ⟨r, fun k => by rw [e]; unfold clsF; rw [if_pos c, hi]; exact hr k, fun s' t' h' => by have := ht s' t' h'; omega⟩
    · exact ⟨.ok (acc, l.tail), fun k => by rw [e]; unfold clsF; rw [if_neg c], fun s t h => by cases h; simp⟩

theorem butF_le (l : List Int) : (butF l).length ≤ l.length := by unfold butF; split <;> simp
theorem pk_pos {l : List Int} (h : pk l ≥ 0) : l.tail.length < l.length := by
  cases l with
  | nil => simp [pk] at h
  | cons c t => simp

/-- how many rounds are enough -/
def need : Md → Nat → Nat
  | .atom, m => 3 * m + 2
  | .bra _, m => 3 * m + 3
  | .alt _, m => 3 * m + 2
  | .pat, m => 3 * m + 4
def shrinks : Md → List Int → List Int → Prop
  | .atom, l, t => t.length < l.length
  | _, l, t => t.length ≤ l.length
def EndsM (n : Nat) (md : Md) (d : Nat) (l : List Int) : Prop := ∃ r, (∀ k, parF (n + k) md d l = some r) ∧ ∀ p t, r = .ok (p, t) → shrinks md l t

theorem parF_ends : ∀ (n : Nat) (md : Md) (d : Nat) (l : List Int), (md = .atom → pk l ≥ 0) → need md l.length ≤ n → EndsM n md d l
  | 0, md, d, l, _, h => by cases md <;> simp [need] at h
  | n + 1, .pat, d, l, _, h => by
    have e : ∀ k, n + 1 + k = n + k + 1 := fun k => by omega
    simp only [need] at h
    obtain ⟨r, hr, ht⟩ := parF_ends n (.bra .nil) d l (fun h => by cases h) (by simp only [need]; omega)
    cases r with
    | error er => exact ⟨.error er, fun k => by rw [e, parF, hr k]; rfl, fun _ _ h => by cases h⟩
    | ok pt =>
      obtain ⟨p, t⟩ := pt
      have h1 : t.length ≤ l.length := ht p t rfl
      obtain ⟨r2, hr2, ht2⟩ := parF_ends n (.alt p) d t (fun h => by cases h) (by simp only [need]; omega)
      exact ⟨r2, fun k => by rw [e, parF, hr k]; exact hr2 k, fun p' t' h' => by have h2 : t'.length ≤ t.length := ht2 p' t' h'; show t'.length ≤ l.length; omega⟩
  | n + 1, .alt acc, d, l, _, h => by
    have e : ∀ k, n + 1 + k = n + k + 1 := fun k => by omega
    simp only [need] at h
    by_cases c : (pk l == 124) = true
    · have hl : l.tail.length < l.length := pk_pos (by have : pk l = 124 := (by simpa using c); omega)
      obtain ⟨r, hr, ht⟩ := parF_ends n (.bra .nil) d l.tail (fun h => by cases h) (by simp only [need]; omega)
      cases r with
      | error er => exact ⟨.error er, fun k => by rw [e, parF, if_pos c, hr k]; rfl, fun _ _ h => by cases h⟩
      | ok pt =>
        obtain ⟨p, t⟩ := pt
        have h1 : t.length ≤ l.tail.length := ht p t rfl
        obtain ⟨r2, hr2, ht2⟩ := parF_ends n (.alt (.alt acc p)) d t (fun h => by cases h) (by simp only [need]; omega)
        exact ⟨r2, fun k => by rw [e, parF, if_pos c, hr k]; exact hr2 k, fun p' t' h' => by have h2 : t'.length ≤ t.length := ht2 p' t' h'; show t'.length ≤ l.length; omega⟩
    · exact ⟨.ok (acc, l), fun k => by rw [e, parF, if_neg c], fun _ _ h => by cases h; exact Nat.le_refl _⟩
  | n + 1, .bra acc, d, l, _, h => by
    have e : ∀ k, n + 1 + k = n + k + 1 := fun k => by omega
    simp only [need] at h
    by_cases c : (decide (pk l ≥ 0) && pk l != 124 && pk l != 41) = true
    · have hp : pk l ≥ 0 := by simp only [Bool.and_eq_true, decide_eq_true_eq] at c; exact c.1.1
      obtain ⟨r, hr, ht⟩ := parF_ends n .atom d l (fun _ => hp) (by simp only [need]; omega)
      cases r with
      | error er => exact ⟨.error er, fun k => by rw [e, parF, if_pos c, hr k]; rfl, fun _ _ h => by cases h⟩
      | ok pt =>
        obtain ⟨p, t⟩ := pt
        have h1 : t.length < l.length := ht p t rfl
        have h1' : t.tail.length ≤ t.length := by simp
        by_cases cs : signB (pk t) = true
        · obtain ⟨r2, hr2, ht2⟩ := parF_ends n (.bra (.cat acc (.again p (pk t)))) d t.tail (fun h => by cases h) (by simp only [need]; omega)
          exact ⟨r2, fun k => by rw [e, parF, if_pos c, hr k]; simp only [thenF]; rw [if_pos cs]; exact hr2 k, fun p' t' h' => by have h2 : t'.length ≤ t.tail.length := ht2 p' t' h'; show t'.length ≤ l.length; omega⟩
        · obtain ⟨r2, hr2, ht2⟩ := parF_ends n (.bra (.cat acc p)) d t (fun h => by cases h) (by simp only [need]; omega)
          exact ⟨r2, fun k => by rw [e, parF, if_pos c, hr k]; simp only [thenF]; rw [if_neg cs]; exact hr2 k, fun p' t' h' => by have h2 : t'.length ≤ t.length := ht2 p' t' h'; show t'.length ≤ l.length; omega⟩
    · exact ⟨.ok (acc, l), fun k => by rw [e, parF, if_neg c], fun _ _ h => by cases h; exact Nat.le_refl _⟩
  | n + 1, .atom, d, l, hp, h => by
    have e : ∀ k, n + 1 + k = n + k + 1 := fun k => by omega
    simp only [need] at h
    have hl := pk_pos (hp rfl)
    by_cases c0 : (pk l == 40) = true
    · by_cases cd : d ≥ 20
      · exact ⟨.error 60, fun k => by rw [e, parF, if_pos c0, if_pos cd], fun _ _ h => by cases h⟩
      · obtain ⟨r, hr, ht⟩ := parF_ends n .pat (d + 1) l.tail (fun h => by cases h) (by simp only [need]; omega)
        cases r with
        | error er => exact ⟨.error er, fun k => by rw [e, parF, if_pos c0, if_neg cd, hr k]; rfl, fun _ _ h => by cases h⟩
        | ok pt =>
          obtain ⟨p, t⟩ := pt
          have h1 : t.length ≤ l.tail.length := ht p t rfl
          have h1' : t.tail.length ≤ t.length := by simp
          by_cases c1 : (pk t == 41) = true
          · exact ⟨.ok (p, t.tail), fun k => by rw [e, parF, if_pos c0, if_neg cd, hr k]; simp only [thenF]; rw [if_pos c1], fun _ _ h => by cases h; show t.tail.length < l.length; omega⟩
          · exact ⟨.error 8, fun k => by rw [e, parF, if_pos c0, if_neg cd, hr k]; simp only [thenF]; rw [if_neg c1], fun _ _ h => by cases h⟩
    · by_cases c1 : (pk l == 91) = true
      · have hb := butF_le l.tail
        obtain ⟨r, hr, ht⟩ := clsF_ends n true [] (butF l.tail) (by omega)
        cases r with
        | error er => exact ⟨.error er, fun k => by rw [e, parF, if_neg c0, if_pos c1, hr k], fun _ _ h => by cases h⟩
        | ok st =>
          obtain ⟨s, t⟩ := st
          have h1 := ht s t rfl
          exact ⟨.ok (.one s (pk l.tail == 94), t), fun k => by rw [e, parF, if_neg c0, if_pos c1, hr k], fun _ _ h => by cases h; show t.length < l.length; omega⟩
      · by_cases c2 : (pk l == 46) = true
        · exact ⟨_, fun k => by rw [e, parF, if_neg c0, if_neg c1, if_pos c2], fun _ _ h => by cases h; exact hl⟩
        · by_cases c3 : (pk l == 92) = true
          · cases he : escF l.tail with
            | error er => exact ⟨.error er, fun k => by rw [e, parF, if_neg c0, if_neg c1, if_neg c2, if_pos c3, he], fun _ _ h => by cases h⟩
            | ok sbt =>
              obtain ⟨s, b, t⟩ := sbt
              have := escF_le he
              exact ⟨.ok (.one s false, t), fun k => by rw [e, parF, if_neg c0, if_neg c1, if_neg c2, if_pos c3, he], fun _ _ h => by cases h; show t.length < l.length; omega⟩
          · by_cases c4 : specB (pk l) = true
            · exact ⟨.error 8, fun k => by rw [e, parF, if_neg c0, if_neg c1, if_neg c2, if_neg c3, if_pos c4], fun _ _ h => by cases h⟩
            · exact ⟨_, fun k => by rw [e, parF, if_neg c0, if_neg c1, if_neg c2, if_neg c3, if_neg c4], fun _ _ h => by cases h; exact hl⟩

/-- a whole text as a pattern; the number is what is wrong -/
def rexF (l : List Int) : Except Int Pat :=
  match parF (3 * l.length + 4) .pat 0 l with
  | some (.ok (p, [])) => .ok p
  | some (.ok (_, _ :: _)) => .error 8
  | some (.error e) => .error e
  | none => .error 8
theorem parF_more {l : List Int} {n : Nat} (h : 3 * l.length + 4 ≤ n) : ∃ r, parF n .pat 0 l = some r ∧ parF (3 * l.length + 4) .pat 0 l = some r := by
  obtain ⟨r, hr, _⟩ := parF_ends (3 * l.length + 4) .pat 0 l (fun h => by cases h) (Nat.le_refl _)
  obtain ⟨k, rfl⟩ : ∃ k, n = 3 * l.length + 4 + k := ⟨n - (3 * l.length + 4), by omega⟩
  exact ⟨r, hr k, hr 0⟩
/-- which texts are of it -/
def fullB (p : Pat) (s : List Int) : Bool := (den p s (true :: List.replicate s.length false)).getD s.length false
end Rx
end Go.Proofs.YthlabaijaadocaaDoor
