import Derived.Test.YtmbfpichaaanpaaGreatDoorX14
import Derived.Laws.IdiomStrings
/-! Texts between quotes. -/
namespace Go.Proofs.YtmbfpichaaanpaaGreatDoor
open Go.RowKit Ut Rx Mt

def byC (l : List UInt8) : List Value := l.map fun b => .int .u8 (b.toNat : Int)
theorem byC_append (a b : List UInt8) : byC (a ++ b) = byC a ++ byC b := List.map_append
theorem byC_length (a : List UInt8) : (byC a).length = a.length := List.length_map ..
theorem byC_one (l : List UInt8) : ∀ u ∈ byC l, u.oneCell' = true := by
  intro u hu
  obtain ⟨b, _, rfl⟩ := List.mem_map.1 hu
  rfl
/-- bytes in a row of their own -/
def By (w : World) (base : Nat) (v : Value) (l : List UInt8) : Prop := w.ownsRow base 5 1 v l.length (byC l)
theorem By.back {w : World} {base : Nat} {v : Value} {l : List UInt8} (h : By w base v l) : (convert 81 9 v).run Tryz.prog w = .ok (.string ⟨l.toArray⟩) w := by
  rcases row_kinds h with ⟨rfl, hn⟩ | ⟨g, c, rfl, hc⟩
  · obtain rfl := List.eq_nil_of_length_eq_zero hn
    rw [run_convert_bytes_string w 81 9 5 none 0 0 (by kernel_rfl) (by kernel_rfl) (by kernel_rfl)]
    rfl
  · refine run_convert_bytes_back w 81 9 5 ⟨g, 0, none⟩ c l (by kernel_rfl) (by kernel_rfl) (by kernel_rfl) fun j hj => ?_
    have := World.ownsRow.cells h (g := g) rfl j (.int .u8 ((l[j]'hj).toNat : Int)) (by unfold byC; rw [List.getElem?_map, List.getElem?_eq_getElem hj]; rfl)
    exact this
theorem By.below {w w' : World} {base : Nat} {v : Value} {l : List UInt8} (h : By w base v l) (b : Below w.heap.size w w') : By w' base v l :=
  World.ownsRow.kept (row := none) h ⟨b.os, b.tape, b.output, b.size, fun k hk _ => b.block k hk⟩ (by cases v.ownBlock <;> simp)
theorem below_pushed {w wa wb : World} {base : Nat} {v : Value} {e size n : Nat} {xs : List Value} (hb : Below w.heap.size w wa) (h : wa.ownsRow base e size v n xs) (g : wa.grownBy wb v.ownBlock) (hk : w.heap.size ≤ base) : Below w.heap.size w wb := by
  cases hv : v.ownBlock with
  | none =>
    rw [hv] at g
    exact ⟨g.os.trans hb.os, g.tape.trans hb.tape, g.output.trans hb.output, Nat.le_trans hb.size g.size, fun q hq => (g.block q (Nat.lt_of_lt_of_le hq hb.size) (by simp)).trans (hb.block q hq)⟩
  | some k =>
    rw [hv] at g
    exact below_grown hb g (Nat.le_trans hk (h.lt k hv).1)
set_option maxRecDepth 100000 in
theorem infoU8 : (Tryz.prog.info? 5).map (fun i => (i.zero, i.size, i.bytes)) = some (some (.int .u8 0), 1, 1) := by kernel_rfl
theorem news_u8 (w : World) (b : Nat) (cs : Array Value) (xs : List Value) (h : cs.toList = xs) (hb : b = w.heap.size) : ∀ j u, xs[j]? = some u → (w.alloc (.cells cs 5)).cell? ((⟨b, 0, none⟩ : Addr).add j) = some u := by
  intro j u hu
  subst hb
  have e : ((⟨w.heap.size, 0, none⟩ : Addr).add j) = ⟨w.heap.size, j, none⟩ := by simp [Addr.add]; omega
  rw [e]
  rw [World.cell?_alloc_at _ _ _ _ rfl, ← hu, ← h]
  simp

theorem ub_eq (c : UInt8) (n : Nat) (hn : n < 256) : (((c.toNat : Int) == (n : Int)) = decide (c = UInt8.ofNat n)) := by
  by_cases h : c = UInt8.ofNat n
  · subst h
    have : (UInt8.ofNat n).toNat = n := by simp; omega
    rw [this]; simp
  · rw [decide_eq_false h]
    simp only [beq_eq_false_iff_ne, ne_eq]
    intro e
    have : c.toNat = n := by omega
    exact h (by rw [← this]; simp)
theorem uc_eq (c : UInt8) (n : Nat) (hn : n < 256) : (((c.toNat : Int) = (n : Int)) ↔ c = UInt8.ofNat n) := by
  constructor
  · intro h
    have : c.toNat = n := by omega
    rw [← this]; simp
  · rintro rfl
    have : (UInt8.ofNat n).toNat = n := by simp; omega
    rw [this]

theorem By.pushed {w wr w5 : World} {vo v' : Value} {acc nw : List UInt8} {o : Obj} (h : By wr w.heap.size vo acc) (b : Below w.heap.size w wr) (own : w5.ownsRow w.heap.size 5 1 v' (acc.length + nw.length) (byC acc ++ byC nw)) (g : (wr.alloc o).grownBy w5 vo.ownBlock) :
    By w5 w.heap.size v' (acc ++ nw) ∧ Below w.heap.size w w5 := by
  refine ⟨?_, below_pushed (b.alloc b.size o) (h.alloc o) g (Nat.le_refl _)⟩
  unfold By
  rw [byC_append, List.length_append]
  exact own

set_option maxRecDepth 100000 in
set_option maxHeartbeats 4000000 in
theorem quote_any (s : ByteArray) (w : World) (hs : s.size ≤ 1000000) : Calls Tryz.prog 114 #[.string s] w (StrBelow w ⟨(quoteF (by_ s)).toArray⟩) := by
  obtain ⟨i0, hi, hz0, hz1, hz2⟩ := info_parts infoU8
  have I0 : Hid (i0.zero = some (.int .u8 0) ∧ i0.size = 1 ∧ i0.bytes = 1 ∧ Tryz.prog.info? 5 = some i0) := ⟨hz0, hz1, hz2, hi⟩
  have O0 : Hid (By (w.alloc (.cells #[.int .u8 34] 5)) w.heap.size (.slice (some ⟨w.heap.size, 0, none⟩) 1 1) [34]) := World.ownsRow_lit w #[.int .u8 34] 1 (Nat.le_refl _) (by unfold maxLen; omega) rfl
  have B0 : Hid (Below w.heap.size w (w.alloc (.cells #[.int .u8 34] 5))) := (Below.refl _ _).alloc (Nat.le_refl _) _
  clear hz0 hz1 hz2 hi
  go_enter Tryz.func114, Tryz.ntmps114
  go_wp2_with fail
  go_loopg [3, 8] s.size (fun gk vo vk wr => ∃ (k : Nat) (acc : List UInt8), vk = .int .i64 k ∧ k + gk = s.size ∧ acc.length ≤ 1 + 2 * k ∧ Hid (acc ++ quoGo ((by_ s).drop k) = quoteF (by_ s)) ∧ Hid (Below w.heap.size w wr) ∧ Hid (By wr w.heap.size vo acc))
  case atStart => exact ⟨0, [34], rfl, by omega, by simp, rfl, B0, O0⟩
  case round =>
    obtain ⟨k, acc, rfl, hk, hal, HR, HB, HO⟩ := hrel
    clear B0 O0
    by_cases hlt : k < s.size
    · have hlt' : k < (by_ s).length := by rw [tl_len]; exact hlt
      have HD : Hid ((by_ s).drop k = (s[k]'hlt) :: (by_ s).drop (k + 1)) := by show _ = _; rw [List.drop_eq_getElem_cons hlt', tl_get s k hlt hlt']
      clear hlt'
      have OW := Lib.hid (fun (o : Obj) => World.ownsRow.alloc HO.out o)
      have u34 := ub_eq (s[k]'hlt) 34 (by omega)
      have u92 := ub_eq (s[k]'hlt) 92 (by omega)
      have u10 := ub_eq (s[k]'hlt) 10 (by omega)
      by_cases h34 : (s[k]'hlt) = 34
      · rw [decide_eq_true (show (s[k]'hlt) = UInt8.ofNat 34 from h34)] at u34
        have H34 := Lib.hid h34
        clear h34
        have R2 : Hid (acc ++ [92, s[k]'hlt] ++ quoGo ((by_ s).drop (k + 1)) = quoteF (by_ s)) := by
          have := HR.out
          rw [HD.out, quoGo, if_pos (by rw [H34.out]; rfl)] at this
          show _ = _
          rw [← this]; simp
        go_wp2_with (at_builtin; refine wpList_append_own_at _ rfl (.tmp 23) (.tmp 27) 81 rfl w.heap.size 5 i0 (.int .u8 0) 1 1 Tryz.underlying81 I0.out.2.2.2 I0.out.1 I0.out.2.1 I0.out.2.2.1 rfl (by decide) _ acc.length _ rfl (OW.out _) _ 2 2 (byC [92, s[k]'hlt]) rfl rfl ?c1 (byC_one _) (by unfold maxLen; omega) (by omega) ?c3 ?_)
        case c1 => exact news_u8 _ _ #[.int .u8 92, .int .u8 ((s[k]'hlt).toNat : Int)] _ rfl rfl
        case c3 => have := HB.out.size; simp; omega
        intro v' w5 own5 grow5 _ _
        obtain ⟨o5, b5⟩ := HO.out.pushed (nw := [92, s[k]'hlt]) HB.out own5 grow5
        have O5 := Lib.hid o5
        have B5 := Lib.hid b5
        clear o5 b5 own5 grow5
        go_wp2_with fail
        go_roundg (s.size - (k + 1))
        case measure => omega
        case rel => exact ⟨k + 1, _, by simp, by omega, by simp; omega, R2, B5, O5⟩
      · rw [decide_eq_false (show ¬ (s[k]'hlt) = UInt8.ofNat 34 from h34)] at u34
        have H34 := Lib.hid h34
        by_cases h92 : (s[k]'hlt) = 92
        · rw [decide_eq_true (show (s[k]'hlt) = UInt8.ofNat 92 from h92)] at u92
          have H92 := Lib.hid h92
          clear h34 h92
          have R2 : Hid (acc ++ [92, s[k]'hlt] ++ quoGo ((by_ s).drop (k + 1)) = quoteF (by_ s)) := by
            have := HR.out
            rw [HD.out, quoGo, if_pos (by rw [H92.out]; rfl)] at this
            show _ = _
            rw [← this]; simp
          go_wp2_with (at_builtin; refine wpList_append_own_at _ rfl (.tmp 23) (.tmp 27) 81 rfl w.heap.size 5 i0 (.int .u8 0) 1 1 Tryz.underlying81 I0.out.2.2.2 I0.out.1 I0.out.2.1 I0.out.2.2.1 rfl (by decide) _ acc.length _ rfl (OW.out _) _ 2 2 (byC [92, s[k]'hlt]) rfl rfl ?c1 (byC_one _) (by unfold maxLen; omega) (by omega) ?c3 ?_)
          case c1 => exact news_u8 _ _ #[.int .u8 92, .int .u8 ((s[k]'hlt).toNat : Int)] _ rfl rfl
          case c3 => have := HB.out.size; simp; omega
          intro v' w5 own5 grow5 _ _
          obtain ⟨o5, b5⟩ := HO.out.pushed (nw := [92, s[k]'hlt]) HB.out own5 grow5
          have O5 := Lib.hid o5
          have B5 := Lib.hid b5
          clear o5 b5 own5 grow5
          go_wp2_with fail
          go_roundg (s.size - (k + 1))
          case measure => omega
          case rel => exact ⟨k + 1, _, by simp, by omega, by simp; omega, R2, B5, O5⟩
        · rw [decide_eq_false (show ¬ (s[k]'hlt) = UInt8.ofNat 92 from h92)] at u92
          have H92 := Lib.hid h92
          have HN : Hid (¬ (((s[k]'hlt) == 34 || (s[k]'hlt) == 92) = true)) := by show ¬ _; simp [H34.out, H92.out]
          by_cases h10 : (s[k]'hlt) = 10
          · rw [decide_eq_true (show (s[k]'hlt) = UInt8.ofNat 10 from h10)] at u10
            have H10 := Lib.hid h10
            clear h34 h92 h10
            have R2 : Hid (acc ++ [92, 110] ++ quoGo ((by_ s).drop (k + 1)) = quoteF (by_ s)) := by
              have := HR.out
              rw [HD.out, quoGo, if_neg HN.out, if_pos (by rw [H10.out]; rfl)] at this
              show _ = _
              rw [← this]; simp
            go_wp2_with (at_builtin; refine wpList_append_own_at _ rfl (.tmp 31) (.tmp 32) 81 rfl w.heap.size 5 i0 (.int .u8 0) 1 1 Tryz.underlying81 I0.out.2.2.2 I0.out.1 I0.out.2.1 I0.out.2.2.1 rfl (by decide) _ acc.length _ rfl (OW.out _) _ 2 2 (byC [92, 110]) rfl rfl ?c1 (byC_one _) (by unfold maxLen; omega) (by omega) ?c3 ?_)
            case c1 => exact news_u8 _ _ #[.int .u8 92, .int .u8 110] _ rfl rfl
            case c3 => have := HB.out.size; simp; omega
            intro v' w5 own5 grow5 _ _
            obtain ⟨o5, b5⟩ := HO.out.pushed (nw := [92, 110]) HB.out own5 grow5
            have O5 := Lib.hid o5
            have B5 := Lib.hid b5
            clear o5 b5 own5 grow5
            go_wp2_with fail
            go_roundg (s.size - (k + 1))
            case measure => omega
            case rel => exact ⟨k + 1, _, by simp, by omega, by simp; omega, R2, B5, O5⟩
          · rw [decide_eq_false (show ¬ (s[k]'hlt) = UInt8.ofNat 10 from h10)] at u10
            have H10 := Lib.hid h10
            have HM : Hid (¬ (((s[k]'hlt) == 10) = true)) := by show ¬ _; simp [H10.out]
            clear h34 h92 h10
            have R2 : Hid (acc ++ [s[k]'hlt] ++ quoGo ((by_ s).drop (k + 1)) = quoteF (by_ s)) := by
              have := HR.out
              rw [HD.out, quoGo, if_neg HN.out, if_neg HM.out] at this
              show _ = _
              rw [← this]; simp
            go_wp2_with (at_builtin; refine wpList_append_own_at _ rfl (.tmp 14) (.tmp 18) 81 rfl w.heap.size 5 i0 (.int .u8 0) 1 1 Tryz.underlying81 I0.out.2.2.2 I0.out.1 I0.out.2.1 I0.out.2.2.1 rfl (by decide) _ acc.length _ rfl (OW.out _) _ 1 1 (byC [s[k]'hlt]) rfl rfl ?c1 (byC_one _) (by unfold maxLen; omega) (by omega) ?c3 ?_)
            case c1 => exact news_u8 _ _ #[.int .u8 ((s[k]'hlt).toNat : Int)] _ rfl rfl
            case c3 => have := HB.out.size; simp; omega
            intro v' w5 own5 grow5 _ _
            obtain ⟨o5, b5⟩ := HO.out.pushed (nw := [s[k]'hlt]) HB.out own5 grow5
            have O5 := Lib.hid o5
            have B5 := Lib.hid b5
            clear o5 b5 own5 grow5
            go_wp2_with fail
            go_roundg (s.size - (k + 1))
            case measure => omega
            case rel => exact ⟨k + 1, _, by simp, by omega, by simp; omega, R2, B5, O5⟩
    · have hkl : k = s.size := by omega
      subst hkl
      have E : Hid (quoteF (by_ s) = acc ++ [34]) := by
        have := HR.out
        rw [List.drop_of_length_le (by rw [tl_len]; exact Nat.le_refl _)] at this
        exact this.symm
      have OW := Lib.hid (fun (o : Obj) => World.ownsRow.alloc HO.out o)
      go_wp2_with (at_builtin; refine wpList_append_own_at _ rfl (.tmp 35) (.tmp 36) 81 rfl w.heap.size 5 i0 (.int .u8 0) 1 1 Tryz.underlying81 I0.out.2.2.2 I0.out.1 I0.out.2.1 I0.out.2.2.1 rfl (by decide) _ acc.length _ rfl (OW.out _) _ 1 1 (byC [34]) rfl rfl ?c1 (byC_one _) (by unfold maxLen; omega) (by omega) ?c3 ?_)
      case c1 => exact news_u8 _ _ #[.int .u8 34] _ rfl rfl
      case c3 => have := HB.out.size; simp; omega
      intro v' w5 own5 grow5 _ _
      obtain ⟨o5, b5⟩ := HO.out.pushed (nw := [34]) HB.out own5 grow5
      have hcv := o5.back
      go_wp2_with fail
      go_ret
      rw [E.out]
      exact ⟨rfl, b5⟩
end Go.Proofs.YtmbfpichaaanpaaGreatDoor
