import Derived.Test.YthlabaijaadocaaDoorMv
import Derived.Lib.OthersKept
/-! Whatever is read; the runes of a text; whether a text is of a pattern. -/
namespace Go.Proofs.YthlabaijaadocaaDoor
open Go.RowKit Ut Rx

theorem reads : ∀ n, n ≤ 900000 → CPat n ∧ CBra n ∧ CAtom n := by
  intro n
  induction n using Nat.strongRecOn with
  | _ n ih =>
    intro hn
    have hb : CBra n := branch_of n hn fun m hm => (ih m hm (by omega)).2.2
    refine ⟨?_, hb, ?_⟩
    · cases n with
      | zero => intro d l res hres; cases hres
      | succ k => exact pattern_of k (by omega) fun m hm => (ih m (by omega) (by omega)).2.1
    · cases n with
      | zero => intro d l res hres; cases hres
      | succ k => exact atom_of k (by omega) (ih k (by omega) (by omega)).1

theorem rn_take (s : ByteArray) (pos : Nat) (hp : pos < s.size) : rn (s.data.toList.drop pos) = ((Utf8.decode s pos).1 : Int) :: rn (s.data.toList.drop (pos + (Utf8.decode s pos).2)) := by
  have hne : s.data.toList.drop pos ≠ [] := fun e => by
    have := congrArg List.length e
    rw [List.length_drop, tl_len] at this; simp at this; omega
  rw [rn_step _ hne, List.drop_drop, Lib.decodeL_drop]
theorem infoRu : (Tryd.prog.info? 21).map (fun i => (i.zero, i.size, i.bytes)) = some (some (.int .i32 0), 1, 4) := by kernel_rfl
theorem rn_le (l : List UInt8) : (rn l).length ≤ l.length := by
  have : ∀ (n : Nat) (l : List UInt8), l.length ≤ n → (rn l).length ≤ l.length := by
    intro n
    induction n with
    | zero => intro l h; have : l = [] := List.eq_nil_of_length_eq_zero (by omega); subst this; exact Nat.le_refl _
    | succ n ih =>
      intro l h
      by_cases e : l = []
      · subst e; exact Nat.le_refl _
      · rw [rn_step l e]
        have h1 := Lib.decodeL_width l
        have h2 := List.length_pos_iff.2 e
        have h3 := ih (l.drop (Lib.decodeL l).2) (by rw [List.length_drop]; omega)
        rw [List.length_drop] at h3
        simp; omega
  exact this _ l (Nat.le_refl _)

def RunesPost (w : World) (l : List Int) (e : Ending) (w' : World) : Prop := ∃ v, e = .returned v ∧ Rns w' v l ∧ Below w.heap.size w w'
set_option maxRecDepth 100000 in
set_option maxHeartbeats 2000000 in
theorem runes_any (s : ByteArray) (w : World) (hs : s.size ≤ 1000000) : Calls Tryd.prog 80 #[.string s] w (RunesPost w (rn s.data.toList)) := by
  obtain ⟨i0, hi, hz0, hz1, hz2⟩ := info_parts infoRu
  have I0 : Hid (i0.zero = some (.int .i32 0) ∧ i0.size = 1 ∧ i0.bytes = 4 ∧ Tryd.prog.info? 21 = some i0) := ⟨hz0, hz1, hz2, hi⟩
  clear hz0 hz1 hz2 hi
  go_enter Tryd.func80, Tryd.ntmps80
  go_wp2_with fail
  go_loopg [3] s.size (fun gk v wr => ∃ (pos : Nat) (acc : List Int), pos ≤ s.size ∧ s.size - pos ≤ gk ∧ acc.length ≤ pos ∧ Hid (acc ++ rn (s.data.toList.drop pos) = rn s.data.toList) ∧ Hid (wr.heap[w.heap.size]? = some (.stringIter s pos)) ∧ Hid (wr.ownsRow (w.heap.size + 1) 21 1 v acc.length (acc.map (Value.int .i32))) ∧ Hid (Below w.heap.size w wr))
  case atStart =>
    exact ⟨0, [], Nat.zero_le _, by omega, Nat.le_refl _, by show _ = _; simp, World.iter_heap _ _ _, World.ownsRow_nil _ _ _ _, (Below.refl _ _).alloc (Nat.le_refl _) _⟩
  case round =>
    obtain ⟨pos, acc, hps, hgk, hal, HR, HI, HO, HB⟩ := hrel
    by_cases hp : pos < s.size
    · have hnx : ∀ ty, (Instr.next (.pointer (some ⟨w.heap.size, 0, none⟩)) true ty).run Tryd.prog wr = _ := fun ty => Go.Lib.run_next_any_at wr w.heap.size s pos ty HI.out hp
      have hw := Lib.decode_width_pos s pos hp
      have hfit : (Utf8.decode s pos).2 ≤ s.size - pos := by
        have hne : s.data.toList.drop pos ≠ [] := fun e => by
          have := congrArg List.length e
          rw [List.length_drop, tl_len] at this; simp at this; omega
        have := Lib.decodeL_le _ hne
        rw [Lib.decodeL_drop, List.length_drop, tl_len] at this
        exact this
      have RT := Lib.hid (rn_take s pos hp)
      generalize (Utf8.decode s pos).1 = c at hnx RT
      generalize (Utf8.decode s pos).2 = wd at hnx RT hw hfit
      have HI2 := Lib.hid (Go.Lib.iterAt_heap wr w.heap.size s pos (pos + wd) HI.out)
      have HO2 := Lib.hid (ownsRow_iterAt HO.out (Nat.lt_succ_self w.heap.size) s (pos + wd))
      have HB2 := Lib.hid (Go.Lib.below_iterAt HB.out (Nat.le_refl _) s (pos + wd))
      have hz : w.heap.size + 1 ≤ (wr.iterAt w.heap.size s (pos + wd)).heap.size := by rw [Go.Lib.iterAt_size]; exact (Array.getElem?_eq_some_iff.1 HI.out).1
      generalize wr.iterAt w.heap.size s (pos + wd) = wi at *
      have N1 : Hid (∀ j u, [Value.int .i32 (c : Int)][j]? = some u → (wi.alloc (.cells #[.int .i32 (c : Int)] 21)).cell? ((⟨wi.heap.size, 0, none⟩ : Addr).add j) = some u) := fun j u hu => by
        cases j with
        | zero =>
          have : u = .int .i32 (c : Int) := by simpa using hu.symm
          subst this
          exact World.cell?_alloc_at _ _ _ _ rfl
        | succ j => simp at hu
      have N2 : Hid (∀ u ∈ [Value.int .i32 (c : Int)], u.oneCell' = true) := fun u hu => by
        have : u = .int .i32 (c : Int) := (by simpa using hu)
        subst this; rfl
      clear HO HB
      go_wp2_with (at_builtin; refine wpList_append_own _ rfl (.tmp 11) (.tmp 13) 127 rfl (w.heap.size + 1) 21 i0 (.int .i32 0) 1 4 Tryd.underlying127 I0.out.2.2.2 I0.out.1 I0.out.2.1 I0.out.2.2.1 rfl (by decide) _ acc.length _ rfl (HO2.out.alloc _) _ 1 1 [.int .i32 (c : Int)] rfl rfl N1.out N2.out (by unfold maxLen; omega) (by omega) (by simp; omega) ?_)
      intro v' w5 own5 grow5 _
      obtain ⟨A5, n5, c5, rfl⟩ := ownsRow_is own5
      have HB3 : Hid (Below (w.heap.size + 1) wi w5) := by
        have b : Below (w.heap.size + 1) wi (wi.alloc (.cells #[.int .i32 (c : Int)] 21)) := (Below.refl _ _).alloc hz _
        refine ⟨grow5.os.trans b.os, grow5.tape.trans b.tape, grow5.output.trans b.output, Nat.le_trans b.size grow5.size, fun k hk => (grow5.block k (by simp; omega) (fun e => ?_)).trans (b.block k hk)⟩
        have := (HO2.out.lt k e.symm).1; omega
      have OW := Lib.hid own5
      clear own5 grow5 N1 N2 HO2
      go_wp2_with fail
      go_roundg (gk - 1)
      case measure => omega
      case rel =>
        refine ⟨pos + wd, acc ++ [(c : Int)], by omega, by omega, by rw [List.length_append]; simp only [List.length_cons, List.length_nil]; omega, ?_, (HB3.out.block _ (Nat.lt_succ_self _)).trans HI2.out, ?_, HB2.out.trans (HB3.out.mono (Nat.le_succ _))⟩
        · show _ = _
          rw [← HR.out, RT.out]; simp
        · show World.ownsRow _ _ _ _ _ _ _
          rw [List.length_append, List.map_append]; exact OW.out
    · obtain rfl : pos = s.size := by omega
      have hnx : ∀ ty, (Instr.next (.pointer (some ⟨w.heap.size, 0, none⟩)) true ty).run Tryd.prog wr = _ := fun ty => Go.Lib.run_next_end_at wr w.heap.size s s.size ty HI.out hp
      go_wp2_with fail
      go_ret
      have hr := HR.out
      have e : s.data.toList.drop s.size = [] := List.drop_of_length_le (by rw [tl_len]; exact Nat.le_refl _)
      rw [e, rn_nil, List.append_nil] at hr
      subst hr
      refine ⟨_, rfl, ?_, HB.out⟩
      have ho := HO.out
      refine ⟨ho.1, ?_⟩
      rcases ho.2 with h1 | ⟨g, cap, cur, e1, e2, e3⟩
      · exact Or.inl h1
      · exact Or.inr ⟨g, cap, cur, e1, Nat.zero_le _, e3⟩
end Go.Proofs.YthlabaijaadocaaDoor
