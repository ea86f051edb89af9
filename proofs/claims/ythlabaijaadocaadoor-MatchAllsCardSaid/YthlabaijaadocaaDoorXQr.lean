import Derived.Test.YthlabaijaadocaaDoorXB7
import Derived.Test.YthlabaijaadocaaDoorXA3
import Derived.Deep.RegionHeld3
import Derived.StillTailTactics
/-! The reference's matching: a part of runes; nothing. -/
namespace Go.Proofs.YthlabaijaadocaaDoor
open Go.RowKit Ut Rx Mt Go.Lib

/-- a part's five cells, and where they lie -/
structure NodeAt (w : World) (g i : Nat) (nd : Nd) : Prop where
  ex : ∃ b n cap, w.cell? ⟨g, 3, none⟩ = some (.slice (some ⟨b, 0, none⟩) n cap) ∧ i < n ∧ n ≤ 1000000 ∧ w.cell? ⟨b, i * 5, none⟩ = some (.int .i64 nd.k) ∧ w.cell? ⟨b, i * 5 + 1, none⟩ = some (.int .i64 nd.a) ∧ w.cell? ⟨b, i * 5 + 2, none⟩ = some (.int .i64 nd.b) ∧ w.cell? ⟨b, i * 5 + 3, none⟩ = some nd.s ∧ w.cell? ⟨b, i * 5 + 4, none⟩ = some (.bool nd.t)
theorem NodeAt.below {w w' : World} {g i : Nat} {nd : Nd} (h : NodeAt w g i nd) (b : Below w.heap.size w w') : NodeAt w' g i nd := by
  obtain ⟨q, n, cap, h1, h2, h3, h4, h5, h6, h7, h8⟩ := h.ex
  have k : ∀ {p : Addr} {u : Value}, w.cell? p = some u → w'.cell? p = some u := fun hp => (b.cell (World.block_lt_of_cell? w _ hp)).trans hp
  exact ⟨q, n, cap, k h1, h2, h3, k h4, k h5, k h6, k h7, k h8⟩
theorem nC_get : ∀ (l : List Nd) (i : Nat) (nd : Nd), l[i]? = some nd → (nC l)[i * 5]? = some (.int .i64 nd.k) ∧ (nC l)[i * 5 + 1]? = some (.int .i64 nd.a) ∧ (nC l)[i * 5 + 2]? = some (.int .i64 nd.b) ∧ (nC l)[i * 5 + 3]? = some nd.s ∧ (nC l)[i * 5 + 4]? = some (.bool nd.t)
  | [], i, nd, h => by simp at h
  | m :: t, 0, nd, h => by
    have e : m = nd := by simpa using h
    subst e
    exact ⟨rfl, rfl, rfl, rfl, rfl⟩
  | m :: t, i + 1, nd, h => by
    have := nC_get t i nd (by simpa using h)
    have e : nC (m :: t) = ndC m ++ nC t := rfl
    have hl : (ndC m).length = 5 := rfl
    have g : ∀ j, (nC (m :: t))[(i + 1) * 5 + j]? = (nC t)[i * 5 + j]? := fun j => by
      rw [e, List.getElem?_append_right (by rw [hl]; omega), hl]
      congr 1; omega
    exact ⟨(g 0).trans this.1, (g 1).trans this.2.1, (g 2).trans this.2.2.1, (g 3).trans this.2.2.2.1, (g 4).trans this.2.2.2.2⟩
theorem Ps.node {w : World} {c : Cx} {x : PV} {ns : List Nd} (h : Ps w c x ns) (hl : ns.length ≤ 1000000) {i : Nat} {nd : Nd} (hi : ns[i]? = some nd) : NodeAt w c.g i nd := by
  have hlt := (List.getElem?_eq_some_iff.1 hi).1
  rcases row_kinds h.nd with ⟨_, h0⟩ | ⟨b, cap, e, hc⟩
  · omega
  · obtain ⟨k0, k1, k2, k3, k4⟩ := nC_get ns i nd hi
    have cc := (row_cell h.nd e).2.2
    have c3 := h.cells.c3
    rw [e] at c3
    exact ⟨b, ns.length, cap, c3, hlt, hl, cc _ _ k0, cc _ _ k1, cc _ _ k2, cc _ _ k3, cc _ _ k4⟩

/-- from part i of the reference's row one comes where f says -/
def Leads (w : World) (g i : Nat) (f : Fi) : Prop :=
  ∀ w', Below w.heap.size w w' → ∀ l lv v fv, Rns w' lv l → Bls w' fv v → v.length = l.length + 1 → l.length ≤ 1000000 →
    Calls Tryd.prog 83 #[.pointer (some ⟨g, 3, none⟩), .int .i64 (i : Int), lv, fv] w' (EndsPost true w' fv (f l v))

set_option maxRecDepth 100000 in
set_option maxHeartbeats 4000000 in
theorem leads_set (w0 : World) (g i : Nat) (a b : Int) (sv : Value) (sp : List Span) (but : Bool) (h0 : NodeAt w0 g i ⟨0, a, b, sv, but⟩) (hs0 : Sp w0 sv sp) : Leads w0 g i (oneF sp but) := by
  intro w hw l lv v fv hl hv hvl hll
  obtain ⟨bn, n, cap, c3, hi, hn, d0, d1, d2, d3, d4⟩ := (h0.below hw).ex
  have hs := hs0.below hw
  simp only at d0 d1 d2 d3 d4
  obtain ⟨A, m, cs, rfl⟩ := ownsRow_is hs
  clear h0 hs0 hw
  have hv0 : 0 < v.length := by omega
  have hv1 : v.length ≤ 1000001 := by omega
  have hiI : (i : Int) < n := by omega
  obtain ⟨gv, capv, rfl, hcap⟩ : ∃ g c, fv = .slice (some ⟨g, 0, none⟩) v.length c ∧ v.length ≤ c := by
    rcases row_kinds hv with ⟨_, hn⟩ | h
    · omega
    · exact h
  have HV := Lib.hid hv
  have HL := Lib.hid hl
  have HS := Lib.hid hs
  clear hv hl hs
  have VL := Lib.hid hvl
  clear hvl
  obtain ⟨w1, hw1⟩ : ∃ x, x = w.alloc (.cells #[.int .i64 0, .int .i64 a, .int .i64 b, .slice A m cs, .bool but] 142) := ⟨_, rfl⟩
  have nb : w1.heap[w.heap.size]? = some (.cells #[.int .i64 0, .int .i64 a, .int .i64 b, .slice A m cs, .bool but] 142 (0, 0)) := by rw [hw1]; exact heap_alloc_new w _
  have z1 : w1.heap.size = w.heap.size + 1 := by rw [hw1]; simp
  have B1 : Hid (Below w.heap.size w w1) := by rw [hw1]; exact (Below.refl _ _).alloc (Nat.le_refl _) _
  have hmk := run_mk v.length (by omega) (w.alloc (.cells #[.int .i64 0, .int .i64 a, .int .i64 b, .slice A m cs, .bool but] 142))
  have MR : Hid ((w1.alloc (.cells (bz v.length) 4)).ownsRow 0 4 1 (.slice (some ⟨w1.heap.size, 0, none⟩) v.length v.length) v.length ((oneK sp but l v 0).map Value.bool)) := by
    show World.ownsRow _ _ _ _ _ _ _
    rw [oneK_zero VL.out]; exact mk_row v.length (by omega) w1
  have B0 : Hid (Below w1.heap.size w1 (w1.alloc (.cells (bz v.length) 4))) := (Below.refl _ _).alloc (Nat.le_refl _) _
  have z2 : (w1.alloc (.cells (bz v.length) 4)).heap.size = w1.heap.size + 1 := by simp
  have N5 : Hid (∀ wq, Below w1.heap.size w1 wq → wq.cell? ⟨w.heap.size, 0, none⟩ = some (.int .i64 0) ∧ wq.cell? ⟨w.heap.size, 1, none⟩ = some (.int .i64 a) ∧ wq.cell? ⟨w.heap.size, 2, none⟩ = some (.int .i64 b) ∧ wq.cell? ⟨w.heap.size, 3, none⟩ = some (.slice A m cs) ∧ wq.cell? ⟨w.heap.size, 4, none⟩ = some (.bool but)) := fun wq hq => by
    have h := (hq.block w.heap.size (by omega)).trans nb
    exact ⟨blk_cell h 0, blk_cell h 1, blk_cell h 2, blk_cell h 3, blk_cell h 4⟩
  have e0 := (N5.out _ B0.out).1
  clear nb
  rw [hw1] at e0
  have OUT : Hid (∀ wr, wr.ownsRow 0 4 1 (.slice (some ⟨w1.heap.size, 0, none⟩) v.length v.length) v.length ((oneK sp but l v l.length).map Value.bool) → Below w1.heap.size w1 wr → EndsPost true w (.slice (some ⟨gv, 0, none⟩) v.length capv) (oneF sp but l v) (.returned (.slice (some ⟨w1.heap.size, 0, none⟩) v.length v.length)) wr) := fun wr h1 h2 => by
    rw [oneK_all VL.out] at h1
    refine ⟨_, rfl, ?_, Or.inr fun k hk => ?_, B1.out.trans (h2.mono B1.out.size)⟩
    · unfold Bls; rw [oneF_length VL.out]; exact h1
    · have : w1.heap.size = k := Option.some.inj hk
      omega
  have HW1 := Lib.hid hw1
  have z1' : (w.alloc (.cells #[.int .i64 0, .int .i64 a, .int .i64 b, .slice A m cs, .bool but] 142)).heap.size = w1.heap.size := by rw [hw1]
  clear hw1
  rcases row_kinds HL.out with ⟨rfl, hn⟩ | ⟨gl, cl, rfl, hcl⟩
  · obtain rfl : l = [] := List.eq_nil_of_length_eq_zero hn
    clear hn
    go_enter Tryd.func83, Tryd.ntmps83
    go_wp2_with fail
    go_loopg [106] 0 (fun gk vk wr => vk = .int .i64 0 ∧ Hid (wr.ownsRow 0 4 1 (.slice (some ⟨w1.heap.size, 0, none⟩) v.length v.length) v.length ((oneK sp but [] v 0).map Value.bool)) ∧ Hid (Below w1.heap.size w1 wr))
    case atStart => exact ⟨rfl, by rw [← HW1.out]; exact MR, by rw [← HW1.out]; exact B0⟩
    case round =>
      obtain ⟨rfl, HO, HB⟩ := hrel
      go_wp2_with fail
      go_ret
      have h := OUT.out wr HO.out HB.out
      rw [z1] at h
      exact h
  · have CL := Lib.hid (row_cell HL.out rfl).2.2
    have CV := Lib.hid (row_cell HV.out rfl).2.2
    go_enter Tryd.func83, Tryd.ntmps83
    go_wp2_with fail
    go_loopg [106] l.length (fun gk vk wr => ∃ k : Nat, vk = .int .i64 k ∧ k + gk = l.length ∧ Hid (Below w1.heap.size w1 wr) ∧ Hid (wr.ownsRow 0 4 1 (.slice (some ⟨w1.heap.size, 0, none⟩) v.length v.length) v.length ((oneK sp but l v k).map Value.bool)))
    case atStart => exact ⟨0, rfl, by omega, by rw [← HW1.out]; exact B0, by rw [← HW1.out]; exact MR⟩
    case round =>
      obtain ⟨k, rfl, hk, HB, HO⟩ := hrel
      clear MR B0 hmk e0 c3 d0 d1 d2 d3 d4
      rw [z1] at HO
      have HBW := Lib.hid (B1.out.trans (HB.out.mono B1.out.size))
      by_cases hlt : k < l.length
      · have hkv : k < v.length := by have := VL.out; omega
        have hkv2 : (k : Int) < v.length := by omega
        have hkv1 : (k : Int) + 1 < v.length := by have := VL.out; omega
        have hkl : (k : Int) < l.length := by omega
        have lgl := World.block_lt_of_cell? w _ (CL.out k _ (by rw [List.getElem?_map, List.getElem?_eq_getElem hlt]; rfl))
        have lgv := World.block_lt_of_cell? w _ (CV.out k _ (by rw [List.getElem?_map, List.getElem?_eq_getElem hkv]; rfl))
        have cl : wr.cell? ⟨gl, k, none⟩ = some (.int .i32 (l[k]'hlt)) := (HBW.out.cell (p := ⟨gl, k, none⟩) lgl).trans (CL.out k _ (by rw [List.getElem?_map, List.getElem?_eq_getElem hlt]; rfl))
        have cv : wr.cell? ⟨gv, k, none⟩ = some (.bool (v[k]'hkv)) := (HBW.out.cell (p := ⟨gv, k, none⟩) lgv).trans (CV.out k _ (by rw [List.getElem?_map, List.getElem?_eq_getElem hkv]; rfl))
        obtain ⟨e0, e1, e2, e3, e4⟩ := N5.out wr HB.out
        have OL := Lib.hid (oneK_length (sp := sp) (but := but) VL.out (Nat.le_of_lt hlt))
        have ST := Lib.hid (oneK_succ (sp := sp) (but := but) VL.out hlt)
        have HO1 := Lib.hid (fun (wq : World) (hq : Below wr.heap.size wr wq) (x : Bool) (e : oneK sp but l v (k + 1) = (oneK sp but l v k).set (k + 1) x) => show (wq.setCell ⟨w.heap.size + 1, k + 1, none⟩ (.bool x)).ownsRow 0 4 1 (.slice (some ⟨w.heap.size + 1, 0, none⟩) v.length v.length) v.length ((oneK sp but l v (k + 1)).map Value.bool) from by
          rw [e, List.map_set]
          exact row_set (HO.out.kept (row := none) ⟨hq.os, hq.tape, hq.output, hq.size, fun k hk _ => hq.block k hk⟩ (by simp [Value.ownBlock])) _)
        have CO := Lib.hid (fun (wq : World) (hq : Below wr.heap.size wr wq) => show ∃ y, wq.cell? ⟨w.heap.size + 1, k + 1, none⟩ = some (.bool y) ∧ wq.frozen? ⟨w.heap.size + 1, k + 1, none⟩ = false from by
          have ho := HO.out.kept (w' := wq) (row := none) ⟨hq.os, hq.tape, hq.output, hq.size, fun k hk _ => hq.block k hk⟩ (by simp [Value.ownBlock])
          have hi : k + 1 < (oneK sp but l v k).length := by rw [OL.out]; have := VL.out; omega
          exact ⟨_, (row_cell ho rfl).2.2 (k + 1) _ (by rw [List.getElem?_map, List.getElem?_eq_getElem hi]; rfl), row_free ho _⟩)
        generalize (l[k]'hlt) = c at cl ST
        cases hvk : v[k]'hkv with
        | false =>
          rw [hvk] at cv
          have E : Hid (oneK sp but l v (k + 1) = (oneK sp but l v k).set (k + 1) false) := by show _ = _; rw [ST.out, hvk]; rfl
          obtain ⟨y, co, fo⟩ := CO.out wr (Below.refl _ _)
          have q1 : IntKind.i64.wrap ((k : Int) + 1) = (k : Int) + 1 := IntWalk.i64_in _ (by omega)
          have q2 : ((k : Int) + 1).toNat = k + 1 := by omega
          have q3 : (0 : Int) ≤ (k : Int) + 1 := by omega
          have ME : Hid (gk - 1 < gk) := by show _ < _; omega
          have MK : Hid (k + 1 + (gk - 1) = l.length) := by show _ = _; omega
          have KS : Hid (∀ x, (wr.setCell ⟨w.heap.size + 1, k + 1, none⟩ x).drew.cell? ⟨gv, k, none⟩ = some (.bool false)) := fun x => (((Below.refl (w.heap.size + 1) wr).setCell (Nat.le_refl _) x).drew.cell (p := ⟨gv, k, none⟩) (Nat.lt_succ_of_lt lgv)).trans cv
          clear hvk ST
          go_wp2_with fail
          refine wp_region_held_drew (S := fun w' => w'.cell? ⟨gv, k, none⟩ = some (.bool false)) (by kernel_rfl) cv (fun hHeld => ?_)
          try dsimp only at hHeld
          refine wpAnyH_take (i := 0) (v := ?_) rfl (by kernel_rfl) (by kernel_rfl) (by kernel_rfl) (fun _ _ _ h => h) (Or.inl ⟨by rfl, ?_⟩) hHeld ?_
          rotate_left
          · intro wz hSw
            try dsimp only at hSw
            go_simp
            try with_reducible rfl
          try simp only [Act.put, List.setIfInBounds_toArray]
          refine wpAnyH_take (i := 1) (v := ?_) rfl (by kernel_rfl) (by kernel_rfl) (by kernel_rfl) (fun _ _ _ h => h) (Or.inl ⟨by rfl, ?_⟩) hHeld ?_
          rotate_left
          · intro wz hSw
            try dsimp only at hSw
            go_simp
            try with_reducible rfl
          try simp only [Act.put]
          refine wpAnyH_take (i := 2) (v := ?_) rfl (by kernel_rfl) (by kernel_rfl) (by kernel_rfl) (fun _ _ _ h => h) (Or.inl ⟨by rfl, ?_⟩) hHeld ?_
          rotate_left
          · intro wz hSw
            try dsimp only at hSw
            go_simp
            try with_reducible rfl
          try simp only [Act.put]
          refine wpAnyH_take (i := 3) (v := ?_) rfl (by kernel_rfl) (by kernel_rfl) (by kernel_rfl) (fun _ _ _ h => h) (Or.inl ⟨by rfl, ?_⟩) hHeld ?_
          rotate_left
          · intro wz hSw
            try dsimp only at hSw
            go_simp
            try with_reducible rfl
          try simp only [Act.put]
          refine wpAnyH_take (i := 4) (v := ?_) rfl (by kernel_rfl) (by kernel_rfl) (by kernel_rfl) (fun _ _ _ h => h) (Or.inl ⟨by rfl, ?_⟩) hHeld ?_
          rotate_left
          · intro wz hSw
            try dsimp only at hSw
            go_simp
            try with_reducible rfl
          try simp only [Act.put]
          refine wpAnyH_take (i := 5) (v := ?_) rfl (by kernel_rfl) (by kernel_rfl) (by kernel_rfl) (fun _ _ _ h => h) (Or.inl ⟨by rfl, ?_⟩) hHeld ?_
          rotate_left
          · intro wz hSw
            try dsimp only at hSw
            go_simp
            try with_reducible rfl
          try simp only [Act.put]
          refine wpAnyH_take (i := 6) (v := ?_) rfl (by kernel_rfl) (by kernel_rfl) (by kernel_rfl) (fun _ _ _ h => h) (Or.inl ⟨by rfl, ?_⟩) hHeld ?_
          rotate_left
          · intro wz hSw
            try dsimp only at hSw
            go_simp
            try with_reducible rfl
          try simp only [Act.put]
          refine wpAnyH_take (i := 7) (v := ?_) rfl (by kernel_rfl) (by kernel_rfl) (by kernel_rfl) (fun _ _ _ h => h) (Or.inl ⟨by rfl, ?_⟩) hHeld ?_
          rotate_left
          · intro wz hSw
            try dsimp only at hSw
            go_simp
            try with_reducible rfl
          try simp only [Act.put]
          refine wpAnyH_take (i := 8) (v := undef) rfl (by kernel_rfl) (by kernel_rfl) (by kernel_rfl) (fun _ _ _ h => h) (Or.inr ⟨by kernel_rfl, rfl⟩) hHeld ?_
          try simp only [Act.put]
          refine wpAnyH_take (i := 9) (v := undef) rfl (by kernel_rfl) (by kernel_rfl) (by kernel_rfl) (fun _ _ _ h => h) (Or.inr ⟨by kernel_rfl, rfl⟩) hHeld ?_
          try simp only [Act.put]
          refine wpAnyH_take (i := 10) (v := undef) rfl (by kernel_rfl) (by kernel_rfl) (by kernel_rfl) (fun _ _ _ h => h) (Or.inr ⟨by kernel_rfl, rfl⟩) hHeld ?_
          try simp only [Act.put]
          refine wpAnyH_take (i := 11) (v := undef) rfl (by kernel_rfl) (by kernel_rfl) (by kernel_rfl) (fun _ _ _ h => h) (Or.inr ⟨by kernel_rfl, rfl⟩) hHeld ?_
          try simp only [Act.put]
          refine wpAnyH_take (i := 12) (v := undef) rfl (by kernel_rfl) (by kernel_rfl) (by kernel_rfl) (fun _ _ _ h => h) (Or.inr ⟨by kernel_rfl, rfl⟩) hHeld ?_
          try simp only [Act.put]
          refine wpAnyH_take (i := 13) (v := undef) rfl (by kernel_rfl) (by kernel_rfl) (by kernel_rfl) (fun _ _ _ h => h) (Or.inr ⟨by kernel_rfl, rfl⟩) hHeld ?_
          try simp only [Act.put]
          refine wpAnyH_take (i := 14) (v := ?_) rfl (by kernel_rfl) (by kernel_rfl) (by kernel_rfl) (fun _ _ _ h => h) (Or.inl ⟨by rfl, ?_⟩) hHeld ?_
          rotate_left
          · intro wz hSw
            try dsimp only at hSw
            go_simp
            try with_reducible rfl
          try simp only [Act.put]
          refine wpAnyH_take (i := 15) (v := ?_) rfl (by kernel_rfl) (by kernel_rfl) (by kernel_rfl) (fun _ _ _ h => h) (Or.inl ⟨by rfl, ?_⟩) hHeld ?_
          rotate_left
          · intro wz hSw
            try dsimp only at hSw
            go_simp
            try with_reducible rfl
          try simp only [Act.put]
          refine wpAnyH_ready (rs := [16]) (by kernel_rfl) (by simp) ?_
          refine AllReadyH.cons rfl (fun K hK => ?_) AllReadyH.nil
          go_simp
          refine hK.out _ _ (KS.out _) (fun _ => wpAnyH_done (by kernel_rfl) ?_ _)
          clear q1 q2 q3 hK
          go_wp2_with fail
          go_roundg (gk - 1)
          case measure => exact ME.out
          case rel => exact ⟨k + 1, by go_num, MK.out, ((HB.out).setCell (Nat.le_of_eq z1) _).drew, by show World.ownsRow _ _ _ _ _ _ _; rw [z1]; exact (HO1.out _ (Below.refl _ _) _ E.out).drew⟩
        | true =>
          rw [hvk] at cv
          have E : Hid (oneK sp but l v (k + 1) = (oneK sp but l v k).set (k + 1) (hasS sp c != but)) := by show _ = _; rw [ST.out, hvk]; rfl
          have q1 : IntKind.i64.wrap ((k : Int) + 1) = (k : Int) + 1 := IntWalk.i64_in _ (by omega)
          have q2 : ((k : Int) + 1).toNat = k + 1 := by omega
          have q3 : (0 : Int) ≤ (k : Int) + 1 := by omega
          have ME : Hid (gk - 1 < gk) := by show _ < _; omega
          have MK : Hid (k + 1 + (gk - 1) = l.length) := by show _ = _; omega
          have IN : Hid (∀ wq, Below wr.heap.size wr wq → Calls Tryd.prog 94 #[.agg #[.int .i64 0, .int .i64 a, .int .i64 b, .slice A m cs, .bool but], .int .i32 c] wq (BoolBelow wq (hasS sp c != but))) := fun wq hq => in_any _ _ _ _ _ _ _ wq (HS.out.below (HBW.out.trans (hq.mono HBW.out.size)))
          have KP : Hid (∀ w', Below (w.heap.size + 1) wr w' → w'.cell? ⟨w.heap.size, 0, none⟩ = some (.int .i64 0) ∧ w'.cell? ⟨w.heap.size, 1, none⟩ = some (.int .i64 a) ∧ w'.cell? ⟨w.heap.size, 2, none⟩ = some (.int .i64 b) ∧ w'.cell? ⟨w.heap.size, 3, none⟩ = some (.slice A m cs) ∧ w'.cell? ⟨w.heap.size, 4, none⟩ = some (.bool but) ∧ w'.cell? ⟨gv, k, none⟩ = some (.bool true) ∧ w'.cell? ⟨gl, k, none⟩ = some (.int .i32 c)) := fun w' hq => by
            have f : ∀ {q j : Nat} {u : Value}, q < w.heap.size + 1 → wr.cell? ⟨q, j, none⟩ = some u → w'.cell? ⟨q, j, none⟩ = some u := fun hq2 h => (hq.cell (p := ⟨_, _, none⟩) hq2).trans h
            exact ⟨f (Nat.lt_succ_self _) e0, f (Nat.lt_succ_self _) e1, f (Nat.lt_succ_self _) e2, f (Nat.lt_succ_self _) e3, f (Nat.lt_succ_self _) e4, f (Nat.lt_succ_of_lt lgv) cv, f (Nat.lt_succ_of_lt lgl) cl⟩
          have hz : w.heap.size + 1 ≤ wr.heap.size := by have := HB.out.size; omega
          clear hvk ST
          go_wp2_with fail
          refine wp_region_held_drew (S := fun w' => w'.cell? ⟨w.heap.size, 0, none⟩ = some (.int .i64 0) ∧ w'.cell? ⟨w.heap.size, 1, none⟩ = some (.int .i64 a) ∧ w'.cell? ⟨w.heap.size, 2, none⟩ = some (.int .i64 b) ∧ w'.cell? ⟨w.heap.size, 3, none⟩ = some (.slice A m cs) ∧ w'.cell? ⟨w.heap.size, 4, none⟩ = some (.bool but) ∧ w'.cell? ⟨gv, k, none⟩ = some (.bool true) ∧ w'.cell? ⟨gl, k, none⟩ = some (.int .i32 c)) (by kernel_rfl) (KP.out _ (Below.refl _ _).drew) (fun hHeld => ?_)
          try dsimp only at hHeld
          refine wpAnyH_take (i := 0) (v := ?_) rfl (by kernel_rfl) (by kernel_rfl) (by kernel_rfl) (fun _ _ _ h => h) (Or.inl ⟨by kernel_rfl, ?_⟩) hHeld ?_
          rotate_left
          · intro wz hSw
            try dsimp only at hSw
            go_split_ands
            go_simp
            try with_reducible rfl
          try simp only [Act.put, List.setIfInBounds_toArray]
          refine wpAnyH_take (i := 1) (v := ?_) rfl (by kernel_rfl) (by kernel_rfl) (by kernel_rfl) (fun _ _ _ h => h) (Or.inl ⟨by kernel_rfl, ?_⟩) hHeld ?_
          rotate_left
          · intro wz hSw
            try dsimp only at hSw
            go_split_ands
            go_simp
            try with_reducible rfl
          try simp only [Act.put]
          refine wpAnyH_take (i := 2) (v := ?_) rfl (by kernel_rfl) (by kernel_rfl) (by kernel_rfl) (fun _ _ _ h => h) (Or.inl ⟨by kernel_rfl, ?_⟩) hHeld ?_
          rotate_left
          · intro wz hSw
            try dsimp only at hSw
            go_split_ands
            go_simp
            try with_reducible rfl
          try simp only [Act.put]
          refine wpAnyH_take (i := 3) (v := ?_) rfl (by kernel_rfl) (by kernel_rfl) (by kernel_rfl) (fun _ _ _ h => h) (Or.inl ⟨by kernel_rfl, ?_⟩) hHeld ?_
          rotate_left
          · intro wz hSw
            try dsimp only at hSw
            go_split_ands
            go_simp
            try with_reducible rfl
          try simp only [Act.put]
          refine wpAnyH_take (i := 4) (v := ?_) rfl (by kernel_rfl) (by kernel_rfl) (by kernel_rfl) (fun _ _ _ h => h) (Or.inl ⟨by kernel_rfl, ?_⟩) hHeld ?_
          rotate_left
          · intro wz hSw
            try dsimp only at hSw
            go_split_ands
            go_simp
            try with_reducible rfl
          try simp only [Act.put]
          refine wpAnyH_take (i := 5) (v := ?_) rfl (by kernel_rfl) (by kernel_rfl) (by kernel_rfl) (fun _ _ _ h => h) (Or.inl ⟨by kernel_rfl, ?_⟩) hHeld ?_
          rotate_left
          · intro wz hSw
            try dsimp only at hSw
            go_split_ands
            go_simp
            try with_reducible rfl
          try simp only [Act.put]
          refine wpAnyH_take (i := 6) (v := ?_) rfl (by kernel_rfl) (by kernel_rfl) (by kernel_rfl) (fun _ _ _ h => h) (Or.inl ⟨by kernel_rfl, ?_⟩) hHeld ?_
          rotate_left
          · intro wz hSw
            try dsimp only at hSw
            go_split_ands
            go_simp
            try with_reducible rfl
          try simp only [Act.put]
          refine wpAnyH_take (i := 7) (v := ?_) rfl (by kernel_rfl) (by kernel_rfl) (by kernel_rfl) (fun _ _ _ h => h) (Or.inl ⟨by kernel_rfl, ?_⟩) hHeld ?_
          rotate_left
          · intro wz hSw
            try dsimp only at hSw
            go_split_ands
            go_simp
            try with_reducible rfl
          try simp only [Act.put]
          refine wpAnyH_take (i := 8) (v := ?_) rfl (by kernel_rfl) (by kernel_rfl) (by kernel_rfl) (fun _ _ _ h => h) (Or.inl ⟨by kernel_rfl, ?_⟩) hHeld ?_
          rotate_left
          · intro wz hSw
            try dsimp only at hSw
            go_split_ands
            go_simp
            try with_reducible rfl
          try simp only [Act.put]
          refine wpAnyH_take (i := 9) (v := ?_) rfl (by kernel_rfl) (by kernel_rfl) (by kernel_rfl) (fun _ _ _ h => h) (Or.inl ⟨by kernel_rfl, ?_⟩) hHeld ?_
          rotate_left
          · intro wz hSw
            try dsimp only at hSw
            go_split_ands
            go_simp
            try with_reducible rfl
          try simp only [Act.put]
          refine wpAnyH_take (i := 10) (v := ?_) rfl (by kernel_rfl) (by kernel_rfl) (by kernel_rfl) (fun _ _ _ h => h) (Or.inl ⟨by kernel_rfl, ?_⟩) hHeld ?_
          rotate_left
          · intro wz hSw
            try dsimp only at hSw
            go_split_ands
            go_simp
            try with_reducible rfl
          try simp only [Act.put]
          refine wpAnyH_take (i := 11) (v := ?_) rfl (by kernel_rfl) (by kernel_rfl) (by kernel_rfl) (fun _ _ _ h => h) (Or.inl ⟨by kernel_rfl, ?_⟩) hHeld ?_
          rotate_left
          · intro wz hSw
            try dsimp only at hSw
            go_split_ands
            go_simp
            try with_reducible rfl
          try simp only [Act.put]
          refine wpAnyH_take (i := 12) (v := ?_) rfl (by kernel_rfl) (by kernel_rfl) (by kernel_rfl) (fun _ _ _ h => h) (Or.inl ⟨by kernel_rfl, ?_⟩) hHeld ?_
          rotate_left
          · intro wz hSw
            try dsimp only at hSw
            go_split_ands
            go_simp
            try with_reducible rfl
          try simp only [Act.put]
          refine wpAnyH_ready (rs := [13]) (by kernel_rfl) (by simp) ?_
          refine AllReadyH.cons rfl (fun K hK => ?_) AllReadyH.nil
          go_simp
          go_at_call 94
          refine Calls.mono (IN.out _ (Below.refl _ _).drew) ?_
          rintro e wq ⟨rfl, hq⟩
          obtain ⟨y, co, fo⟩ := CO.out wq ((Below.refl _ _).drew.trans hq)
          have HQ := Lib.hid ((Below.refl _ _).drew.trans hq)
          refine hK.out _ _ (KP.out _ (HQ.out.mono hz)) (fun hHeld => ?_)
          clear hK hq
          try dsimp only at hHeld
          refine wpAnyH_take (i := 14) (v := ?_) rfl (by kernel_rfl) (by kernel_rfl) (by kernel_rfl) (fun _ _ _ h => h) (Or.inl ⟨by kernel_rfl, ?_⟩) hHeld ?_
          rotate_left
          · intro wz hSw
            try dsimp only at hSw
            go_split_ands
            go_simp
            try with_reducible rfl
          try simp only [Act.put, List.setIfInBounds_toArray]
          refine wpAnyH_take (i := 15) (v := ?_) rfl (by kernel_rfl) (by kernel_rfl) (by kernel_rfl) (fun _ _ _ h => h) (Or.inl ⟨by kernel_rfl, ?_⟩) hHeld ?_
          rotate_left
          · intro wz hSw
            try dsimp only at hSw
            go_split_ands
            go_simp
            try with_reducible rfl
          try simp only [Act.put]
          refine wpAnyH_ready (rs := [16]) (by kernel_rfl) (by simp) ?_
          refine AllReadyH.cons rfl (fun K hK => ?_) AllReadyH.nil
          go_simp
          refine hK.out _ _ (KP.out _ ((HQ.out.mono hz).setCell (Nat.le_refl _) _)) (fun _ => wpAnyH_done (by kernel_rfl) ?_ _)
          clear q1 q2 q3 hK
          go_wp2_with fail
          go_roundg (gk - 1)
          case measure => exact ME.out
          case rel => exact ⟨k + 1, by go_num, MK.out, (HB.out.trans (HQ.out.mono HB.out.size)).setCell (Nat.le_of_eq z1) _, by show World.ownsRow _ _ _ _ _ _ _; rw [z1]; exact HO1.out _ HQ.out _ E.out⟩
      · obtain rfl : k = l.length := by omega
        go_wp2_with fail
        go_ret
        have h := OUT.out wr (by rw [z1]; exact HO.out) HB.out
        rw [z1] at h
        exact h
end Go.Proofs.YthlabaijaadocaaDoor
