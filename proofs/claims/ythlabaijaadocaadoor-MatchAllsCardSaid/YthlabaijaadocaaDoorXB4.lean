import Derived.Test.YthlabaijaadocaaDoorXB3
import Derived.Test.YthlabaijaadocaaDoorXMk
import Derived.RegionTactic
import Derived.BigRegion
/-! The reference's reader of patterns: what it holds. -/
namespace Go.Proofs.YthlabaijaadocaaDoor
open Go.RowKit Ut Rx Mt

/-- a part of the reference's -/
structure Nd where
  k : Int
  a : Int
  b : Int
  s : Value
  t : Bool
def ndC (n : Nd) : List Value := [.int .i64 n.k, .int .i64 n.a, .int .i64 n.b, n.s, .bool n.t]
def nC (l : List Nd) : List Value := l.flatMap ndC
def chC (l : List (Int × Int)) : List Value := l.flatMap fun x => [.int .i32 x.1, .int .i64 x.2]
/-- what the reader has that turns -/
structure PV where
  i : Nat
  L : Value
  top : Int
  z : Int
  pl : Bool
  bad : Int
  e : Int
  d : Nat
/-- what it has that stays -/
structure Cx where
  B : Nat
  g : Nat
  cv : Value
  cs : List (Int × Int)
  en : Int
  sv : ByteArray
def pvC (c : Cx) (x : PV) : Array Value := #[c.cv, .int .i64 x.i, .int .i64 c.en, x.L, .int .i64 x.top, .string c.sv, .int .i64 x.z, .bool x.pl, .int .i64 x.bad, .int .i64 x.e, .int .i64 x.d]
structure Ps (w : World) (c : Cx) (x : PV) (ns : List Nd) : Prop where
  blk : w.heap[c.g]? = some (.cells (pvC c x) 119 (0, 0))
  ch : w.ownsRow c.B 138 2 c.cv c.cs.length (chC c.cs)
  nd : w.ownsRow c.B 142 5 x.L ns.length (nC ns)
  low : c.B ≤ c.g
  few : c.cs.length ≤ 256
  at_ : x.i ≤ c.cs.length + 1
  pos : ∀ p ∈ c.cs, 0 ≤ p.1
/-- what turns: the reader's block, the row of parts, and what is new -/
structure Fr (w w' : World) (g : Nat) (v v' : Value) : Prop where
  os : w'.os = w.os
  tape : w'.tape = w.tape
  output : w'.output = w.output
  size : w.heap.size ≤ w'.heap.size
  block : ∀ q, q < w.heap.size → q ≠ g → some q ≠ v.ownBlock → w'.heap[q]? = w.heap[q]?
  row : v'.ownBlock = v.ownBlock ∨ ∃ q, v'.ownBlock = some q ∧ w.heap.size ≤ q
theorem Fr.refl (w : World) (g : Nat) (v : Value) : Fr w w g v v := ⟨rfl, rfl, rfl, Nat.le_refl _, fun _ _ _ _ => rfl, Or.inl rfl⟩
theorem Fr.trans {w w1 w2 : World} {g : Nat} {v v1 v2 : Value} (h : Fr w w1 g v v1) (k : Fr w1 w2 g v1 v2) : Fr w w2 g v v2 := by
  refine ⟨k.os.trans h.os, k.tape.trans h.tape, k.output.trans h.output, Nat.le_trans h.size k.size, fun q hq h1 h2 => ?_, ?_⟩
  · have h3 : some q ≠ v1.ownBlock := by
      rcases h.row with e | ⟨q', e, hq'⟩
      · rw [e]; exact h2
      · rw [e]; intro e2; cases e2; omega
    exact (k.block q (Nat.lt_of_lt_of_le hq h.size) h1 h3).trans (h.block q hq h1 h2)
  · rcases k.row with e | ⟨q, e, hq⟩
    · rw [e]; exact h.row
    · exact Or.inr ⟨q, e, Nat.le_trans h.size hq⟩
theorem Fr.of_grown {w w' : World} {g : Nat} (v : Value) (h : w.grownBy w' (some g)) : Fr w w' g v v := ⟨h.os, h.tape, h.output, h.size, fun q hq hg _ => h.block q hq (fun e => hg (Option.some.inj e)), Or.inl rfl⟩
theorem Fr.of_below {w w' : World} (g : Nat) (v : Value) (h : Below w.heap.size w w') : Fr w w' g v v := Fr.of_grown v (grown_below h)
theorem Fr.below {w w' : World} {g : Nat} {v v' : Value} {n : Nat} (h : Fr w w' g v v') (hn : n ≤ w.heap.size) (hg : n ≤ g) (hv : ∀ q, v.ownBlock = some q → n ≤ q) : Below n w w' :=
  ⟨h.os, h.tape, h.output, h.size, fun q hq => h.block q (by omega) (by omega) (fun e => by have := hv q e.symm; omega)⟩

/-! ### rows of their own -/
theorem own_keep {w w' : World} {B e sz n : Nat} {v : Value} {xs : List Value} (h : w.ownsRow B e sz v n xs) (hk : ∀ q, v.ownBlock = some q → w'.heap[q]? = w.heap[q]?) : w'.ownsRow B e sz v n xs :=
  ⟨h.1, h.2.imp id fun ⟨g, cap, cur, e1, e2, e3, r⟩ => ⟨g, cap, cur, e1, e2, (hk g (by rw [e1]; rfl)).trans e3, r⟩⟩
theorem own_ty {w : World} {B e sz n q : Nat} {v : Value} {xs : List Value} (h : w.ownsRow B e sz v n xs) (hv : v.ownBlock = some q) : ∃ cur fr, w.heap[q]? = some (.cells cur e fr) := by
  rcases h.2 with ⟨rfl, _⟩ | ⟨g, cap, cur, rfl, _, h3, _⟩
  · cases hv
  · cases hv; exact ⟨_, _, h3⟩
theorem own_ne_of_ty {w : World} {B e sz n q e' : Nat} {v : Value} {xs : List Value} {cs : Array Value} {fr : Nat × Nat} (h : w.ownsRow B e sz v n xs) (hq : w.heap[q]? = some (.cells cs e' fr)) (hne : e ≠ e') : v.ownBlock ≠ some q := fun hv => by
  obtain ⟨cur, fr', h2⟩ := own_ty h hv
  rw [hq] at h2
  cases h2
  exact hne rfl
theorem own_own_ne {w : World} {B B' e e' sz sz' n n' q : Nat} {v v' : Value} {xs xs' : List Value} (h : w.ownsRow B e sz v n xs) (h' : w.ownsRow B' e' sz' v' n' xs') (hne : e ≠ e') (hv : v.ownBlock = some q) : v'.ownBlock ≠ some q := by
  obtain ⟨cur, fr, h2⟩ := own_ty h hv
  exact own_ne_of_ty h' h2 (Ne.symm hne)
theorem own_low {w : World} {B B' e sz n : Nat} {v : Value} {xs : List Value} (h : w.ownsRow B e sz v n xs) (hb : B' ≤ B) : w.ownsRow B' e sz v n xs :=
  ⟨h.1, h.2.imp id fun ⟨g, cap, cur, e1, e2, r⟩ => ⟨g, cap, cur, e1, Nat.le_trans hb e2, r⟩⟩

theorem Ps.lt {w : World} {c : Cx} {x : PV} {ns : List Nd} (h : Ps w c x ns) : c.g < w.heap.size := (Array.getElem?_eq_some_iff.1 h.blk).1
/-- a row of another kind stays -/
theorem Ps.other {w w' : World} {c : Cx} {x x' : PV} {ns : List Nd} {B e sz n : Nat} {v : Value} {xs : List Value} (h : Ps w c x ns) (f : Fr w w' c.g x.L x'.L) (o : w.ownsRow B e sz v n xs) (h1 : e ≠ 119) (h2 : e ≠ 142) : w'.ownsRow B e sz v n xs :=
  own_keep o fun q hq => f.block q (o.lt q hq).2 (fun e => own_ne_of_ty o (e ▸ h.blk) h1 hq) (fun e => own_own_ne o h.nd h2 hq e.symm)
theorem Ps.below {w w' : World} {c : Cx} {x : PV} {ns : List Nd} (h : Ps w c x ns) (b : Below w.heap.size w w') : Ps w' c x ns :=
  ⟨(b.block _ h.lt).trans h.blk, own_keep h.ch fun q hq => b.block q (h.ch.lt q hq).2, own_keep h.nd fun q hq => b.block q (h.nd.lt q hq).2, h.low, h.few, h.at_, h.pos⟩
theorem blk_cell {w : World} {g : Nat} {cs : Array Value} {t : TypeId} (h : w.heap[g]? = some (.cells cs t (0, 0))) (j : Nat) : w.cell? ⟨g, j, none⟩ = cs[j]? := cell_of_row w g j cs t (0, 0) h
theorem blk_free {w : World} {g : Nat} {cs : Array Value} {t : TypeId} (h : w.heap[g]? = some (.cells cs t (0, 0))) (j : Nat) : w.frozen? ⟨g, j, none⟩ = false := by simp [World.frozen?, h]
theorem blk_set {w : World} {g : Nat} {cs : Array Value} {t : TypeId} (h : w.heap[g]? = some (.cells cs t (0, 0))) (j : Nat) (u : Value) : (w.setCell ⟨g, j, none⟩ u).heap[g]? = some (.cells (cs.setIfInBounds j u) t (0, 0)) := by
  simp [World.setCell, Array.getElem?_modify, h]
/-- the cells of the reader -/
structure Pc (w : World) (c : Cx) (x : PV) : Prop where
  c0 : w.cell? ⟨c.g, 0, none⟩ = some c.cv
  c1 : w.cell? ⟨c.g, 1, none⟩ = some (.int .i64 x.i)
  c2 : w.cell? ⟨c.g, 2, none⟩ = some (.int .i64 c.en)
  c3 : w.cell? ⟨c.g, 3, none⟩ = some x.L
  c4 : w.cell? ⟨c.g, 4, none⟩ = some (.int .i64 x.top)
  c6 : w.cell? ⟨c.g, 6, none⟩ = some (.int .i64 x.z)
  c7 : w.cell? ⟨c.g, 7, none⟩ = some (.bool x.pl)
  c8 : w.cell? ⟨c.g, 8, none⟩ = some (.int .i64 x.bad)
  c9 : w.cell? ⟨c.g, 9, none⟩ = some (.int .i64 x.e)
  c10 : w.cell? ⟨c.g, 10, none⟩ = some (.int .i64 x.d)
  f : ∀ j, w.frozen? ⟨c.g, j, none⟩ = false
theorem Ps.cells {w : World} {c : Cx} {x : PV} {ns : List Nd} (h : Ps w c x ns) : Pc w c x :=
  ⟨blk_cell h.blk 0, blk_cell h.blk 1, blk_cell h.blk 2, blk_cell h.blk 3, blk_cell h.blk 4, blk_cell h.blk 6, blk_cell h.blk 7, blk_cell h.blk 8, blk_cell h.blk 9, blk_cell h.blk 10, blk_free h.blk⟩
/-- one of the reader's cells turns -/
theorem Ps.set {w : World} {c : Cx} {x : PV} {ns : List Nd} (h : Ps w c x ns) (j : Nat) (u : Value) (x' : PV) (hx : (pvC c x).setIfInBounds j u = pvC c x') (hL : x'.L = x.L) (hi : x'.i ≤ c.cs.length + 1) :
    Ps (w.setCell ⟨c.g, j, none⟩ u) c x' ns ∧ Fr w (w.setCell ⟨c.g, j, none⟩ u) c.g x.L x'.L := by
  have f := Fr.of_grown x.L (grown_setCell w c.g j u)
  refine ⟨⟨?_, h.other f h.ch (by decide) (by decide), ?_, h.low, h.few, hi, h.pos⟩, by rw [hL]; exact f⟩
  · rw [blk_set h.blk, hx]
  · rw [hL]
    exact own_keep h.nd fun q hq => Below.heap_setCell w ⟨c.g, j, none⟩ u q (fun e => by have e' : q = c.g := e; subst e'; exact own_ne_of_ty h.nd h.blk (by decide) hq)

/-- the runes that are left -/
def lf (c : Cx) (x : PV) : List Int := (c.cs.drop x.i).map (·.1)
def nwF (l : List Int) : Int := match l with | [] => -2 | a :: _ => a
def nowV (c : Cx) (x : PV) : Int := if x.e = 0 then nwF (lf c x) else -2
def IntBel (k : IntKind) (w : World) (n : Int) (e : Ending) (w' : World) : Prop := e = .returned (.int k n) ∧ Below w.heap.size w w'
theorem ch_at {w : World} {c : Cx} {x : PV} {ns : List Nd} (h : Ps w c x ns) (k : Nat) (hk : k < c.cs.length) : ∃ b cap, c.cv = .slice (some ⟨b, 0, none⟩) c.cs.length cap ∧ w.cell? ⟨b, k * 2, none⟩ = some (.int .i32 (c.cs[k]'hk).1) ∧ w.cell? ⟨b, k * 2 + 1, none⟩ = some (.int .i64 (c.cs[k]'hk).2) := by
  rcases row_kinds h.ch with ⟨_, h0⟩ | ⟨g, cap, e, hc⟩
  · omega
  · have get : ∀ (l : List (Int × Int)) (i : Nat) (hi : i < l.length), (chC l)[i * 2]? = some (.int .i32 (l[i]'hi).1) ∧ (chC l)[i * 2 + 1]? = some (.int .i64 (l[i]'hi).2) := by
      intro l
      induction l with
      | nil => intro i hi; simp at hi
      | cons m t ih =>
        intro i hi
        cases i with
        | zero => exact ⟨rfl, rfl⟩
        | succ i =>
          have := ih i (by simpa using hi)
          have e : chC (m :: t) = [.int .i32 m.1, .int .i64 m.2] ++ chC t := rfl
          rw [e, List.getElem?_append_right (by simp; omega), List.getElem?_append_right (by simp; omega)]
          simp only [List.length_cons, List.length_nil, List.getElem_cons_succ]
          rw [show (i + 1) * 2 - (0 + 1 + 1) = i * 2 by omega, show (i + 1) * 2 + 1 - (0 + 1 + 1) = i * 2 + 1 by omega]
          exact this
    have cc : ∀ j u, (chC c.cs)[j]? = some u → w.cell? ⟨g, j, none⟩ = some u := fun j u h2 => by
      have := World.ownsRow.cells (e ▸ h.ch) (g := g) rfl j u h2
      have e : ((⟨g, 0, none⟩ : Addr).add j) = ⟨g, j, none⟩ := by unfold Addr.add; split <;> simp_all
      rw [e] at this
      exact this
    exact ⟨g, cap, e, cc _ _ (get _ _ hk).1, cc _ _ (get _ _ hk).2⟩
theorem cv_form {w : World} {c : Cx} {x : PV} {ns : List Nd} (h : Ps w c x ns) : ∃ A cap, c.cv = .slice A c.cs.length cap := by
  rcases row_kinds h.ch with ⟨e, h0⟩ | ⟨g, cap, e, hc⟩
  · exact ⟨_, _, by rw [e, h0]⟩
  · exact ⟨_, _, e⟩

set_option maxRecDepth 100000 in
set_option maxHeartbeats 2000000 in
theorem now_any (w : World) (c : Cx) (x : PV) (ns : List Nd) (h : Ps w c x ns) : Calls Tryd.prog 89 #[.pointer (some ⟨c.g, 0, none⟩)] w (IntBel .i32 w (nowV c x)) := by
  have pc := h.cells
  have hf := h.few
  by_cases hi : c.cs.length ≤ x.i
  · have E : Hid (nowV c x = -2) := by
      show _ = _
      unfold nowV lf
      rw [List.drop_of_length_le hi]
      simp [nwF]
    obtain ⟨A, cap, hcv⟩ := cv_form h
    have c0 := pc.c0
    have c1 := pc.c1
    have c9 := pc.c9
    rw [hcv] at c0
    have hi2 : (c.cs.length : Int) ≤ x.i := by omega
    clear pc h hcv
    go_enter Tryd.func89, Tryd.ntmps89
    go_wp2_with fail
    go_quiet (fail)
    go_wp2_with fail
    go_ret
    exact ⟨i32_ret (Eq.symm E.out), by repeat (first | exact Below.refl _ _ | refine below_drewN ?_ _)⟩
  · have hk : x.i < c.cs.length := by omega
    obtain ⟨b, cap, hcv, k0, k1⟩ := ch_at h x.i hk
    have c0 := pc.c0
    have c1 := pc.c1
    have c9 := pc.c9
    rw [hcv] at c0
    have hi2 : ¬ (c.cs.length : Int) ≤ x.i := by omega
    have hi3 : (0 : Int) ≤ x.i := by omega
    have hi4 : (x.i : Int) < c.cs.length := by omega
    by_cases he : x.e = 0
    · have E : Hid (nowV c x = (c.cs[x.i]'hk).1) := by
        show _ = _
        unfold nowV lf
        rw [if_pos he]
        rw [List.drop_eq_getElem_cons hk]
        rfl
      rw [he] at c9
      clear pc h hcv hi he
      go_enter Tryd.func89, Tryd.ntmps89
      go_wp2_with fail
      go_quiet (fail)
      go_wp2_with fail
      go_quiet (fail)
      go_wp2_with fail
      go_ret
      exact ⟨i32_ret (Eq.symm E.out), by repeat (first | exact Below.refl _ _ | refine below_drewN ?_ _)⟩
    · have E : Hid (nowV c x = -2) := by show _ = _; unfold nowV; rw [if_neg he]
      have he2 : (x.e != 0) = true := by simpa using he
      clear pc h hcv hi he
      go_enter Tryd.func89, Tryd.ntmps89
      go_wp2_with fail
      go_quiet (fail)
      go_wp2_with fail
      go_ret
      exact ⟨i32_ret (Eq.symm E.out), by repeat (first | exact Below.refl _ _ | refine below_drewN ?_ _)⟩
end Go.Proofs.YthlabaijaadocaaDoor

/-! The reference's reader: its fault; one part more. -/
namespace Go.Proofs.YthlabaijaadocaaDoor
open Go.RowKit Ut Rx Mt

/-- what a call of the reader's has done -/
structure Step (w w' : World) (c : Cx) (x x' : PV) (ns ns' : List Nd) : Prop where
  ps : Ps w' c x' ns'
  fr : Fr w w' c.g x.L x'.L
theorem Step.refl {w : World} {c : Cx} {x : PV} {ns : List Nd} (h : Ps w c x ns) : Step w w c x x ns ns := ⟨h, Fr.refl _ _ _⟩
theorem Step.trans {w w1 w2 : World} {c : Cx} {x x1 x2 : PV} {n n1 n2 : List Nd} (h : Step w w1 c x x1 n n1) (k : Step w1 w2 c x1 x2 n1 n2) : Step w w2 c x x2 n n2 := ⟨k.ps, h.fr.trans k.fr⟩
theorem Step.below {w w1 w2 : World} {c : Cx} {x x1 : PV} {n n1 : List Nd} (h : Step w w1 c x x1 n n1) (b : Below w1.heap.size w1 w2) : Step w w2 c x x1 n n1 := ⟨h.ps.below b, h.fr.trans (Fr.of_below _ _ b)⟩
theorem Step.set {w w1 : World} {c : Cx} {x x1 : PV} {n n1 : List Nd} (h : Step w w1 c x x1 n n1) (j : Nat) (u : Value) (x' : PV) (hx : (pvC c x1).setIfInBounds j u = pvC c x') (hL : x'.L = x1.L) (hi : x'.i ≤ c.cs.length + 1) : Step w (w1.setCell ⟨c.g, j, none⟩ u) c x x' n n1 := by
  obtain ⟨a, b⟩ := h.ps.set j u x' hx hL hi
  exact ⟨a, h.fr.trans b⟩

def failed (x : PV) (er bad : Int) : PV := { x with e := if x.e = 0 then er else x.e, bad := bad }
def FailPost (w : World) (c : Cx) (x : PV) (ns : List Nd) (er : Int) (e : Ending) (w' : World) : Prop := e = .returned (.int .i64 0) ∧ ∃ bad, Step w w' c x (failed x er bad) ns ns
theorem FailPost.mk {w w' : World} {c : Cx} {x : PV} {ns : List Nd} {er : Int} (bad : Int) (h : Step w w' c x (failed x er bad) ns ns) : FailPost w c x ns er (.returned (.int .i64 0)) w' := ⟨rfl, bad, h⟩

set_option maxRecDepth 100000 in
set_option maxHeartbeats 2000000 in
theorem fail_any (w : World) (c : Cx) (x : PV) (ns : List Nd) (er : Int) (h : Ps w c x ns) : Calls Tryd.prog 76 #[.pointer (some ⟨c.g, 0, none⟩), .int .i64 er] w (FailPost w c x ns er) := by
  have H := Lib.hid h
  have pc := h.cells
  by_cases he : x.e = 0
  · obtain ⟨A, cap, hcv⟩ := cv_form h
    have f := pc.f
    have c0 := pc.c0
    have c1 := pc.c1
    have c2 := pc.c2
    have c8 := pc.c8
    have c9 := pc.c9
    have HCV := Lib.hid hcv
    rw [hcv] at c0
    rw [he] at c9
    have hf := h.few
    have HE := Lib.hid he
    have S1 : Hid (∀ b, Step w ((w.setCell ⟨c.g, 9, none⟩ (.int .i64 er)).setCell ⟨c.g, 8, none⟩ (.int .i64 b)) c x (failed x er b) ns ns) := fun b => by
      have e : failed x er b = { x with e := er, bad := b } := by unfold failed; rw [if_pos HE.out]
      rw [e]
      exact ((Step.refl H.out).set 9 _ { x with e := er } rfl rfl H.out.at_).set 8 _ { x with e := er, bad := b } rfl rfl H.out.at_
    by_cases hi : c.cs.length ≤ x.i
    · have hi2 : (c.cs.length : Int) ≤ x.i := by omega
      clear pc h hcv hi he
      go_enter Tryd.func76, Tryd.ntmps76
      go_wp2_with fail
      have S := S1.out c.en
      generalize ((w.setCell ⟨c.g, 9, none⟩ (.int .i64 er)).setCell ⟨c.g, 8, none⟩ (.int .i64 c.en)) = w2 at *
      have pc := S.ps.cells
      have d0 := pc.c0
      have d1 := pc.c1
      have d8 := pc.c8
      have df := pc.f
      have e1 : (failed x er c.en).i = x.i := rfl
      rw [e1] at d1
      rw [HCV.out] at d0
      have SS := Lib.hid S
      clear S pc e1 c0 c1 c2 c8 c9 f
      go_quiet (fail)
      go_wp2_with fail
      go_ret
      exact FailPost.mk _ (SS.out.below (by repeat (first | exact Below.refl _ _ | refine below_drewN ?_ _)))
    · have hk : x.i < c.cs.length := by omega
      have hi2 : ¬ (c.cs.length : Int) ≤ x.i := by omega
      have hi3 : (0 : Int) ≤ x.i := by omega
      have hi4 : (x.i : Int) < c.cs.length := by omega
      clear pc h hcv hi he
      go_enter Tryd.func76, Tryd.ntmps76
      go_wp2_with fail
      have S := S1.out c.en
      generalize ((w.setCell ⟨c.g, 9, none⟩ (.int .i64 er)).setCell ⟨c.g, 8, none⟩ (.int .i64 c.en)) = w2 at *
      have pc := S.ps.cells
      have d0 := pc.c0
      have d1 := pc.c1
      have d8 := pc.c8
      have df := pc.f
      have e1 : (failed x er c.en).i = x.i := rfl
      rw [e1] at d1
      obtain ⟨b, cap2, hcv2, k0, k1⟩ := ch_at S.ps x.i hk
      rw [hcv2] at d0
      have SS := Lib.hid S
      clear S pc e1 c0 c1 c2 c8 c9 f hcv2
      go_quiet (fail)
      go_wp2_with fail
      go_region
      all_goals
        go_wp2_with fail
        go_ret
        exact FailPost.mk _ ((SS.out.below (by repeat (first | exact Below.refl _ _ | refine below_drewN ?_ _))).set 8 _ (failed x er (c.cs[x.i]'hk).2) rfl rfl H.out.at_)
  · have c9 := pc.c9
    have he2 : (x.e == 0) = false := by simpa using he
    have E : Hid (Step w w c x (failed x er x.bad) ns ns) := by
      have e : failed x er x.bad = x := by unfold failed; rw [if_neg he]
      show Step _ _ _ _ _ _ _
      rw [e]
      exact Step.refl h
    clear pc h he
    go_enter Tryd.func76, Tryd.ntmps76
    go_wp2_with fail
    go_ret
    exact FailPost.mk _ E.out

/-! ### one part more -/
theorem infoNd : (Tryd.prog.info? 142).map (fun i => (i.zero, i.size, i.bytes)) = some (some (.agg #[.int .i64 0, .int .i64 0, .int .i64 0, .slice none 0 0, .bool false]), 5, 56) := by kernel_rfl
theorem nC_append (a b : List Nd) : nC (a ++ b) = nC a ++ nC b := by unfold nC; exact List.flatMap_append
def AddPost (w : World) (c : Cx) (x : PV) (ns : List Nd) (n : Nd) (e : Ending) (w' : World) : Prop := e = .returned (.int .i64 ns.length) ∧ ∃ L, Step w w' c x { x with L := L } ns (ns ++ [n])
theorem one5 (n : Nd) (h : n.s.oneCell' = true) : ∀ u ∈ ndC n, u.oneCell' = true := by
  intro u hu
  simp only [ndC, List.mem_cons, List.not_mem_nil, or_false] at hu
  rcases hu with rfl | rfl | rfl | rfl | rfl
  all_goals first | rfl | exact h
theorem news5 (w : World) (b : Nat) (a1 a2 a3 a4 a5 : Value) (hb : b = w.heap.size) {t : TypeId} : ∀ j v, [a1, a2, a3, a4, a5][j]? = some v → (w.alloc (.cells #[a1, a2, a3, a4, a5] t)).cell? ((⟨b, 0, none⟩ : Addr).add j) = some v := by
  intro j v hv
  subst hb
  match j with
  | 0 => simp at hv; subst hv; exact World.cell?_alloc_at _ _ _ _ rfl
  | 1 => simp at hv; subst hv; exact World.cell?_alloc_at _ _ _ _ rfl
  | 2 => simp at hv; subst hv; exact World.cell?_alloc_at _ _ _ _ rfl
  | 3 => simp at hv; subst hv; exact World.cell?_alloc_at _ _ _ _ rfl
  | 4 => simp at hv; subst hv; exact World.cell?_alloc_at _ _ _ _ rfl
  | j + 5 => simp at hv

theorem Ps.appended {w wd w8 : World} {c : Cx} {x : PV} {ns : List Nd} {n : Nd} {v' : Value} {H : Nat} (h : Ps w c x ns) (b : Below w.heap.size w wd)
    (own : w8.ownsRow c.B 142 5 v' (ns.length + 1) (nC ns ++ ndC n)) (gr : wd.grownBy w8 x.L.ownBlock) (at_ : v'.ownBlock = x.L.ownBlock ∨ v'.ownBlock = some H) (hH : w.heap.size ≤ H) :
    w8.cell? ⟨c.g, 3, none⟩ = some x.L ∧ w8.frozen? ⟨c.g, 3, none⟩ = false ∧ Step w (w8.setCell ⟨c.g, 3, none⟩ v') c x { x with L := v' } ns (ns ++ [n]) := by
  have hd := h.below b
  have hne : some c.g ≠ x.L.ownBlock := fun e => own_ne_of_ty h.nd h.blk (by decide) e.symm
  have h8 : w8.heap[c.g]? = _ := (gr.block c.g hd.lt hne).trans hd.blk
  have lt8 := (Array.getElem?_eq_some_iff.1 h8).1
  have fr : Fr w (w8.setCell ⟨c.g, 3, none⟩ v') c.g x.L v' := by
    refine ⟨gr.os.trans b.os, gr.tape.trans b.tape, gr.output.trans b.output, Nat.le_trans b.size (Nat.le_trans gr.size (by rw [World.size_setCell]; exact Nat.le_refl _)), fun q hq h1 h2 => ?_, ?_⟩
    · rw [Below.heap_setCell w8 ⟨c.g, 3, none⟩ v' q h1, gr.block q (Nat.lt_of_lt_of_le hq b.size) h2, b.block q hq]
    · rcases at_ with e | e
      · exact Or.inl e
      · exact Or.inr ⟨_, e, hH⟩
  refine ⟨blk_cell h8 3, blk_free h8 3, ⟨?_, h.other (x' := { x with L := v' }) fr h.ch (by decide) (by decide), ?_, h.low, h.few, h.at_, h.pos⟩, fr⟩
  · rw [blk_set h8]; rfl
  · rw [List.length_append, nC_append]
    have o : w8.ownsRow c.B 142 5 v' (ns.length + 1) (nC ns ++ nC [n]) := own
    exact own_keep o fun q hq => Below.heap_setCell w8 ⟨c.g, 3, none⟩ v' q (fun e => by have e' : q = c.g := e; subst e'; exact own_ne_of_ty o h8 (by decide) hq)

set_option maxRecDepth 100000 in
set_option maxHeartbeats 4000000 in
theorem add_any (w : World) (c : Cx) (x : PV) (ns : List Nd) (n : Nd) (h : Ps w c x ns) (hs : n.s.oneCell' = true) (hl : ns.length ≤ 100000) :
    Calls Tryd.prog 90 #[.pointer (some ⟨c.g, 0, none⟩), .agg #[.int .i64 n.k, .int .i64 n.a, .int .i64 n.b, n.s, .bool n.t]] w (AddPost w c x ns n) := by
  obtain ⟨nk, na, nb, nv, nt⟩ := n
  simp only at hs ⊢
  obtain ⟨i0, hi, hz0, hz1, hz2⟩ := info_parts infoNd
  have I0 : Hid (i0.zero = some (.agg #[.int .i64 0, .int .i64 0, .int .i64 0, .slice none 0 0, .bool false]) ∧ i0.size = 5 ∧ i0.bytes = 56 ∧ Tryd.prog.info? 142 = some i0) := ⟨hz0, hz1, hz2, hi⟩
  clear hz0 hz1 hz2 hi
  have S0 := Lib.hid ((Step.refl h).below ((Below.refl _ _).alloc (Nat.le_refl _) (.cells #[.int .i64 nk, .int .i64 na, .int .i64 nb, nv, .bool nt] 142)))
  have pc := S0.out.ps.cells
  have c3 := pc.c3
  have f := pc.f
  have n0 := heap_alloc_new w (.cells #[.int .i64 nk, .int .i64 na, .int .i64 nb, nv, .bool nt] 142)
  have lt := h.lt
  clear pc h
  go_enter Tryd.func90, Tryd.ntmps90
  go_wp2_with fail
  have W1z : (w.alloc (.cells #[.int .i64 nk, .int .i64 na, .int .i64 nb, nv, .bool nt] 142)).heap.size = w.heap.size + 1 := by simp
  have HZ := Lib.hid W1z
  clear W1z
  generalize (w.alloc (.cells #[.int .i64 nk, .int .i64 na, .int .i64 nb, nv, .bool nt] 142)) = w1 at *
  have d0 : w1.cell? ⟨w.heap.size, 0, none⟩ = some (.int .i64 nk) := blk_cell n0 0
  have d1 : w1.cell? ⟨w.heap.size, 1, none⟩ = some (.int .i64 na) := blk_cell n0 1
  have d2 : w1.cell? ⟨w.heap.size, 2, none⟩ = some (.int .i64 nb) := blk_cell n0 2
  have d3 : w1.cell? ⟨w.heap.size, 3, none⟩ = some nv := blk_cell n0 3
  have d4 : w1.cell? ⟨w.heap.size, 4, none⟩ = some (.bool nt) := blk_cell n0 4
  have OWD : Hid (((w1.alloc (.cells #[.int .i64 nk, .int .i64 na, .int .i64 nb, nv, .bool nt] 142)).drew).ownsRow c.B 142 5 x.L ns.length (nC ns)) := (S0.out.ps.below (((Below.refl _ _).alloc (Nat.le_refl _) _).drew)).nd
  have NEWS : Hid (∀ j v, [.int .i64 nk, .int .i64 na, .int .i64 nb, nv, .bool nt][j]? = some v → ((w1.alloc (.cells #[.int .i64 nk, .int .i64 na, .int .i64 nb, nv, .bool nt] 142)).drew).cell? ((⟨w1.heap.size, 0, none⟩ : Addr).add j) = some v) := news5 w1 _ _ _ _ _ _ rfl
  have SZD : Hid (c.B ≤ ((w1.alloc (.cells #[.int .i64 nk, .int .i64 na, .int .i64 nb, nv, .bool nt] 142)).drew).heap.size) := by
    have h1 := S0.out.ps.low
    have h2 := S0.out.ps.lt
    have e : ((w1.alloc (.cells #[.int .i64 nk, .int .i64 na, .int .i64 nb, nv, .bool nt] 142)).drew).heap.size = w1.heap.size + 1 := by simp
    show _ ≤ _
    rw [e]; omega
  have ONE := Lib.hid (one5 ⟨nk, na, nb, nv, nt⟩ hs)
  obtain ⟨A, m, cap, hL⟩ := ownsRow_is S0.out.ps.nd
  have HL := Lib.hid hL
  rw [hL] at c3
  have lt1 : c.g < w1.heap.size := S0.out.ps.lt
  clear n0 hL
  go_region_law (refine step_append_lies _ rfl (.tmp 10) (.tmp 12) 115 rfl c.B 142 i0 (.agg #[.int .i64 0, .int .i64 0, .int .i64 0, .slice none 0 0, .bool false]) 5 56 Tryd.underlying115 I0.out.2.2.2 I0.out.1 I0.out.2.1 I0.out.2.2.1 rfl (by decide) x.L ns.length _ HL.out.symm OWD.out _ 1 1 [.int .i64 nk, .int .i64 na, .int .i64 nb, nv, .bool nt] rfl rfl NEWS.out ONE.out (by decide) (by unfold maxLen; omega) (by omega) SZD.out _ rfl ?_; intro g8 cap8 w8 own8 grow8 at8 lt8; obtain ⟨k3, kf, hst'⟩ := S0.out.ps.appended (n := ⟨nk, na, nb, nv, nt⟩) (((Below.refl _ _).alloc (Nat.le_refl _) _).drew) own8 grow8 (at8.imp Eq.symm (congrArg some)) (by simp); have HS := Lib.hid hst'; clear hst' own8 grow8 at8 lt8)
  all_goals
    have S9 := Lib.hid (S0.out.trans HS.out)
    have hl2 : (ns.length : Int) ≤ 100000 := by omega
    clear HS
    go_wp2_with fail
    go_ret
    exact ⟨i32_ret (by simp), _, S9.out⟩
end Go.Proofs.YthlabaijaadocaaDoor

/-! The reference's runes with a meaning. -/
namespace Go.Proofs.YthlabaijaadocaaDoor
open Go.RowKit Ut Rx Mt

set_option maxRecDepth 100000 in
set_option maxHeartbeats 2000000 in
theorem rSpecial_any (c : Int) (w : World) : Calls Tryd.prog 108 #[.int .i32 c] w (BoolSame w (specB c)) := by
  go_enter Tryd.func108, Tryd.ntmps108
  go_wp2_with fail
  all_goals
    go_ret
    refine ⟨ret_b ?_, rfl⟩
    simp_all [specB]

/-- the reference's runes of an escape -/
def grpR (c : Int) : Option (List Span) := if c = 100 then some [(48, 57)] else if c = 119 then some [(48, 57), (65, 90), (97, 122), (95, 95)] else if c = 115 then some [(32, 32), (9, 10)] else none
theorem grpR_short (c : Int) : (grpR c = none ↔ shortF c = none) ∧ ∀ sp, grpR c = some sp → ∃ sp', shortF c = some sp' ∧ ∀ x, hasS sp x = hasS sp' x := by
  unfold grpR shortF
  by_cases h1 : c = 100
  · simp [h1]
  · by_cases h2 : c = 119
    · simp [h2]
    · by_cases h3 : c = 115
      · simp only [if_neg h1, if_neg h2, if_pos h3]
        refine ⟨by simp, fun sp h => ⟨_, rfl, fun x => ?_⟩⟩
        cases h
        rw [Bool.eq_iff_iff]
        simp [hasS]
        omega
      · simp [h1, h2, h3]
def GrpPost (c : Int) (w : World) (e : Ending) (w' : World) : Prop :=
  match grpR c with
  | none => e = .returned (.slice none 0 0) ∧ w = w'
  | some s => e = .returned (.slice (some ⟨w.heap.size, 0, none⟩) s.length s.length) ∧ w' = w.alloc (.cells (spC s).toArray 151)
set_option maxRecDepth 100000 in
set_option maxHeartbeats 2000000 in
theorem group_any (c : Int) (w : World) : Calls Tryd.prog 111 #[.int .i32 c] w (GrpPost c w) := by
  go_enter Tryd.func111, Tryd.ntmps111
  go_wp2_with fail
  · have h : c = 100 := by have : (c == 100) = true := by assumption
                           simpa using this
    go_ret
    subst h
    exact ⟨rfl, rfl⟩
  · have h : c = 119 := by have : (c == 119) = true := by assumption
                           simpa using this
    go_ret
    subst h
    exact ⟨rfl, rfl⟩
  · have h : c = 115 := by have : (c == 115) = true := by assumption
                           simpa using this
    go_ret
    subst h
    exact ⟨rfl, rfl⟩
  · have h1 : ¬ c = 100 := by have : (c == 100) = false := by assumption
                              simpa using this
    have h2 : ¬ c = 119 := by have : (c == 119) = false := by assumption
                              simpa using this
    have h3 : ¬ c = 115 := by have : (c == 115) = false := by assumption
                              simpa using this
    go_ret
    have e : grpR c = none := by unfold grpR; rw [if_neg h1, if_neg h2, if_neg h3]
    unfold GrpPost
    rw [e]
    exact ⟨rfl, rfl⟩

/-- a row of spans -/
def Sp (w : World) (v : Value) (sp : List Span) : Prop := w.ownsRow 0 151 2 v sp.length (spC sp)
theorem Sp.new (w : World) (sp : List Span) (hl : sp.length ≤ 1000) : Sp (w.alloc (.cells (spC sp).toArray 151)) (.slice (some ⟨w.heap.size, 0, none⟩) sp.length sp.length) sp := by
  have h := World.ownsRow_lit (e := 151) (size := 2) w (spC sp).toArray sp.length (Nat.zero_le w.heap.size) (by unfold maxLen; omega) (by simp [spC_length])
  unfold Sp
  simpa using h
theorem Sp.one (w : World) (n : Nat) (a b : Int) (hn : n = w.heap.size) : Sp (w.alloc (.cells #[.int .i32 a, .int .i32 b] 151)) (.slice (some ⟨n, 0, none⟩) 1 1) [(a, b)] := by
  subst hn
  exact Sp.new w [(a, b)] (by simp)
theorem Sp.nil (w : World) : Sp w (.slice none 0 0) [] := World.ownsRow_nil _ _ _ _
theorem Sp.below {w w' : World} {v : Value} {sp : List Span} (h : Sp w v sp) (b : Below w.heap.size w w') : Sp w' v sp := own_keep h fun q hq => b.block q (h.lt q hq).2
theorem Step.sp {w w' : World} {c : Cx} {x x' : PV} {ns ns' : List Nd} {v : Value} {sp : List Span} (h : Ps w c x ns) (s : Step w w' c x x' ns ns') (k : Sp w v sp) : Sp w' v sp := h.other s.fr k (by decide) (by decide)
theorem Sp.cells {w : World} {b n cap : Nat} {sp : List Span} (h : Sp w (.slice (some ⟨b, 0, none⟩) n cap) sp) (j : Nat) (u : Value) (hu : (spC sp)[j]? = some u) : w.cell? ⟨b, j, none⟩ = some u := by
  have := World.ownsRow.cells h (g := b) rfl j u hu
  have e : ((⟨b, 0, none⟩ : Addr).add j) = ⟨b, j, none⟩ := by unfold Addr.add; split <;> simp_all
  rw [e] at this
  exact this
def wideF (sp : List Span) : Bool := match sp with | [(a, b)] => a != b | _ => true
set_option maxRecDepth 100000 in
set_option maxHeartbeats 2000000 in
theorem wide_any (w : World) (v : Value) (sp : List Span) (h : Sp w v sp) (hl : sp.length ≤ 1000) : Calls Tryd.prog 107 #[v] w (BoolBelow w (wideF sp)) := by
  by_cases h1 : sp.length = 1
  · obtain ⟨⟨a, b⟩, rfl⟩ : ∃ p, sp = [p] := by
      match sp, h1 with
      | [p], _ => exact ⟨p, rfl⟩
    rcases row_kinds h with ⟨_, h0⟩ | ⟨g, cap, rfl, hc⟩
    · simp at h0
    · have c0 := h.cells 0 _ rfl
      have c1 := h.cells 1 _ rfl
      simp only [List.length_cons, List.length_nil] at *
      clear h h1
      by_cases hab : a = b
      · subst hab
        have E : Hid (wideF [(a, a)] = false) := by show (a != a) = false; simp
        go_enter Tryd.func107, Tryd.ntmps107
        go_wp2_with fail
        go_quiet (fail)
        go_wp2_with fail
        go_ret
        exact ⟨ret_b (Eq.symm E.out), by repeat (first | exact Below.refl _ _ | refine below_drewN ?_ _)⟩
      · have hne : (a != b) = true := by simpa using hab
        have E : Hid (wideF [(a, b)] = true) := hne
        clear hab
        go_enter Tryd.func107, Tryd.ntmps107
        go_wp2_with fail
        go_quiet (fail)
        go_wp2_with fail
        go_ret
        exact ⟨ret_b (Eq.symm E.out), by repeat (first | exact Below.refl _ _ | refine below_drewN ?_ _)⟩
  · have E : Hid (wideF sp = true) := by
      show _ = _
      match sp, h1 with
      | [], _ => rfl
      | [p], h => exact absurd rfl h
      | p :: q :: t, _ => rfl
    obtain ⟨A, cap, rfl⟩ : ∃ A cap, v = .slice A sp.length cap := by
      rcases row_kinds h with ⟨e, h0⟩ | ⟨g, cap, e, hc⟩
      · exact ⟨_, _, by rw [e, h0]⟩
      · exact ⟨_, _, e⟩
    have hne : ((sp.length : Int) != 1) = true := by simp; omega
    have hne2 : (sp.length == 1) = false := by simpa using h1
    clear h h1
    go_enter Tryd.func107, Tryd.ntmps107
    go_wp2_with fail
    go_quiet (fail)
    go_wp2_with fail
    go_ret
    exact ⟨ret_b (Eq.symm E.out), by repeat (first | exact Below.refl _ _ | refine below_drewN ?_ _)⟩
end Go.Proofs.YthlabaijaadocaaDoor

/-! The reference's escapes; a rune of a class. -/
namespace Go.Proofs.YthlabaijaadocaaDoor
open Go.RowKit Ut Rx Mt

theorem lf_at (c : Cx) (x y : PV) (h : x.i = y.i) : lf c x = lf c y := by unfold lf; rw [h]
theorem lf_cons {c : Cx} {x : PV} {a : Int} {t : List Int} (h : lf c x = a :: t) : x.i < c.cs.length ∧ (c.cs.drop (x.i + 1)).map (·.1) = t := by
  unfold lf at h
  by_cases hk : x.i < c.cs.length
  · rw [List.drop_eq_getElem_cons hk, List.map_cons] at h
    exact ⟨hk, (List.cons.inj h).2⟩
  · rw [List.drop_of_length_le (by omega)] at h
    cases h
theorem lf_nil {c : Cx} {x : PV} (h : lf c x = []) : c.cs.length ≤ x.i := by
  by_cases hk : x.i < c.cs.length
  · unfold lf at h
    rw [List.drop_eq_getElem_cons hk] at h
    cases h
  · omega
theorem lf_pos {w : World} {c : Cx} {x : PV} {ns : List Nd} {a : Int} {t : List Int} (hp : Ps w c x ns) (h : lf c x = a :: t) : 0 ≤ a := by
  have hk := (lf_cons h).1
  unfold lf at h
  rw [List.drop_eq_getElem_cons hk, List.map_cons] at h
  rw [← (List.cons.inj h).1]
  exact hp.pos _ (List.getElem_mem _)
/-- one rune on -/
def nx (x : PV) : PV := { x with i := x.i + 1 }
theorem lf_nx {c : Cx} {x : PV} {a : Int} {t : List Int} (h : lf c x = a :: t) : lf c (nx x) = t := (lf_cons h).2
theorem Step.skip {w w1 : World} {c : Cx} {x x1 : PV} {n n1 : List Nd} (h : Step w w1 c x x1 n n1) (hk : x1.i ≤ c.cs.length) : Step w (w1.setCell ⟨c.g, 1, none⟩ (.int .i64 ((x1.i : Int) + 1))) c x (nx x1) n n1 :=
  h.set 1 _ (nx x1) (by simp [pvC, nx]) rfl (by show x1.i + 1 ≤ _; omega)
theorem now_at {w : World} {c : Cx} {x : PV} {ns : List Nd} {l : List Int} (h : Ps w c x ns) (he : x.e = 0) (hl : lf c x = l) : Calls Tryd.prog 89 #[.pointer (some ⟨c.g, 0, none⟩)] w (IntBel .i32 w (nwF l)) := by
  have := now_any w c x ns h
  unfold nowV at this
  rw [if_pos he, hl] at this
  exact this
theorem now_err {w : World} {c : Cx} {x : PV} {ns : List Nd} (h : Ps w c x ns) (he : x.e ≠ 0) : Calls Tryd.prog 89 #[.pointer (some ⟨c.g, 0, none⟩)] w (IntBel .i32 w (-2)) := by
  have := now_any w c x ns h
  unfold nowV at this
  rw [if_neg he] at this
  exact this

def EscP (w : World) (c : Cx) (x : PV) (ns : List Nd) (res : Except Int (List Span × Bool × List Int)) (e : Ending) (w' : World) : Prop :=
  ∃ x' v sp, e = .returned v ∧ Step w w' c x x' ns ns ∧ x'.d = x.d ∧ Sp w' v sp ∧ sp.length ≤ 4 ∧ match res with
  | .ok (sp', b, t) => x'.e = 0 ∧ lf c x' = t ∧ (∀ y, hasS sp y = hasS sp' y) ∧ wideF sp = !b ∧ sp ≠ [] ∧ (b = true → sp = sp')
  | .error er => x'.e = er ∧ er ≠ 0
theorem spec_short {a : Int} (h : (specB a || a == 45 || a == 47) = true) : grpR a = none := by
  unfold specB at h
  unfold grpR
  simp only [Bool.or_eq_true, List.contains_iff_mem, List.mem_cons, List.not_mem_nil, or_false, beq_iff_eq] at h
  rw [if_neg (by omega), if_neg (by omega), if_neg (by omega)]

set_option maxRecDepth 100000 in
set_option maxHeartbeats 4000000 in
theorem rEscape_any (w : World) (c : Cx) (x : PV) (ns : List Nd) (t : List Int) (h : Ps w c x ns) (he : x.e = 0) (hl : lf c x = 92 :: t) : Calls Tryd.prog 106 #[.pointer (some ⟨c.g, 0, none⟩)] w (EscP w c x ns (escF t)) := by
  have hk := (lf_cons hl).1
  have pc := h.cells
  have c1 := pc.c1
  have f := pc.f
  have hf := h.few
  have S1 := Lib.hid ((Step.refl h).skip (Nat.le_of_lt hk))
  have L1 := Lib.hid (lf_nx hl)
  have E1 : Hid ((nx x).e = 0) := he
  have hi : (x.i : Int) ≤ 256 := by omega
  clear pc h
  go_enter Tryd.func106, Tryd.ntmps106
  go_wp2_with fail
  generalize (w.setCell ⟨c.g, 1, none⟩ (.int .i64 ((x.i : Int) + 1))) = w1 at *
  refine (now_at S1.out.ps E1.out L1.out).mono ?_
  rintro e w2 ⟨rfl, hb2⟩
  have S2 := Lib.hid (S1.out.below hb2)
  clear hb2 S1 c1 f
  cases t with
  | nil =>
    have FA := Lib.hid (fun w' (b : Below w2.heap.size w2 w') => fail_any w' c (nx x) ns 8 (S2.out.ps.below b))
    have E : Hid (escF [] = .error 8) := rfl
    have G : Hid (grpR (-2) = none) := rfl
    go_wp2_with fail
    have GR := group_any (-2) w2
    unfold GrpPost at GR
    rw [G.out] at GR
    refine GR.mono ?_
    rintro e w3 ⟨rfl, rfl⟩
    go_wp2_with fail
    refine (FA.out _ (Below.refl _ _)).mono ?_
    rintro e w4 ⟨rfl, bad, hs4⟩
    have S4 := Lib.hid (S2.out.trans hs4)
    clear hs4
    go_wp2_with fail
    go_ret
    rw [E.out]
    exact ⟨_, _, [], rfl, S4.out, rfl, Sp.nil _, by simp, by show (if (nx x).e = 0 then _ else _) = _; rw [if_pos E1.out], by decide⟩
  | cons a u =>
    rw [show nwF (a :: u) = a from rfl]
    have ha := lf_pos S2.out.ps L1.out
    have hk2 := (lf_cons L1.out).1
    have hi2 : ((x.i : Int) + 1) ≤ 256 := by
      have : x.i + 1 < c.cs.length := hk2
      omega
    have pc2 := S2.out.ps.cells
    have c1' := pc2.c1
    have e1 : ((nx x).i : Int) = (x.i : Int) + 1 := by simp [nx]
    rw [e1] at c1'
    have f' := pc2.f
    have S3 := Lib.hid (S2.out.skip (Nat.le_of_lt hk2))
    rw [e1] at S3
    have L3 := Lib.hid (lf_nx L1.out)
    clear pc2 e1
    by_cases hsp : (specB a || a == 45 || a == 47) = true
    · have hg := spec_short hsp
      have hsf := (grpR_short a).1.1 hg
      have E : Hid (escF (a :: u) = .ok ([(a, a)], true, u)) := by show escF (a :: u) = _; simp only [escF, hsf]; rw [if_pos hsp]
      have hw : specB a = true ∨ (specB a = false ∧ (a == 45) = true) ∨ (specB a = false ∧ (a == 45) = false ∧ (a == 47) = true) := by
        cases h1 : specB a with
        | true => exact Or.inl rfl
        | false =>
          rw [h1] at hsp
          cases h2 : (a == 45) with
          | true => exact Or.inr (Or.inl ⟨rfl, rfl⟩)
          | false =>
            rw [h2] at hsp
            exact Or.inr (Or.inr ⟨rfl, rfl, by simpa using hsp⟩)
      clear hg hsf hsp
      have SPC := Lib.hid (rSpecial_any a w2)
      rcases hw with hb | ⟨hb, h45⟩ | ⟨hb, h45, h47⟩
      all_goals
        rw [hb] at SPC
        clear hb
        go_wp2_with fail
        refine SPC.out.mono ?_
        rintro e w3 ⟨rfl, rfl⟩
        go_wp2_with fail
        go_ret
        rw [E.out]
        exact ⟨_, _, [(a, a)], rfl, S3.out.below ((Below.refl _ _).alloc (Nat.le_refl _) _), rfl, Sp.one _ _ a a (by simp), by simp, E1.out, L3.out, fun _ => rfl, by simp [wideF], by simp, fun _ => rfl⟩
    · have hb : specB a = false := by cases h1 : specB a with
        | false => rfl
        | true => rw [h1] at hsp; exact absurd rfl hsp
      have h45 : (a == 45) = false := by cases h1 : (a == 45) with
        | false => rfl
        | true => rw [h1] at hsp; simp at hsp
      have h47 : (a == 47) = false := by cases h1 : (a == 47) with
        | false => rfl
        | true => rw [h1] at hsp; simp at hsp
      have SPC := Lib.hid (rSpecial_any a w2)
      rw [hb] at SPC
      have GR := group_any a w2
      unfold GrpPost at GR
      obtain ⟨g1, g2⟩ := grpR_short a
      have HSP := Lib.hid hsp
      cases hg : grpR a with
      | none =>
        rw [hg] at GR
        have E : Hid (escF (a :: u) = .error 8) := by show escF (a :: u) = _; simp only [escF, g1.1 hg]; rw [if_neg HSP.out]
        have GRH := Lib.hid GR
        have FA := Lib.hid (fun w' (b : Below w2.heap.size w2 w') => fail_any w' c (nx x) ns 8 (S2.out.ps.below b))
        clear GR g1 g2 hg hsp hb HSP S3 L3
        go_wp2_with fail
        refine SPC.out.mono ?_
        rintro e w3 ⟨rfl, rfl⟩
        go_wp2_with fail
        refine GRH.out.mono ?_
        rintro e w3 ⟨rfl, rfl⟩
        go_wp2_with fail
        refine (FA.out _ (Below.refl _ _)).mono ?_
        rintro e w4 ⟨rfl, bad, hs4⟩
        have S4 := Lib.hid (S2.out.trans hs4)
        clear hs4
        go_wp2_with fail
        go_ret
        rw [E.out]
        exact ⟨_, _, [], rfl, S4.out, rfl, Sp.nil _, by simp, by show (if (nx x).e = 0 then _ else _) = _; rw [if_pos E1.out], by decide⟩
      | some sp =>
        rw [hg] at GR
        obtain ⟨sp', hs', heq⟩ := g2 sp hg
        have E : Hid (escF (a :: u) = .ok (sp', false, u)) := by show escF (a :: u) = _; simp only [escF, hs']
        have HEQ := Lib.hid heq
        have hlen : sp.length ≤ 4 ∧ 0 < sp.length ∧ wideF sp = true := by
          unfold grpR at hg
          split at hg
          · cases hg; decide
          · split at hg
            · cases hg; decide
            · split at hg
              · cases hg; decide
              · cases hg
        have HLEN := Lib.hid hlen
        have GRH := Lib.hid GR
        have hl0 : ((sp.length : Int) == 0) = false := by rw [beq_eq_false_iff_ne]; omega
        have hl1 : (sp.length == 0) = false := by rw [beq_eq_false_iff_ne]; omega
        have NW := Lib.hid (Sp.new w2 sp (by omega))
        clear GR g1 g2 hg hsp hb HSP heq hlen hs' c1' f' S3 L3
        go_wp2_with fail
        refine SPC.out.mono ?_
        rintro e w3 ⟨rfl, rfl⟩
        go_wp2_with fail
        refine GRH.out.mono ?_
        rintro e w3 ⟨rfl, rfl⟩
        have S5 := Lib.hid (S2.out.below ((Below.refl _ _).alloc (Nat.le_refl _) (.cells (spC sp).toArray 151)))
        generalize (w2.alloc (.cells (spC sp).toArray 151)) = w5 at *
        have pc2 := S5.out.ps.cells
        have c1' := pc2.c1
        have e1 : ((nx x).i : Int) = (x.i : Int) + 1 := by simp [nx]
        rw [e1] at c1'
        have f' := pc2.f
        have S6 := Lib.hid (S5.out.skip (Nat.le_of_lt hk2))
        rw [e1] at S6
        have L6 := Lib.hid (lf_nx L1.out)
        have NW6 := Lib.hid (Step.sp S5.out.ps ((Step.refl S5.out.ps).skip (Nat.le_of_lt hk2)) NW.out)
        rw [e1] at NW6
        clear pc2 e1 NW
        go_wp2_with fail
        go_ret
        rw [E.out]
        exact ⟨_, _, sp, rfl, S6.out, rfl, NW6.out, HLEN.out.1, E1.out, L6.out, HEQ.out, by rw [HLEN.out.2.2]; rfl, by intro e; have := HLEN.out.2.1; rw [e] at this; simp at this, fun h => by cases h⟩
end Go.Proofs.YthlabaijaadocaaDoor
