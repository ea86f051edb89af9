import Derived.Test.YthhbbmebfmfgjaaGreatDoorSrE
import Derived.Test.YthhbbmebfmfgjaaGreatDoorSrH
/-! Go's stable sort, whole. -/
namespace Go.Proofs.YthhbbmebfmfgjaaGreatDoor
open Go.RowKit Go.Sort Stb
variable {α : Type} [Inhabited α]

theorem symMerge_all (enc : α → List Value) (k : Nat) (hk2 : k = 2) (g : Nat) (cb : Array Value) (cf : α → α → Int) (hO : SWO (ltOf cf)) (blk off cap size : Nat) (w0 : World)
    (eg : ∀ args w, (callFunc g args).run Tryz.prog w = .ok (.enter g args) w)
    (R : RowB Tryz.prog enc k g cb cf w0 blk off size) (hsz : size < 4611686018427387904) : ∀ n, MergeTo enc k g cb cf blk off cap size w0 n
  | 0 => fun a m b d w h => by omega
  | n + 1 => fun a m b d w h hs S ham hmb hb hA hB => by
    by_cases h1 : m = a + 1
    · subst h1
      have c := symMerge_left enc k hk2 g cb cf hO blk off cap size a b d w0 w eg R hs S hmb hb hsz hB
      rw [show ((a + 1 : Nat) : Int) = (a : Int) + 1 by omega]
      exact c
    · by_cases h2 : b = m + 1
      · subst h2
        have c := symMerge_right enc k hk2 g cb cf hO blk off cap size a m d w0 w eg R hs S (by omega) hb hsz hA
        rw [show ((m + 1 : Nat) : Int) = (m : Int) + 1 by omega]
        exact c
      · exact symMerge_step enc k hk2 g cb cf hO blk off cap size a m b d w0 w eg R hs S (by omega) (by omega) hb hsz hA hB
          (fun a' m' b' d' w' h' => symMerge_all enc k hk2 g cb cf hO blk off cap size w0 eg R hsz n a' m' b' d' w' (by omega))

/-! the blocks -/
/-- the blocks of K elements that end at a or before are in order -/
def Ahead (lt : α → α → Bool) (K a : Nat) (d : Array α) : Prop := (∃ c, a = c * K) ∧ ∀ p, p * K + K ≤ a → SortedIn lt (p * K) (p * K + K) d
/-- the blocks of K elements that begin at a or behind are in order -/
def Rest (lt : α → α → Bool) (K a n : Nat) (d : Array α) : Prop := (∃ c, a = c * K) ∧ ∀ p, a ≤ p * K → SortedIn lt (p * K) (min (p * K + K) n) d

variable {lt : α → α → Bool}
theorem mul_cases (K c p : Nat) : p * K + K ≤ c * K ∨ p * K = c * K ∨ c * K + K ≤ p * K := by
  rcases Nat.lt_trichotomy p c with h | h | h
  · have := Nat.mul_le_mul_right K h; rw [Nat.succ_mul] at this; exact Or.inl this
  · exact Or.inr (Or.inl (by rw [h]))
  · have := Nat.mul_le_mul_right K h; rw [Nat.succ_mul] at this; exact Or.inr (Or.inr this)

theorem Ahead.start (K : Nat) (d : Array α) (hK : 0 < K) : Ahead lt K 0 d := ⟨⟨0, by simp⟩, fun p h => by omega⟩
theorem Ahead.step {K a : Nat} {d d' : Array α} (h : Ahead lt K a d) (hp : PermIn a (a + K) d d') (hs : SortedIn lt a (a + K) d') : Ahead lt K (a + K) d' := by
  obtain ⟨⟨c, rfl⟩, h2⟩ := h
  refine ⟨⟨c + 1, by rw [Nat.succ_mul]⟩, fun p hle => ?_⟩
  rcases mul_cases K c p with e | e | e
  · exact sorted_keep (h2 p e) hp (Or.inl e)
  · rw [e]; exact hs
  · exact sorted_trivial (by omega)
theorem Ahead.done {K a n : Nat} {d : Array α} (h : Ahead lt K a d) (han : n < a + K) (hs : SortedIn lt a n d) : Blocks lt K n d := by
  obtain ⟨⟨c, rfl⟩, h2⟩ := h
  intro p
  rcases mul_cases K c p with e | e | e
  · intro i j hi hij hj; exact h2 p e i j hi hij (by omega)
  · rw [e]; intro i j hi hij hj; exact hs i j hi hij (by omega)
  · exact sorted_trivial (by omega)
theorem Rest.start {K n : Nat} {d : Array α} (h : Blocks lt K n d) : Rest lt K 0 n d := ⟨⟨0, by simp⟩, fun p _ => h p⟩
theorem Rest.first {K a n : Nat} {d : Array α} (h : Rest lt K a n d) : SortedIn lt a (min (a + K) n) d := by
  obtain ⟨⟨c, rfl⟩, h2⟩ := h
  exact h2 c (Nat.le_refl _)
theorem Rest.second {K a n : Nat} {d : Array α} (h : Rest lt K a n d) : SortedIn lt (a + K) (min (a + 2 * K) n) d := by
  obtain ⟨⟨c, rfl⟩, h2⟩ := h
  have := h2 (c + 1) (by rw [Nat.succ_mul]; omega)
  rw [Nat.succ_mul] at this
  rw [show c * K + 2 * K = c * K + K + K by omega]
  exact this
theorem Rest.step {K a n : Nat} {d d' : Array α} (h : Rest lt K a n d) (hp : PermIn a (a + 2 * K) d d') : Rest lt K (a + 2 * K) n d' := by
  obtain ⟨⟨c, rfl⟩, h2⟩ := h
  exact ⟨⟨c + 2, by rw [Nat.add_mul]⟩, fun p hle => sorted_keep (h2 p (by omega)) hp (Or.inr hle)⟩

set_option maxRecDepth 1000000 in
set_option maxHeartbeats 4000000 in
theorem stable_any (enc : α → List Value) (k : Nat) (hk2 : k = 2) (g : Nat) (cb : Array Value) (cf : α → α → Int) (hO : SWO (ltOf cf)) (blk off cap size : Nat) (d : Array α) (w0 w : World)
    (eg : ∀ args w, (callFunc g args).run Tryz.prog w = .ok (.enter g args) w)
    (R : RowB Tryz.prog enc k g cb cf w0 blk off size) (hs : d.size = size) (S : SB enc k w0 blk off d w) (hsz : size < 1152921504606846976) :
    Calls Tryz.prog 127 #[.slice (some ⟨blk, off, none⟩) size cap, .int .i64 size, .func (.func g) #[] cb] w fun e w' =>
      e = .returned (.tuple #[]) ∧ ∃ d', PermIn 0 size d d' ∧ SortedIn (ltOf cf) 0 size d' ∧ SB enc k w0 blk off d' w' := by
  have S0 : Aside (SB enc k w0 blk off d w) := S
  have IH := symMerge_all enc k hk2 g cb cf hO blk off cap size w0 eg R (by omega) (size + 1)
  have HK : Hid (k = 2) := hk2
  clear S hk2
  go_enter Tryz.func127, Tryz.ntmps127
  go_wp2_with fail
  go_loopw [7, 8] (fun va vb wr => ∃ (a : Nat) (dk : Array α), va = .int .i64 a ∧ vb = .int .i64 (a + 20) ∧ a ≤ size ∧ dk.size = size ∧ Aside (PermIn 0 size d dk) ∧ Aside (Ahead (ltOf cf) 20 a dk) ∧ Aside (SB enc k w0 blk off dk wr)) (fun va _ _ => size - (intOf va).toNat)
  case atStart => exact ⟨0, d, rfl, rfl, Nat.zero_le _, hs, permIn_refl _ _ _, Ahead.start _ _ (by omega), S0⟩
  case round =>
    clear S0
    obtain ⟨a, dk, rfl, rfl, ha, hds, PM, AH, S1⟩ := hrel
    by_cases hlt : a + 20 ≤ size
    · have hltz : (a : Int) + 20 ≤ (size : Int) := by omega
      have C1 := insertion_any enc k HK.out g cb cf blk off cap size a (a + 20) dk w0 wr eg R hds S1.out (by omega) hlt (by omega)
      rw [show ((a + 20 : Nat) : Int) = (a : Int) + 20 by omega] at C1
      have CC : Aside _ := C1
      clear C1
      have hi := insertionSort_holds hO dk a (a + 20) (by omega) (by omega)
      have HI : Aside _ := hi
      clear hi
      go_wp2_with fail
      refine Go.Calls.mono CC.out ?_
      rintro e w1 ⟨rfl, S2⟩
      have SS2 : Aside _ := S2
      clear S2 S1 CC
      go_wp2
      go_roundw
      case rel => exact ⟨a + 20, _, by go_num, by first | rfl | go_num, by omega, HI.out.1.1.trans hds, permIn_trans _ _ _ _ _ PM.out (permIn_mono _ _ _ _ _ _ (Nat.zero_le _) hlt (by omega) HI.out.1), AH.out.step HI.out.1 HI.out.2, SS2⟩
      case measure => simp [intOf]; omega
    · have hltz : ¬ (a : Int) + 20 ≤ (size : Int) := by omega
      have C1 := insertion_any enc k HK.out g cb cf blk off cap size a size dk w0 wr eg R hds S1.out ha (Nat.le_refl _) (by omega)
      have CC : Aside _ := C1
      clear C1
      have hi := insertionSort_holds hO dk a size ha (by omega)
      have HI : Aside _ := hi
      clear hi
      go_wp2_with fail
      refine Go.Calls.mono CC.out ?_
      rintro e w1 ⟨rfl, S2⟩
      have SS2 : Aside _ := S2
      clear S2 S1 CC
      have BL : Aside (Blocks (ltOf cf) 20 size (Sort.insertionSort (ltOf cf) dk a size)) := by
        refine Ahead.done ⟨AH.out.1, fun p hp => sorted_keep (AH.out.2 p hp) HI.out.1 (Or.inl hp)⟩ (by omega) HI.out.2
      have PM1 : Aside (PermIn 0 size d (Sort.insertionSort (ltOf cf) dk a size)) := permIn_trans _ _ _ _ _ PM.out (permIn_mono _ _ _ _ _ _ (Nat.zero_le _) (Nat.le_refl _) (by omega) HI.out.1)
      generalize Sort.insertionSort (ltOf cf) dk a size = d1 at BL PM1 SS2 HI
      clear HI AH PM
      go_wp2_with fail
      go_loopw [6, 7, 8, 9] (fun vs _ _ _ wr => ∃ (bs : Nat) (dk : Array α), vs = .int .i64 bs ∧ 0 < bs ∧ (bs ≤ 20 ∨ bs ≤ 2 * size) ∧ dk.size = size ∧ Aside (PermIn 0 size d dk) ∧ Aside (Blocks (ltOf cf) bs size dk) ∧ Aside (SB enc k w0 blk off dk wr)) (fun vs _ _ _ _ => size - (intOf vs).toNat)
      case atStart => exact ⟨20, d1, rfl, by omega, Or.inl (Nat.le_refl _), PM1.out.1.trans hs, PM1, BL, SS2⟩
      case round =>
        clear SS2 BL PM1
        obtain ⟨bs, dk, rfl, hb0, hb1, hds, PM, BL, S1⟩ := hrel
        by_cases hbn : bs < size
        · have hbz : (bs : Int) < (size : Int) := by omega
          go_wp2_with fail
          go_loopw [7, 8] (fun va vb wr => ∃ (a : Nat) (dk : Array α), va = .int .i64 a ∧ vb = .int .i64 (a + 2 * bs) ∧ a ≤ size ∧ dk.size = size ∧ Aside (PermIn 0 size d dk) ∧ Aside (Ahead (ltOf cf) (2 * bs) a dk) ∧ Aside (Rest (ltOf cf) bs a size dk) ∧ Aside (SB enc k w0 blk off dk wr)) (fun va _ _ => size - (intOf va).toNat)
          case atStart => exact ⟨0, dk, rfl, by first | rfl | go_num | (congr 1; omega), Nat.zero_le _, hds, PM, Ahead.start _ _ (by omega), Rest.start BL.out, S1⟩
          case round =>
            clear S1 BL PM
            obtain ⟨a, dj, rfl, rfl, ha, hdj, PM, AH, RE, S1⟩ := hrel
            by_cases hlt : a + 2 * bs ≤ size
            · have hltz : (a : Int) + 2 * (bs : Int) ≤ (size : Int) := by omega
              have C1 := IH a (a + bs) (a + 2 * bs) dj _ (by omega) hdj S1.out (by omega) (by omega) hlt (by have h := RE.out.first; rw [show min (a + bs) size = a + bs by omega] at h; exact h) (by have h := RE.out.second; rw [show min (a + 2 * bs) size = a + 2 * bs by omega] at h; exact h)
              rw [show ((a + bs : Nat) : Int) = (a : Int) + (bs : Int) by omega, show ((a + 2 * bs : Nat) : Int) = (a : Int) + 2 * (bs : Int) by omega] at C1
              have CC : Aside _ := C1
              clear C1
              go_wp2_with fail
              refine Go.Calls.mono CC.out ?_
              rintro e w2 ⟨rfl, d2, P2, O2, S2⟩
              have SS2 : Aside _ := S2
              have PP2 : Aside _ := P2
              have OO2 : Aside (SortedIn (ltOf cf) a (a + 2 * bs) d2) := O2
              clear S2 S1 CC P2 O2
              go_wp2
              go_roundw
              case rel => exact ⟨a + 2 * bs, d2, by first | rfl | go_num | (congr 1; omega), by first | rfl | go_num | (congr 1; omega), by omega, PP2.out.1.trans hdj, permIn_trans _ _ _ _ _ PM.out (permIn_mono _ _ _ _ _ _ (Nat.zero_le _) hlt (by omega) PP2.out), AH.out.step PP2.out OO2.out, RE.out.step PP2.out, SS2⟩
              case measure => simp [intOf]; omega
            · have hltz : ¬ (a : Int) + 2 * (bs : Int) ≤ (size : Int) := by omega
              by_cases hm : a + bs < size
              · have hmz : (a : Int) + (bs : Int) < (size : Int) := by omega
                have C1 := IH a (a + bs) size dj _ (by omega) hdj S1.out (by omega) hm (Nat.le_refl _) (by have h := RE.out.first; rw [show min (a + bs) size = a + bs by omega] at h; exact h) (by have h := RE.out.second; rw [show min (a + 2 * bs) size = size by omega] at h; exact h)
                rw [show ((a + bs : Nat) : Int) = (a : Int) + (bs : Int) by omega] at C1
                have CC : Aside _ := C1
                clear C1
                go_wp2_with fail
                refine Go.Calls.mono CC.out ?_
                rintro e w2 ⟨rfl, d2, P2, O2, S2⟩
                have SS2 : Aside _ := S2
                have PP2 : Aside _ := P2
                have OO2 : Aside (SortedIn (ltOf cf) a size d2) := O2
                clear S2 S1 CC P2 O2
                go_wp2
                go_roundw
                case rel => exact ⟨2 * bs, d2, by first | rfl | go_num | (congr 1; omega), by omega, by omega, PP2.out.1.trans hdj, permIn_trans _ _ _ _ _ PM.out (permIn_mono _ _ _ _ _ _ (Nat.zero_le _) (Nat.le_refl _) (by omega) PP2.out), Ahead.done ⟨AH.out.1, fun p hp => sorted_keep (AH.out.2 p hp) PP2.out (Or.inl hp)⟩ (by omega) OO2.out, SS2⟩
                case measure => simp [intOf]; omega
              · have hmz : ¬ (a : Int) + (bs : Int) < (size : Int) := by omega
                go_wp2
                go_roundw
                case rel => exact ⟨2 * bs, dj, by first | rfl | go_num | (congr 1; omega), by omega, by omega, hdj, PM, Ahead.done AH.out (by omega) (by have h := RE.out.first; rw [show min (a + bs) size = size by omega] at h; exact h), S1⟩
                case measure => simp [intOf]; omega
        · have hbz : ¬ (bs : Int) < (size : Int) := by omega
          go_wp2
          go_end0
          exact ⟨rfl, dk, PM.out, blocks_all BL.out (by omega), S1.out⟩

set_option maxRecDepth 1000000 in
set_option maxHeartbeats 4000000 in
theorem sortStable_any (enc : α → List Value) (k : Nat) (hk2 : k = 2) (g : Nat) (cb : Array Value) (cf : α → α → Int) (hO : SWO (ltOf cf)) (blk off cap size : Nat) (d : Array α) (w0 w : World)
    (eg : ∀ args w, (callFunc g args).run Tryz.prog w = .ok (.enter g args) w)
    (R : RowB Tryz.prog enc k g cb cf w0 blk off size) (hs : d.size = size) (S : SB enc k w0 blk off d w) (hsz : size < 1152921504606846976) :
    Calls Tryz.prog 89 #[.slice (some ⟨blk, off, none⟩) size cap, .func (.func g) #[] cb] w fun e w' =>
      e = .returned (.tuple #[]) ∧ ∃ d', PermIn 0 size d d' ∧ SortedIn (ltOf cf) 0 size d' ∧ SB enc k w0 blk off d' w' := by
  have CC : Aside _ := stable_any enc k hk2 g cb cf hO blk off cap size d w0 w eg R hs S hsz
  clear S hk2
  go_enter Tryz.func89, Tryz.ntmps89
  go_wp2_with fail
  refine Go.Calls.mono CC.out ?_
  rintro e w1 ⟨rfl, d2, P2, O2, S2⟩
  have SS2 : Aside _ := S2
  have PP2 : Aside _ := P2
  have OO2 : Aside (SortedIn (ltOf cf) 0 size d2) := O2
  clear S2 CC P2 O2
  go_wp2
  go_end0
  exact ⟨rfl, d2, PP2.out, OO2.out, SS2.out⟩

end Go.Proofs.YthhbbmebfmfgjaaGreatDoor
