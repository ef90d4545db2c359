/- outpostlaw01.ApartBytes of rows that lie apart, each as long as its block: it answers true. -/
import Derived.Test.YtdhpkoclnnoniaaD2
import Derived.Maps.AppendAt
import Derived.ArgAppend
namespace Go.Proofs.Ytdhpkoclnnoniaa
open Go.RowKit Go.Opk

/-- a place's mark -/
def mk (i j : Nat) : Int := IntKind.u8.wrap (31 * (i : Int) + 7 * (j : Int) + 1)
theorem mark_any (i j : Nat) (hi : i ≤ 1000000000000) (hj : j ≤ 1000000000000) (w : World) : Calls Try.prog 21 #[.int .i64 i, .int .i64 j] w fun e w' => e = .returned (.int .u8 (mk i j)) ∧ w = w' := by
  go_enter Try.func21, Try.ntmps21
  go_wp2_with fail
  go_ret
  exact ⟨rfl, rfl⟩

/-- N rows that lie apart -/
structure Apart (W : World) (rb N : Nat) (b n : Nat → Nat) : Prop where
  row : ∀ i, i < N → W.cell? ⟨rb, i, none⟩ = some (.slice (some ⟨b i, 0, none⟩) (n i) (n i))
  free : ∀ i, i < N → fre W (b i) = true
  size : ∀ i, i < N → (blk W (b i)).size = n i
  inj : ∀ i j, i < N → j < N → b i = b j → i = j
  ne : ∀ i, i < N → b i ≠ rb
  len : ∀ i, i < N → 1 ≤ n i ∧ n i ≤ 4096
theorem Apart.set {W : World} {rb N : Nat} {b n : Nat → Nat} (h : Apart W rb N b n) {i : Nat} (hi : i < N) (j : Nat) (v : Value) : Apart (W.setCell ⟨b i, j, none⟩ v) rb N b n :=
  ⟨fun k hk => by rw [cell_blk, blk_setCell, if_neg (Ne.symm (h.ne i hi)), ← cell_blk]; exact h.row k hk, fun k hk => by rw [fre_setCell]; exact h.free k hk,
    fun k hk => by
      rw [blk_setCell]
      split
      · rename_i e; rw [Array.size_setIfInBounds, h.size _ hi, h.inj _ _ hk hi e]
      · exact h.size _ hk, h.inj, h.ne, h.len⟩
theorem Apart.drewN {W : World} {rb N : Nat} {b n : Nat → Nat} (h : Apart W rb N b n) (k : Nat) : Apart (W.drewN k) rb N b n := ⟨h.row, h.free, h.size, h.inj, h.ne, h.len⟩

/-- what the marking has done: all rows before k, and j places of the next -/
def Marked (W : World) (b n : Nat → Nat) (k j : Nat) : Prop := (∀ i, i < k → ∀ t, t < n i → (blk W (b i))[t]? = some (.int .u8 (mk i t))) ∧ ∀ t, t < j → (blk W (b k))[t]? = some (.int .u8 (mk k t))
theorem Marked.next {W : World} {b n : Nat → Nat} {k : Nat} (h : Marked W b n k (n k)) : Marked W b n (k + 1) 0 :=
  ⟨fun i hi t ht => by
    by_cases e : i = k
    · subst e; exact h.2 t ht
    · exact h.1 i (by omega) t ht, fun t ht => absurd ht (Nat.not_lt_zero _)⟩
theorem Marked.set {W : World} {rb N : Nat} {b n : Nat → Nat} {k j : Nat} (h : Marked W b n k j) (ha : Apart W rb N b n) (hk : k < N) (hj : j < n k) : Marked (W.setCell ⟨b k, j, none⟩ (.int .u8 (mk k j))) b n k (j + 1) := by
  refine ⟨fun i hi t ht => ?_, fun t ht => ?_⟩
  · rw [blk_setCell, if_neg (fun e => by have := ha.inj _ _ (by omega) hk e; omega)]; exact h.1 i hi t ht
  · rw [blk_setCell, if_pos rfl]
    by_cases e : t = j
    · subst e; rw [Array.getElem?_setIfInBounds_self_of_lt (by rw [ha.size k hk]; exact hj)]
    · rw [Array.getElem?_setIfInBounds_ne (Ne.symm e)]; exact h.2 t (by omega)
theorem Marked.drewN {W : World} {b n : Nat → Nat} {k j : Nat} (h : Marked W b n k j) (m : Nat) : Marked (W.drewN m) b n k j := h

theorem Apart.lt {W : World} {rb N : Nat} {b n : Nat → Nat} (h : Apart W rb N b n) {i : Nat} (hi : i < N) : b i < W.heap.size := by
  have h1 := h.size i hi
  have h2 := h.len i hi
  rcases Nat.lt_or_ge (b i) W.heap.size with h | h
  · exact h
  · simp [blk, Array.getElem?_eq_none h] at h1; omega
theorem Apart.later {W W' : World} {rb N : Nat} {b n : Nat → Nat} (h : Apart W rb N b n) (hb : Below W.heap.size W W') : Apart W' rb N b n := by
  obtain ⟨c1, c2, c3, c4⟩ := bfacts hb
  exact ⟨fun i hi => by rw [c1 _ _ (World.block_lt_of_cell? _ _ (h.row i hi))]; exact h.row i hi, fun i hi => by rw [c4 _ (h.lt hi)]; exact h.free i hi, fun i hi => by rw [c3 _ (h.lt hi)]; exact h.size i hi, h.inj, h.ne, h.len⟩
theorem Marked.later {W W' : World} {rb : Nat} {b n : Nat → Nat} {k : Nat} (h : Marked W b n k 0) (ha : Apart W rb k b n) (hb : Below W.heap.size W W') : Marked W' b n k 0 := by
  obtain ⟨c1, c2, c3, c4⟩ := bfacts hb
  exact ⟨fun i hi t ht => by rw [c3 _ (ha.lt hi)]; exact h.1 i hi t ht, fun t ht => absurd ht (Nat.not_lt_zero _)⟩
def ApS (w : World) (B rb N : Nat) (b n : Nat → Nat) (k j : Nat) (W : World) : Prop := Apart W rb N b n ∧ Marked W b n k j ∧ Below B w W

theorem info8 : (Try.prog.info? 5).map (fun i => (i.zero, i.size, i.bytes)) = some (some (.int .u8 0), 1, 1) := by kernel_rfl
theorem ownsRow_mono {w : World} {B B' : Nat} {e : TypeId} {size : Nat} {v : Value} {n : Nat} {xs : List Value} (h : w.ownsRow B e size v n xs) (hb : B' ≤ B) : w.ownsRow B' e size v n xs := by
  refine ⟨h.1, ?_⟩
  rcases h.2 with hn | ⟨g, cap, cur, h1, h2, h3⟩
  · exact .inl hn
  · exact .inr ⟨g, cap, cur, h1, Nat.le_trans hb h2, h3⟩
set_option maxHeartbeats 2000000 in
set_option maxRecDepth 100000 in
theorem apart_any (w : World) (B rb N cap : Nat) (b n : Nat → Nat) (hA : Apart w rb N b n) (hN : N ≤ cap) (hN2 : N ≤ 1000000000) (hb : ∀ i, i < N → B ≤ b i) (hB0 : B ≤ w.heap.size) :
    Calls Try.prog 10 #[.slice (some ⟨rb, 0, none⟩) N cap] w fun e w' => e = .returned (.bool true) ∧ Below B w w' := by
  have HA := Lib.hid hA
  clear hA
  have HB := Lib.hid hb
  clear hb
  go_enter Try.func10, Try.ntmps10
  go_wp2_with fail
  go_loopw [3, 4] (fun i _ W => ∃ k : Nat, k ≤ N ∧ i = .int .i64 k ∧ ApS w B rb N b n k 0 W) (fun i _ _ => N - (intOf i).toNat)
  case atStart => exact ⟨0, Nat.zero_le _, rfl, HA.out, ⟨fun i hi => absurd hi (Nat.not_lt_zero _), fun i hi => absurd hi (Nat.not_lt_zero _)⟩, Below.refl _ _⟩
  case round =>
    obtain ⟨k, hk, rfl, hS⟩ := hrel
    by_cases hlt : k < N
    · have HS := Lib.hid hS
      clear hS
      go_wp2_with fail
      go_loopw [4] (fun j W => ∃ t : Nat, t ≤ n k ∧ j = .int .i64 t ∧ ApS w B rb N b n k t W) (fun j _ => n k - (intOf j).toNat)
      case atStart => exact ⟨0, Nat.zero_le _, rfl, HS.out⟩
      case round =>
        obtain ⟨t, ht, rfl, hS⟩ := hrel
        have row := hS.1.row k hlt
        have hlen := hS.1.len k hlt
        have hfree := hS.1.free k hlt
        have hne := hS.1.ne k hlt
        have hsize := hS.1.size k hlt
        have HS2 := Lib.hid hS
        clear hS
        by_cases hlt2 : t < n k
        · have hc := Array.getElem?_eq_getElem (xs := blk wr (b k)) (i := t) (by omega)
          rw [← cell_blk] at hc
          have hf := frozen_fre (j := t) hfree
          have bd1 : (0 : Int) ≤ t := by omega
          have bd2 : (t : Int) < (n k : Int) := by omega
          have bd3 : (0 : Int) ≤ k := by omega
          have bd4 : (k : Int) < (N : Int) := by omega
          go_wp2_with fail
          go_region_held3 (fun W => W.cell? ⟨rb, k, none⟩ = some (.slice (some ⟨b k, 0, none⟩) (n k) (n k))) (first | go_keep | (rw [cell_blk, blk_drew, blk_setCell, if_neg (Ne.symm hne), ← cell_blk]; exact row) | fail)
            (first | (go_at_call 21; refine (mark_any k t (by omega) (by omega) _).mono ?_; rintro e w3 ⟨rfl, rfl⟩) | fail)
          all_goals go_wp2_with fail
          all_goals go_roundw
          case rel => exact ⟨t + 1, by omega, by go_num, by
            have h1 := HS2.out.1.set hlt t (.int .u8 (mk k t))
            have h2 := HS2.out.2.1.set HS2.out.1 hlt hlt2
            have h3 := HS2.out.2.2.setCell (p := ⟨b k, t, none⟩) (HB.out k hlt) (.int .u8 (mk k t))
            exact ⟨h1.drewN 1, h2, h3.drew⟩⟩
          case measure => simp [intOf]; omega
        · have e : t = n k := by omega
          subst e
          go_wp2_with fail
          go_roundw
          case rel => exact ⟨k + 1, by omega, by go_num, HS2.out.1, HS2.out.2.1.next, HS2.out.2.2⟩
          case measure => simp [intOf]; omega
    · have e : k = N := by omega
      subst e
      have HS := Lib.hid hS
      clear hS hlt
      obtain ⟨w2, hw2⟩ : ∃ w2 : World, w2 = wr := ⟨_, rfl⟩
      rw [← hw2]
      rw [← hw2] at HS
      clear hw2
      obtain ⟨i0, hi, hz0, hz1, hz2⟩ := info_parts info8
      go_wp2_with fail
      go_loopw [5, 6, 7] (fun i _ _ W => ∃ q : Nat, q ≤ k ∧ i = .int .i64 q ∧ Below w2.heap.size w2 W) (fun i _ _ _ => k - (intOf i).toNat)
      case atStart => exact ⟨0, Nat.zero_le _, rfl, Below.refl _ _⟩
      case round =>
        obtain ⟨q, hq, rfl, hB⟩ := hrel
        by_cases hlt : q < k
        · have r0 := HS.out.1.row q hlt
          have bq : (b q) < w2.heap.size := by
            have h1 := HS.out.1.size q hlt
            have h2 := HS.out.1.len q hlt
            rcases Nat.lt_or_ge (b q) w2.heap.size with h | h
            · exact h
            · simp [blk, Array.getElem?_eq_none h] at h1; omega
          have brb : rb < w2.heap.size := World.block_lt_of_cell? _ _ r0
          have row := (hB.cell (p := ⟨rb, q, none⟩) brb).trans r0
          have HB2 := Lib.hid hB
          clear hB
          go_wp2_with fail
          go_loopw [6, 7] (fun v t W => ∃ j : Nat, j ≤ 40 ∧ t = .int .i64 j ∧ Below w2.heap.size w2 W ∧ ((j = 0 ∧ v = .slice (some ⟨b q, 0, none⟩) (n q) (n q)) ∨ (1 ≤ j ∧ ∃ xs, W.ownsRow w2.heap.size 5 1 v (n q + j) xs))) (fun _ t _ => 40 - (intOf t).toNat)
          case atStart => exact ⟨0, by omega, rfl, HB2.out, .inl ⟨rfl, rfl⟩⟩
          case round =>
            obtain ⟨j, hj, rfl, hB3, hv⟩ := hrel
            by_cases hj40 : j < 40
            · rcases hv with ⟨rfl, rfl⟩ | ⟨hj1, xs, hown⟩
              · have hbk : ∃ t, wr.heap[b q]? = some (.cells (blk w2 (b q)) t (0, 0)) := by
                  obtain ⟨t, ht⟩ := fre_block (HS.out.1.free q hlt)
                  exact ⟨t, (hB3.block _ bq).trans ht⟩
                obtain ⟨ty, hbk⟩ := hbk
                have hsz := HS.out.1.size q hlt
                have hl2 := HS.out.1.len q hlt
                have bqw : b q < wr.heap.size := Nat.lt_of_lt_of_le bq hB3.size
                have HB3 := Lib.hid hB3
                clear hB3
                have HBK := Lib.hid hbk
                clear hbk
                have C1 := Lib.hid (show ∀ a, some (⟨b q, 0, none⟩ : Addr) = some a → ∀ (i : Nat) (u : Value), (blk w2 (b q)).toList[i]? = some u → (wr.alloc (.cells #[.int .u8 254] 5)).cell? (a.add i) = some u from by
                  intro a ha i u hu
                  simp only [Option.some.injEq] at ha
                  subst ha
                  rw [Addr.add_lit, Nat.zero_add, cell_blk, blk_alloc_past _ _ bqw]
                  simp only [blk, HBK.out]
                  simpa [blk] using hu)
                have C2 := Lib.hid (show ∀ (i : Nat) (u : Value), [Value.int .u8 254][i]? = some u → (wr.alloc (.cells #[.int .u8 254] 5)).cell? ((⟨wr.heap.size, 0, none⟩ : Addr).add i) = some u from by
                  intro i u hu
                  cases i with
                  | zero => simp at hu; subst hu; simp [go_sem]
                  | succ i => simp at hu)
                go_wp2_with (refine wpList_append_grows _ rfl (.tmp 48) (.tmp 49) 30 rfl 5 i0 (.int .u8 0) 1 1 Try.underlying30 hi hz0 hz1 hz2 rfl (by decide) (some ⟨b q, 0, none⟩) (n q) (n q) (blk w2 (b q)).toList (by rfl) (by simp) (by simp [hsz]) C1.out ⟨wr.heap.size, 0, none⟩ 1 1 [.int .u8 254] (by rfl) rfl C2.out (by simp [Value.oneCell']) (by omega) (by unfold maxLen; omega) (by omega) ?_; intro v' w' hown' hgr)
                have hb4 : Below w2.heap.size w2 w' := (HB3.out.alloc HB3.out.size _).trans ((Below.refl _ _).grown hgr (by simp; have := HB3.out.size; omega) (by simp))
                have how := ownsRow_mono hown' (B' := w2.heap.size) (by simp; have := HB3.out.size; omega)
                go_wp2_with fail
                go_roundw
                case rel => exact ⟨1, by omega, by go_num, hb4, .inr ⟨by omega, _, how⟩⟩
                case measure => simp [intOf]
              · have hl2 := HS.out.1.len q hlt
                have C2 := Lib.hid (show ∀ (i : Nat) (u : Value), [Value.int .u8 254][i]? = some u → (wr.alloc (.cells #[.int .u8 254] 5)).cell? ((⟨wr.heap.size, 0, none⟩ : Addr).add i) = some u from by
                  intro i u hu
                  cases i with
                  | zero => simp at hu; subst hu; simp [go_sem]
                  | succ i => simp at hu)
                have HB3 := Lib.hid hB3
                have HO := Lib.hid (hown.alloc (.cells #[.int .u8 254] 5))
                have hbs := hB3.size
                clear hB3 hown
                go_wp2_with (refine wpList_append_own _ rfl (.tmp 48) (.tmp 49) 30 rfl w2.heap.size 5 i0 (.int .u8 0) 1 1 Try.underlying30 hi hz0 hz1 hz2 rfl (by decide) _ (n q + j) xs (by rfl) HO.out ⟨wr.heap.size, 0, none⟩ 1 1 [.int .u8 254] (by rfl) rfl C2.out (by simp [Value.oneCell']) (by unfold maxLen; omega) (by omega) (by simp; omega) ?_; intro v' w' hown' hgr _)
                have hb4 : Below w2.heap.size w2 w' := HB3.out.trans ((bel1 wr (.cells #[.int .u8 254] 5) |>.mono hbs).trans ((Below.refl _ _).grown hgr (by simp; omega) (fun k e => (HO.out.lt k (by first | exact e | exact e.symm)).1)))
                go_wp2_with fail
                go_roundw
                case rel => exact ⟨j + 1, by omega, by go_num, hb4, .inr ⟨by omega, _, hown'⟩⟩
                case measure => simp [intOf]; omega
            · have e : j = 40 := by omega
              subst e
              have HB3 := Lib.hid hB3
              clear hB3
              go_wp2_with fail
              go_roundw
              case rel => exact ⟨q + 1, by omega, by go_num, HB3.out⟩
              case measure => simp [intOf]; omega
        · have HB3 := Lib.hid hB
          have e : q = k := by omega
          subst e
          have HA3 := Lib.hid (HS.out.1.later HB3.out)
          have HM3 := Lib.hid (HS.out.2.1.later HS.out.1 HB3.out)
          have HW3 := Lib.hid (HS.out.2.2.trans (HB3.out.mono (Nat.le_trans hB0 HS.out.2.2.size)))
          clear hB hlt
          obtain ⟨w3, hw3⟩ : ∃ w3 : World, w3 = wr := ⟨_, rfl⟩
          rw [← hw3]
          rw [← hw3] at HA3 HM3 HW3
          clear hw3
          go_wp2_with fail
          go_loopw [8, 9] (fun i _ W => ∃ p d : Nat, p ≤ q ∧ i = .int .i64 p ∧ W = w3.drewN d) (fun i _ _ => q - (intOf i).toNat)
          case atStart => exact ⟨0, 0, Nat.zero_le _, rfl, rfl⟩
          case round =>
            obtain ⟨p, d, hp, rfl, rfl⟩ := hrel
            by_cases hlt : p < q
            · have r0 := HA3.out.row p hlt
              have hl2 := HA3.out.len p hlt
              go_wp2_with fail
              go_loopw [9] (fun j W => ∃ t d : Nat, t ≤ n p ∧ j = .int .i64 t ∧ W = w3.drewN d) (fun j _ => n p - (intOf j).toNat)
              case atStart => exact ⟨0, d, Nat.zero_le _, rfl, rfl⟩
              case round =>
                obtain ⟨t, d2, ht, rfl, hw4⟩ := hrel
                by_cases hlt2 : t < n p
                · have hm : wr.cell? ⟨b p, t, none⟩ = some (.int .u8 (mk p t)) := by rw [hw4]; show w3.cell? _ = _; rw [cell_blk]; exact HM3.out.1 p hlt t hlt2
                  have r1 : wr.cell? ⟨rb, p, none⟩ = some (.slice (some ⟨b p, 0, none⟩) (n p) (n p)) := by rw [hw4]; exact r0
                  have HW4 := Lib.hid hw4
                  clear hw4
                  have bd1 : (0 : Int) ≤ t := by omega
                  have bd2 : (t : Int) < (n p : Int) := by omega
                  have bd3 : (0 : Int) ≤ p := by omega
                  have bd4 : (p : Int) < (q : Int) := by omega
                  have bd5 := hlt2
                  go_wp2_with fail
                  go_quiet ((go_at_call 21; exact Calls.quiet_of_same ((mark_any p t (by omega) (by omega) _).mono fun e w h => ⟨h.1, h.2.symm⟩)))
                  go_wp2_with fail
                  go_roundw
                  case rel => exact ⟨t + 1, _, by omega, by go_num, by rw [HW4.out, World.drewN_drewN]⟩
                  case measure => simp [intOf]; omega
                · have e : t = n p := by omega
                  subst e
                  subst hw4
                  go_wp2_with fail
                  go_roundw
                  case rel => exact ⟨p + 1, d2, by omega, by go_num, rfl⟩
                  case measure => simp [intOf]; omega
            · have e : p = q := by omega
              subst e
              go_wp2_with fail
              go_ret
              exact ⟨rfl, bel_drewN HW3.out _⟩
end Go.Proofs.Ytdhpkoclnnoniaa
