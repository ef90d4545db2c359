/- The contract of score.Check. Conditions: the argument is of its kinds; its window lies in memory. -/
import Derived.Test.YtdhpkoclnnoniaaB2
import Derived.Test.YtdhpkoclnnoniaaB3
import Derived.Deep.RegionHeld3
namespace Go.Proofs.Ytdhpkoclnnoniaa
open Go.RowKit Go.Opk

abbrev probV (c : Opl.Code) (t : Opl.Tab) (L : Int) (sv : Value) : Value := .agg (probC c t L sv)
/-- a window that lies in memory -/
def WinAt (W : World) (a : Option Addr) (n : Nat) (lv : Nat → Nat) : Prop := n = 0 ∨ ∃ b off, a = some ⟨b, off, none⟩ ∧ b < W.heap.size ∧ LevAt W b off n lv
theorem WinAt.below {W w1 : World} {a : Option Addr} {n : Nat} {lv : Nat → Nat} (h : WinAt W a n lv) (hb : Below W.heap.size W w1) : WinAt w1 a n lv := by
  rcases h with h | ⟨b, off, rfl, hlt, hl⟩
  · exact .inl h
  · exact .inr ⟨b, off, rfl, Nat.lt_of_lt_of_le hlt hb.size, hl.below hb hlt⟩

set_option maxRecDepth 100000 in
theorem steps_any (c : Opl.Code) (t : Opl.Tab) (L : Int) (sv : Value) (w : World) (k0 : 3 ≤ c.K) (k1 : c.K ≤ 32) (l0 : 1 ≤ L) (l1 : L ≤ 1024) :
    Calls Try.prog 24 #[probV c t L sv] w fun e w' => e = .returned (.int .i64 (L + c.K - 1)) ∧ w.alloc (.cells (probC c t L sv) 32) = w' := by
  go_enter Try.func24, Try.ntmps24
  go_wp2_with fail
  go_ret
  exact ⟨rfl, rfl⟩

theorem checkS_code (p : Opl.Prob) (hf : p.Fits) (a : Option Addr) (cap : Nat) (w : World) (h : p.c.err ≠ 0) :
    Calls Try.prog 12 #[probV p.c p.t p.L (.slice a p.n cap)] w fun e w' => e = .returned (.int .i64 p.err) ∧ Below w.heap.size w w' := by
  have E : Hid (p.err = p.c.err) := by show _ = _; simp [Opl.Prob.err, h]
  have b : (p.c.err != 0) = true := by simpa using h
  have HF := Lib.hid hf
  clear h hf
  go_enter Try.func12, Try.ntmps12
  go_wp2_with (go_at_call 22; refine (check_code p.c HF.out.c _).mono ?_; rintro e w1 ⟨rfl, hb1⟩)
  go_ret
  exact ⟨by rw [E.out]; rfl, (bel1 _ _).trans (hb1.mono (by simp))⟩

theorem checkS_tab (p : Opl.Prob) (hf : p.Fits) (a : Option Addr) (cap : Nat) (w : World) (hc : p.c.err = 0) (h : p.t.err ≠ 0) :
    Calls Try.prog 12 #[probV p.c p.t p.L (.slice a p.n cap)] w fun e w' => e = .returned (.int .i64 p.err) ∧ Below w.heap.size w w' := by
  have E : Hid (p.err = p.t.err) := by show _ = _; simp [Opl.Prob.err, h, hc]
  have b : (p.t.err != 0) = true := by simpa using h
  have HF := Lib.hid hf
  clear h hf
  go_enter Try.func12, Try.ntmps12
  go_wp2_with (first | (go_at_call 22; refine (check_code p.c HF.out.c _).mono ?_; rintro e w1 ⟨rfl, hb1⟩; obtain ⟨c1, c2, c3, c4⟩ := bfacts hb1; simp only [World.size_alloc] at c1 c2 c3 c4) | (go_at_call 23; refine (check_tab p.t HF.out.t _).mono ?_; rintro e w2 ⟨rfl, hb2⟩))
  go_ret
  exact ⟨by rw [E.out]; rfl, ((bel1 _ _).trans (hb1.mono (by simp))).trans (hb2.mono (by have := hb1.size; simp at this; omega))⟩

theorem checkS_len (p : Opl.Prob) (hf : p.Fits) (a : Option Addr) (cap : Nat) (w : World) (hc : p.c.err = 0) (ht : p.t.err = 0) (h : ¬ (1 ≤ p.L ∧ p.L ≤ 1024)) :
    Calls Try.prog 12 #[probV p.c p.t p.L (.slice a p.n cap)] w fun e w' => e = .returned (.int .i64 p.err) ∧ Below w.heap.size w w' := by
  have E : Hid (p.err = 1) := by show _ = _; simp [Opl.Prob.err, h, hc, ht]
  have HF := Lib.hid hf
  have HC := Lib.hid hc
  have HT := Lib.hid ht
  clear hf hc ht
  by_cases h1 : p.L < 1
  rotate_left
  have h2 : 1024 < p.L := by omega
  rotate_left
  all_goals
    clear h
    go_enter Try.func12, Try.ntmps12
    go_wp2_with (first | (go_at_call 22; refine (check_code p.c HF.out.c _).mono ?_; rintro e w1 ⟨rfl, hb1⟩; simp only [HC.out]; obtain ⟨c1, c2, c3, c4⟩ := bfacts hb1; simp only [World.size_alloc] at c1 c2 c3 c4; have hz := hb1.size; simp only [World.size_alloc] at hz; have hz0 : w.heap.size < w1.heap.size := by omega) | (go_at_call 23; refine (check_tab p.t HF.out.t _).mono ?_; rintro e w2 ⟨rfl, hb2⟩; simp only [HT.out]; obtain ⟨d1, d2, d3, d4⟩ := bfacts hb2; have hz2 := hb2.size; have hz1 : w.heap.size < w2.heap.size := by omega))
    go_ret
    exact ⟨by rw [E.out]; rfl, ((bel1 _ _).trans (hb1.mono (by simp))).trans (hb2.mono (by omega))⟩

theorem keepP {w W : World} {c : Opl.Code} {t : Opl.Tab} {L : Int} {sv : Value} {b : Nat} (h1 : blk W b = probC c t L sv) (h2 : b < W.heap.size) (h3 : Below w.heap.size w W) :
    blk W b = probC c t L sv ∧ W.cell? ⟨b, 39, none⟩ = some sv ∧ W.cell? ⟨b, 1, none⟩ = some (.int .i64 c.R) ∧ b < W.heap.size ∧ Below w.heap.size w W :=
  ⟨h1, by rw [cell_blk, h1, probC_39], by rw [cell_blk, h1, probC_1], h2, h3⟩
theorem cellP5 {W : World} {c : Opl.Code} {t : Opl.Tab} {L : Int} {sv : Value} {b : Nat} (h1 : blk W b = probC c t L sv) : W.cell? ⟨b, 5, none⟩ = some (.int .i64 t.lev) := by rw [cell_blk, h1, probC_5]
theorem keepP_alloc {w W : World} {c : Opl.Code} {t : Opl.Tab} {L : Int} {sv : Value} {b : Nat} (h : blk W b = probC c t L sv ∧ W.cell? ⟨b, 39, none⟩ = some sv ∧ W.cell? ⟨b, 1, none⟩ = some (.int .i64 c.R) ∧ b < W.heap.size ∧ Below w.heap.size w W) (o : Obj) :
    blk (W.alloc o) b = probC c t L sv ∧ (W.alloc o).cell? ⟨b, 39, none⟩ = some sv ∧ (W.alloc o).cell? ⟨b, 1, none⟩ = some (.int .i64 c.R) ∧ b < (W.alloc o).heap.size ∧ Below w.heap.size w (W.alloc o) :=
  keepP (by rw [blk_alloc_past o b h.2.2.2.1]; exact h.1) (by simp; omega) (h.2.2.2.2.alloc h.2.2.2.2.size _)

theorem low_false {p : Opl.Prob} {i : Nat} (hi : i < p.n) (h : p.t.lev ≤ (p.lv i : Int)) : p.low = false := by
  cases e : p.low with
  | false => rfl
  | true =>
    simp only [Opl.Prob.low, List.all_eq_true, List.mem_range, decide_eq_true_eq] at e
    have := e i hi
    omega
theorem low_true {p : Opl.Prob} (h : ∀ i, i < p.n → (p.lv i : Int) < p.t.lev) : p.low = true := by
  simp only [Opl.Prob.low, List.all_eq_true, List.mem_range, decide_eq_true_eq]
  exact h

set_option maxHeartbeats 1000000 in
theorem checkS_shape (p : Opl.Prob) (hf : p.Fits) (a : Option Addr) (cap : Nat) (w : World) (hw : WinAt w a p.n p.lv) (hc : p.c.err = 0) (ht : p.t.err = 0) (l0 : 1 ≤ p.L) (l1 : p.L ≤ 1024) (hn : (p.n : Int) ≠ (p.L + p.c.K - 1) * p.c.R) :
    Calls Try.prog 12 #[probV p.c p.t p.L (.slice a p.n cap)] w fun e w' => e = .returned (.int .i64 p.err) ∧ Below w.heap.size w w' := by
  obtain ⟨k0, k1, r⟩ := Opl.Code.good_of hc
  have HG := Lib.hid (Opl.Tab.good_of ht)
  have HF := Lib.hid hf
  have HC := Lib.hid hc
  have HT := Lib.hid ht
  have HW := Lib.hid hw
  have l16 := HG.out.l1
  have E : Hid (p.err = 5) := by show _ = _; simp [Opl.Prob.err, hc, ht, l0, l1, hn]
  clear hf hc ht hw
  rcases r with r | r
  rotate_left
  all_goals
    rw [r] at hn
    have hn2 : ((p.n : Int) != (p.L + p.c.K - 1) * p.c.R) = true := by rw [r]; simpa using hn
    rw [r] at hn2
    have hwr : IntKind.i64.wrap ((p.L + p.c.K - 1) * p.c.R) = (p.L + p.c.K - 1) * p.c.R := IntWalk.i64_in _ (by rw [r]; omega)
    rw [r] at hwr
    go_enter Try.func12, Try.ntmps12
    go_wp2_with (first | (go_at_call 22; refine (check_code p.c HF.out.c _).mono ?_; rintro e w1 ⟨rfl, hb1⟩; simp only [HC.out]; obtain ⟨c1, c2, c3, c4⟩ := bfacts hb1; simp only [World.size_alloc] at c1 c2 c3 c4; have hz := hb1.size; simp only [World.size_alloc] at hz; have hz0 : w.heap.size < w1.heap.size := by omega) | (go_at_call 23; refine (check_tab p.t HF.out.t _).mono ?_; rintro e w2 ⟨rfl, hb2⟩; simp only [HT.out]; obtain ⟨d1, d2, d3, d4⟩ := bfacts hb2; have hz2 := hb2.size; have hz1 : w.heap.size < w2.heap.size := by omega))
    have hblk : blk w2 w.heap.size = probC p.c p.t p.L (.slice a p.n cap) := by simp [go_sem, d3, c3, hz0]
    have hbel : Below w.heap.size w w2 := ((bel1 _ _).trans (hb1.mono (by simp))).trans (hb2.mono (by omega))
    have N0 : Hid (0 ≤ (p.n : Int)) := by show _ ≤ _; omega
    go_region_held3 (fun w' => blk w' w.heap.size = probC p.c p.t p.L (.slice a p.n cap) ∧ w'.cell? ⟨w.heap.size, 39, none⟩ = some (.slice a p.n cap) ∧ w'.cell? ⟨w.heap.size, 1, none⟩ = some (.int .i64 p.c.R) ∧ w.heap.size < w'.heap.size ∧ Below w.heap.size w w') (first | exact keepP hblk hz1 hbel.drew | exact keepP_alloc ‹_› _ | go_keep)
      (first | (go_at_call 24; refine (steps_any p.c p.t p.L _ _ k0 k1 l0 l1).mono ?_; rintro e w3 ⟨rfl, rfl⟩))
    rename_i S4
    obtain ⟨s1, s2, s3, s4, s5⟩ := S4
    go_wp2_with fail
    go_ret
    exact ⟨by rw [E.out]; rfl, s5⟩

set_option maxHeartbeats 1000000 in
theorem checkS_win (p : Opl.Prob) (hf : p.Fits) (a : Option Addr) (cap : Nat) (w : World) (hw : WinAt w a p.n p.lv) (hc : p.c.err = 0) (ht : p.t.err = 0) (l0 : 1 ≤ p.L) (l1 : p.L ≤ 1024) (hn : (p.n : Int) = (p.L + p.c.K - 1) * p.c.R) :
    Calls Try.prog 12 #[probV p.c p.t p.L (.slice a p.n cap)] w fun e w' => e = .returned (.int .i64 p.err) ∧ Below w.heap.size w w' := by
  obtain ⟨k0, k1, r⟩ := Opl.Code.good_of hc
  have HG := Lib.hid (Opl.Tab.good_of ht)
  have HF := Lib.hid hf
  have HC := Lib.hid hc
  have HT := Lib.hid ht
  have HW := Lib.hid hw
  have l16 := HG.out.l1
  have E0 : Hid (p.low = true → p.err = 0) := by show _ → _; intro h; simp [Opl.Prob.err, hc, ht, l0, l1, ← hn, h]
  have E1 : Hid (p.low = false → p.err = 91) := by show _ → _; intro h; simp [Opl.Prob.err, hc, ht, l0, l1, ← hn, h]
  clear hf hc ht hw
  rcases r with r | r
  rotate_left
  all_goals
    rw [r] at hn
    have hn2 : ((p.n : Int) != (p.L + p.c.K - 1) * p.c.R) = false := by rw [r]; simpa using hn
    rw [r] at hn2
    have hwr : IntKind.i64.wrap ((p.L + p.c.K - 1) * p.c.R) = (p.L + p.c.K - 1) * p.c.R := IntWalk.i64_in _ (by rw [r]; omega)
    rw [r] at hwr
    have hn3 : 0 < p.n := by omega
    have hn4 : (p.n : Int) ≤ 3165 := by omega
    have HN := Lib.hid hn
    clear hn
    obtain ⟨b, off, rfl, hlt, hl⟩ := HW.out.resolve_left (by omega)
    have HL := Lib.hid hl
    clear HW hl
    go_enter Try.func12, Try.ntmps12
    go_wp2_with (first | (go_at_call 22; refine (check_code p.c HF.out.c _).mono ?_; rintro e w1 ⟨rfl, hb1⟩; simp only [HC.out]; obtain ⟨c1, c2, c3, c4⟩ := bfacts hb1; simp only [World.size_alloc] at c1 c2 c3 c4; have hz := hb1.size; simp only [World.size_alloc] at hz; have hz0 : w.heap.size < w1.heap.size := by omega) | (go_at_call 23; refine (check_tab p.t HF.out.t _).mono ?_; rintro e w2 ⟨rfl, hb2⟩; simp only [HT.out]; obtain ⟨d1, d2, d3, d4⟩ := bfacts hb2; have hz2 := hb2.size; have hz1 : w.heap.size < w2.heap.size := by omega))
    have hblk : blk w2 w.heap.size = probC p.c p.t p.L (.slice (some ⟨b, off, none⟩) p.n cap) := by simp [go_sem, d3, c3, hz0]
    have hbel : Below w.heap.size w w2 := ((bel1 _ _).trans (hb1.mono (by simp))).trans (hb2.mono (by omega))
    have N0 : Hid (0 ≤ (p.n : Int)) := by show _ ≤ _; omega
    go_region_held3 (fun w' => blk w' w.heap.size = probC p.c p.t p.L (.slice (some ⟨b, off, none⟩) p.n cap) ∧ w'.cell? ⟨w.heap.size, 39, none⟩ = some (.slice (some ⟨b, off, none⟩) p.n cap) ∧ w'.cell? ⟨w.heap.size, 1, none⟩ = some (.int .i64 p.c.R) ∧ w.heap.size < w'.heap.size ∧ Below w.heap.size w w') (first | exact keepP hblk hz1 hbel.drew | exact keepP_alloc ‹_› _ | go_keep)
      (first | (go_at_call 24; refine (steps_any p.c p.t p.L _ _ k0 k1 l0 l1).mono ?_; rintro e w3 ⟨rfl, rfl⟩))
    rename_i S4
    obtain ⟨s1, s2, s3, s4, s5⟩ := S4
    have LV := Lib.hid (HL.out.below s5 hlt)
    have s6 := cellP5 s1
    go_wp2_with fail
    go_loop [42] (fun i => ∃ k : Nat, k ≤ p.n ∧ i = .int .i64 k ∧ Hid (∀ j, j < k → (p.lv j : Int) < p.t.lev)) (fun i => p.n - (intOf i).toNat)
    case atStart => exact ⟨0, by omega, rfl, fun j h => by omega⟩
    case round =>
      obtain ⟨k, hk, rfl, hg⟩ := hrel
      by_cases hkt : k < p.n
      · have g1 := LV.out k hkt
        have v1 := HF.out.v k hkt
        by_cases hv : (p.lv k : Int) < p.t.lev
        · go_wp2_with fail
          go_round
          case rel => exact ⟨k + 1, by omega, by go_num, fun j hj => by
            by_cases e : j = k
            · rw [e]; exact hv
            · exact hg.out j (by omega)⟩
          case measure => simp [intOf]; omega
        · have E := Lib.hid (E1.out (low_false hkt (by omega)))
          clear E0 E1
          go_wp2_with fail
          go_ret
          exact ⟨by rw [E.out]; rfl, s5⟩
      · obtain rfl : k = p.n := by omega
        have E := Lib.hid (E0.out (low_true hg.out))
        clear E0 E1 hg
        go_wp2_with fail
        go_ret
        exact ⟨by rw [E.out]; rfl, s5⟩


/-- score.Check: of every problem whose window lies in memory: its error's number. -/
theorem check_prob (p : Opl.Prob) (hf : p.Fits) (a : Option Addr) (cap : Nat) (w : World) (hw : WinAt w a p.n p.lv) :
    Calls Try.prog 12 #[probV p.c p.t p.L (.slice a p.n cap)] w fun e w' => e = .returned (.int .i64 p.err) ∧ Below w.heap.size w w' := by
  by_cases hc : p.c.err = 0
  · by_cases ht : p.t.err = 0
    · by_cases hl : 1 ≤ p.L ∧ p.L ≤ 1024
      · by_cases hn : (p.n : Int) = (p.L + p.c.K - 1) * p.c.R
        · exact checkS_win p hf a cap w hw hc ht hl.1 hl.2 hn
        · exact checkS_shape p hf a cap w hw hc ht hl.1 hl.2 hn
      · exact checkS_len p hf a cap w hc ht hl
    · exact checkS_tab p hf a cap w hc ht
  · exact checkS_code p hf a cap w hc
end Go.Proofs.Ytdhpkoclnnoniaa
