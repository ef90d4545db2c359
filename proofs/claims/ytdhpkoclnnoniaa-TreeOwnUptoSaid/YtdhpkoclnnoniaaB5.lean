/- The contract of metric.Range, where nothing is wrong. Conditions: a good table, a rate, a number of steps. -/
import Derived.Test.YtdhpkoclnnoniaaB1
namespace Go.Proofs.Ytdhpkoclnnoniaa
open Go.RowKit Go.Opk

theorem mul_bd {x y : Int} (x0 : 0 ≤ x) (x1 : x ≤ 3165) (y0 : -4096 ≤ y) (y1 : y ≤ 4096) : -281474976710656 ≤ x * y ∧ x * y ≤ 281474976710656 := by
  have a : x * y ≤ x * 4096 := Int.mul_le_mul_of_nonneg_left y1 x0
  have b : x * (-4096) ≤ x * y := Int.mul_le_mul_of_nonneg_left y0 x0
  omega

set_option maxHeartbeats 2000000 in
set_option maxRecDepth 100000 in
theorem range_good (t : Opl.Tab) (hf : t.Fits) (ht : t.err = 0) (R N : Int) (hR : R = 2 ∨ R = 3) (n0 : 0 ≤ N) (n1 : N ≤ 1055) (w : World) :
    Calls Try.prog 13 #[tabV t, .int .i64 R, .int .i64 N] w fun e w' => e = .returned (.tuple #[.int .i64 (R * N * t.lo), .int .i64 (R * N * t.hi), .int .i64 0]) ∧ Below w.heap.size w w' := by
  have hg := Opl.Tab.good_of ht
  have HG := Lib.hid hg
  have HT := Lib.hid ht
  have HF := Lib.hid hf
  obtain ⟨l0, l1⟩ : 2 ≤ t.lev ∧ t.lev ≤ 16 := ⟨hg.l0, hg.l1⟩
  have e0 : ((R != 2) && (R != 3)) = false := by rcases hR with h | h <;> simp [h]
  have z0 := hg.m0 0 0 (by omega) (by omega)
  have z1 := hg.m1 0 0 (by omega) (by omega)
  have LO := Lib.hid (Opl.lo_bd hg)
  have HI := Lib.hid (Opl.hi_bd hg)
  clear hg ht hf
  obtain ⟨lv, hlv⟩ : ∃ lv : Nat, t.lev = lv := ⟨t.lev.toNat, by omega⟩
  have HLO : Hid (t.lo = Opl.rlo t 1 (Opl.rlo t 0 (t.m 0 0) lv) lv) := by show _ = _; simp [Opl.Tab.lo, hlv]
  have HHI : Hid (t.hi = Opl.rhi t 1 (Opl.rhi t 0 (t.m 0 0) lv) lv) := by show _ = _; simp [Opl.Tab.hi, hlv]
  have SL := fun W b => run_sliceAt_to (P := Try.prog) Try.underlying26 (sz := 1) (by kernel_rfl) .i64 b 0 lv (by omega) W
  rcases hR with rfl | rfl
  · clear e0
    have mlo : -281474976710656 ≤ 2 * N * (Opl.rlo t 1 (Opl.rlo t 0 (t.m 0 0) lv) lv) ∧ 2 * N * (Opl.rlo t 1 (Opl.rlo t 0 (t.m 0 0) lv) lv) ≤ 281474976710656 := by rw [← HLO.out]; exact mul_bd (by omega) (by omega) LO.out.1 LO.out.2
    have mhi : -281474976710656 ≤ 2 * N * (Opl.rhi t 1 (Opl.rhi t 0 (t.m 0 0) lv) lv) ∧ 2 * N * (Opl.rhi t 1 (Opl.rhi t 0 (t.m 0 0) lv) lv) ≤ 281474976710656 := by rw [← HHI.out]; exact mul_bd (by omega) (by omega) HI.out.1 HI.out.2
    go_enter Try.func13, Try.ntmps13
    go_wp2_with (go_at_call 23; refine (check_tab t HF.out _).mono ?_; rintro e w1 ⟨rfl, hb1⟩; simp only [HT.out]; obtain ⟨c1, c2, c3, c4⟩ := bfacts hb1; simp only [World.size_alloc] at c1 c2 c3 c4; have hz := hb1.size; simp only [World.size_alloc] at hz; have hz0 : w.heap.size < w1.heap.size := by omega)
    go_quiet (fail)
    go_wp2_with fail
    refine wp_loop_rounds 3 ?_
    rw [rounds_succ]
    go_wp2_with fail
    go_loop [50, 6, 7] (fun i x y => ∃ r : Nat, r ≤ lv ∧ i = .int .i64 r ∧ x = .int .i64 (Opl.rlo t 0 (t.m 0 0) r) ∧ y = .int .i64 (Opl.rhi t 0 (t.m 0 0) r)) (fun i _ _ => lv - (intOf i).toNat)
    case atStart => exact ⟨0, by omega, rfl, rfl, rfl⟩
    case round =>
      obtain ⟨r, hr, rfl, rfl, rfl⟩ := hrel
      by_cases hlt : r < lv
      · have g := rowC_get t 0 r (by omega)
        go_wp2_with fail
        go_round
        case rel =>
          refine ⟨r + 1, by omega, by go_num, ?_, ?_⟩
          · exact congrArg (Value.int .i64) (by simp only [Opl.rlo]; split <;> omega)
          · exact congrArg (Value.int .i64) (by simp only [Opl.rhi]; split <;> omega)
        case measure => simp [intOf]; omega
      · obtain rfl : lv = r := by omega
        go_wp2_with fail
        rw [rounds_succ]
        go_wp2_with fail
        go_loop [50, 6, 7] (fun i x y => ∃ r : Nat, r ≤ lv ∧ i = .int .i64 r ∧ x = .int .i64 (Opl.rlo t 1 (Opl.rlo t 0 (t.m 0 0) lv) r) ∧ y = .int .i64 (Opl.rhi t 1 (Opl.rhi t 0 (t.m 0 0) lv) r)) (fun i _ _ => lv - (intOf i).toNat)
        case atStart => exact ⟨0, by omega, rfl, rfl, rfl⟩
        case round =>
          obtain ⟨r, hr, rfl, rfl, rfl⟩ := hrel
          by_cases hlt : r < lv
          · have g := rowC_get t 1 r (by omega)
            go_wp2_with fail
            go_round
            case rel =>
              refine ⟨r + 1, by omega, by go_num, ?_, ?_⟩
              · exact congrArg (Value.int .i64) (by simp only [Opl.rlo]; split <;> omega)
              · exact congrArg (Value.int .i64) (by simp only [Opl.rhi]; split <;> omega)
            case measure => simp [intOf]; omega
          · obtain rfl : lv = r := by omega
            go_wp2_with fail
            rw [rounds_succ]
            go_wp2_with fail
            go_ret3
            rw [HLO.out, HHI.out]
            exact ⟨rfl, bel_drewN ((((bel1 _ _).trans (hb1.mono (by simp))).alloc (by omega) _).alloc (by simp; omega) _) _⟩
  · clear e0
    have mlo : -281474976710656 ≤ 3 * N * (Opl.rlo t 1 (Opl.rlo t 0 (t.m 0 0) lv) lv) ∧ 3 * N * (Opl.rlo t 1 (Opl.rlo t 0 (t.m 0 0) lv) lv) ≤ 281474976710656 := by rw [← HLO.out]; exact mul_bd (by omega) (by omega) LO.out.1 LO.out.2
    have mhi : -281474976710656 ≤ 3 * N * (Opl.rhi t 1 (Opl.rhi t 0 (t.m 0 0) lv) lv) ∧ 3 * N * (Opl.rhi t 1 (Opl.rhi t 0 (t.m 0 0) lv) lv) ≤ 281474976710656 := by rw [← HHI.out]; exact mul_bd (by omega) (by omega) HI.out.1 HI.out.2
    go_enter Try.func13, Try.ntmps13
    go_wp2_with (go_at_call 23; refine (check_tab t HF.out _).mono ?_; rintro e w1 ⟨rfl, hb1⟩; simp only [HT.out]; obtain ⟨c1, c2, c3, c4⟩ := bfacts hb1; simp only [World.size_alloc] at c1 c2 c3 c4; have hz := hb1.size; simp only [World.size_alloc] at hz; have hz0 : w.heap.size < w1.heap.size := by omega)
    go_quiet (fail)
    go_wp2_with fail
    refine wp_loop_rounds 3 ?_
    rw [rounds_succ]
    go_wp2_with fail
    go_loop [50, 6, 7] (fun i x y => ∃ r : Nat, r ≤ lv ∧ i = .int .i64 r ∧ x = .int .i64 (Opl.rlo t 0 (t.m 0 0) r) ∧ y = .int .i64 (Opl.rhi t 0 (t.m 0 0) r)) (fun i _ _ => lv - (intOf i).toNat)
    case atStart => exact ⟨0, by omega, rfl, rfl, rfl⟩
    case round =>
      obtain ⟨r, hr, rfl, rfl, rfl⟩ := hrel
      by_cases hlt : r < lv
      · have g := rowC_get t 0 r (by omega)
        go_wp2_with fail
        go_round
        case rel =>
          refine ⟨r + 1, by omega, by go_num, ?_, ?_⟩
          · exact congrArg (Value.int .i64) (by simp only [Opl.rlo]; split <;> omega)
          · exact congrArg (Value.int .i64) (by simp only [Opl.rhi]; split <;> omega)
        case measure => simp [intOf]; omega
      · obtain rfl : lv = r := by omega
        go_wp2_with fail
        rw [rounds_succ]
        go_wp2_with fail
        go_loop [50, 6, 7] (fun i x y => ∃ r : Nat, r ≤ lv ∧ i = .int .i64 r ∧ x = .int .i64 (Opl.rlo t 1 (Opl.rlo t 0 (t.m 0 0) lv) r) ∧ y = .int .i64 (Opl.rhi t 1 (Opl.rhi t 0 (t.m 0 0) lv) r)) (fun i _ _ => lv - (intOf i).toNat)
        case atStart => exact ⟨0, by omega, rfl, rfl, rfl⟩
        case round =>
          obtain ⟨r, hr, rfl, rfl, rfl⟩ := hrel
          by_cases hlt : r < lv
          · have g := rowC_get t 1 r (by omega)
            go_wp2_with fail
            go_round
            case rel =>
              refine ⟨r + 1, by omega, by go_num, ?_, ?_⟩
              · exact congrArg (Value.int .i64) (by simp only [Opl.rlo]; split <;> omega)
              · exact congrArg (Value.int .i64) (by simp only [Opl.rhi]; split <;> omega)
            case measure => simp [intOf]; omega
          · obtain rfl : lv = r := by omega
            go_wp2_with fail
            rw [rounds_succ]
            go_wp2_with fail
            go_ret3
            rw [HLO.out, HHI.out]
            exact ⟨rfl, bel_drewN ((((bel1 _ _).trans (hb1.mono (by simp))).alloc (by omega) _).alloc (by simp; omega) _) _⟩
end Go.Proofs.Ytdhpkoclnnoniaa
