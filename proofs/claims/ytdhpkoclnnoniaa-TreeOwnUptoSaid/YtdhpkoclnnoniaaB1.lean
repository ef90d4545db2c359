/- The contract of metric.Check. Condition: the argument is of its kinds. -/
import Derived.Test.YtdhpkoclnnoniaaT
import Derived.WalkSpells
namespace Go.Proofs.Ytdhpkoclnnoniaa
open Go.RowKit Go.Opk

theorem good_succ {t : Opl.Tab} {b r : Nat} (h : ∀ j, j < r → t.good b j = true) (g : t.good b r = true) : ∀ j, j < r + 1 → t.good b j = true := fun j hj => by
  by_cases e : j = r
  · rw [e]; exact g
  · exact h j (by omega)
theorem row_all {t : Opl.Tab} {b : Nat} (h : ∀ j, j < 16 → t.good b j = true) : t.row b = true := by
  simp only [Opl.Tab.row, List.all_eq_true, List.mem_range]
  exact h
theorem err_bad {t : Opl.Tab} (b r : Nat) (hb : b < 2) (hr : r < 16) (h : t.good b r = false) : t.err = 100 := by
  have : t.row b = false := by
    by_cases e : t.row b = true
    · simp only [Opl.Tab.row, List.all_eq_true, List.mem_range] at e
      rw [e r hr] at h; cases h
    · simpa using e
  have h2 : b = 0 ∨ b = 1 := by omega
  rcases h2 with rfl | rfl <;> simp [Opl.Tab.err, Opl.Tab.ok, this]

set_option maxHeartbeats 2000000 in
set_option maxRecDepth 100000 in
theorem check_tab (t : Opl.Tab) (hf : t.Fits) (w : World) :
    Calls Try.prog 23 #[tabV t] w fun e w' => e = .returned (.int .i64 t.err) ∧ Below w.heap.size w w' := by
  obtain ⟨l0, l1, m0, m1⟩ := hf
  simp only [tabV]
  by_cases a1 : t.lev < 2
  · have E : Hid (t.err = 100) := by show _ = _; simp [Opl.Tab.err, Opl.Tab.ok]; omega
    rw [E.out]
    go_enter Try.func23, Try.ntmps23
    clear m0 m1
    go_wp2_with fail
    go_ret
    exact ⟨rfl, (Below.refl _ _).alloc (Nat.le_refl _) _⟩
  by_cases a2 : 16 < t.lev
  · have E : Hid (t.err = 100) := by show _ = _; simp [Opl.Tab.err, Opl.Tab.ok]; omega
    rw [E.out]
    go_enter Try.func23, Try.ntmps23
    clear m0 m1
    go_wp2_with fail
    go_ret
    exact ⟨rfl, (Below.refl _ _).alloc (Nat.le_refl _) _⟩
  have A : Hid (2 ≤ t.lev ∧ t.lev ≤ 16) := ⟨by omega, by omega⟩
  go_enter Try.func23, Try.ntmps23
  have M0 := Lib.hid m0
  have M1 := Lib.hid m1
  clear m0 m1
  go_wp2_with fail
  refine wp_loop_rounds 3 ?_
  rw [rounds_succ]
  go_wp2_with fail
  go_loop [21] (fun i => ∃ r : Nat, r ≤ 16 ∧ i = .int .i64 r ∧ Hid (∀ j, j < r → t.good 0 j = true)) (fun i => 16 - (intOf i).toNat)
  case atStart => exact ⟨0, by omega, rfl, fun j h => by omega⟩
  case round =>
    obtain ⟨r, hr, rfl, hg⟩ := hrel
    by_cases hlt : r < 16
    · by_cases c1 : t.m 0 r < -4096
      · have E : Hid (t.err = 100) := err_bad 0 r (by omega) hlt (by simp [Opl.Tab.good]; omega)
        go_wp2_with fail
        go_ret
        exact ⟨by rw [E.out]; rfl, bel2 _ _ _⟩
      by_cases c2 : 4096 < t.m 0 r
      · have E : Hid (t.err = 100) := err_bad 0 r (by omega) hlt (by simp [Opl.Tab.good]; omega)
        go_wp2_with fail
        go_ret
        exact ⟨by rw [E.out]; rfl, bel2 _ _ _⟩
      by_cases c3 : (r : Int) < t.lev
      · have G : Hid (t.good 0 r = true) := by show _ = _; simp [Opl.Tab.good]; omega
        go_wp2_with fail
        go_round
        case rel => exact ⟨r + 1, by omega, by go_num, good_succ hg.out G.out⟩
        case measure => simp [intOf]; omega
      by_cases c4 : t.m 0 r = 0
      · have G : Hid (t.good 0 r = true) := by show _ = _; simp [Opl.Tab.good]; omega
        have c5 : (t.m 0 r != 0) = false := by rw [c4]; rfl
        clear c4
        go_wp2_with fail
        go_round
        case rel => exact ⟨r + 1, by omega, by go_num, good_succ hg.out G.out⟩
        case measure => simp [intOf]; omega
      · have E : Hid (t.err = 100) := err_bad 0 r (by omega) hlt (by simp [Opl.Tab.good, c4]; omega)
        have c5 : (t.m 0 r != 0) = true := by simp [c4]
        clear c4
        go_wp2_with fail
        go_ret
        exact ⟨by rw [E.out]; rfl, bel2 _ _ _⟩
    · obtain rfl : r = 16 := by omega
      have R0 : Hid (t.row 0 = true) := row_all hg.out
      clear hg
      go_wp2_with fail
      rw [rounds_succ]
      go_wp2_with fail
      go_loop [21] (fun i => ∃ r : Nat, r ≤ 16 ∧ i = .int .i64 r ∧ Hid (∀ j, j < r → t.good 1 j = true)) (fun i => 16 - (intOf i).toNat)
      case atStart => exact ⟨0, by omega, rfl, fun j h => by omega⟩
      case round =>
        obtain ⟨r, hr, rfl, hg⟩ := hrel
        by_cases hlt : r < 16
        · by_cases c1 : t.m 1 r < -4096
          · have E : Hid (t.err = 100) := err_bad 1 r (by omega) hlt (by simp [Opl.Tab.good]; omega)
            go_wp2_with fail
            go_ret
            exact ⟨by rw [E.out]; rfl, bel3 _ _ _ _⟩
          by_cases c2 : 4096 < t.m 1 r
          · have E : Hid (t.err = 100) := err_bad 1 r (by omega) hlt (by simp [Opl.Tab.good]; omega)
            go_wp2_with fail
            go_ret
            exact ⟨by rw [E.out]; rfl, bel3 _ _ _ _⟩
          by_cases c3 : (r : Int) < t.lev
          · have G : Hid (t.good 1 r = true) := by show _ = _; simp [Opl.Tab.good]; omega
            go_wp2_with fail
            go_round
            case rel => exact ⟨r + 1, by omega, by go_num, good_succ hg.out G.out⟩
            case measure => simp [intOf]; omega
          by_cases c4 : t.m 1 r = 0
          · have G : Hid (t.good 1 r = true) := by show _ = _; simp [Opl.Tab.good]; omega
            have c5 : (t.m 1 r != 0) = false := by rw [c4]; rfl
            clear c4
            go_wp2_with fail
            go_round
            case rel => exact ⟨r + 1, by omega, by go_num, good_succ hg.out G.out⟩
            case measure => simp [intOf]; omega
          · have E : Hid (t.err = 100) := err_bad 1 r (by omega) hlt (by simp [Opl.Tab.good, c4]; omega)
            have c5 : (t.m 1 r != 0) = true := by simp [c4]
            clear c4
            go_wp2_with fail
            go_ret
            exact ⟨by rw [E.out]; rfl, bel3 _ _ _ _⟩
        · obtain rfl : r = 16 := by omega
          have R1 : Hid (t.row 1 = true) := row_all hg.out
          clear hg
          go_wp2_with fail
          rw [rounds_succ]
          go_wp2_with fail
          go_ret
          exact ⟨by rw [show t.err = 0 from by simp [Opl.Tab.err, Opl.Tab.ok, A.out, R0.out, R1.out]]; rfl, bel3 _ _ _ _⟩
end Go.Proofs.Ytdhpkoclnnoniaa
