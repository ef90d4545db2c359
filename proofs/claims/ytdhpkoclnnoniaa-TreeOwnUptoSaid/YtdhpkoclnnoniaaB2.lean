/- The contracts of metric.fault and metric.Branch, where nothing is wrong. Conditions: a good table, levels and symbols in their ranges. -/
import Derived.Test.YtdhpkoclnnoniaaB1
namespace Go.Proofs.Ytdhpkoclnnoniaa
open Go.RowKit Go.Opk

/-- levels that lie in memory -/
def LevAt (W : World) (b off n : Nat) (lv : Nat → Nat) : Prop := ∀ i, i < n → W.cell? ⟨b, off + i, none⟩ = some (.int .u8 (lv i))

set_option maxRecDepth 100000 in
theorem fault_good (t : Opl.Tab) (ht : t.Good) (b off n c : Nat) (y lv : Nat → Nat) (w : World) (hn : n ≤ 3) (hb : b < w.heap.size) (hl : LevAt w b off n lv) (hlv : ∀ i, i < n → (lv i : Int) < t.lev) (hy : ∀ i, i < n → y i < 2) :
    Calls Try.prog 27 #[tabV t, .slice (some ⟨b, off, none⟩) n c, .agg (symC y)] w fun e w' => e = .returned (.int .i64 2) ∧ Below w.heap.size w w' := by
  obtain ⟨l0, l1, m0, m1⟩ := ht
  have HL := Lib.hid hlv
  have HY := Lib.hid hy
  clear m0 m1 hlv hy
  go_enter Try.func27, Try.ntmps27
  go_wp2_with fail
  go_loop [12] (fun i => ∃ k : Nat, k ≤ n ∧ i = .int .i64 k) (fun i => n - (intOf i).toNat)
  case atStart => exact ⟨0, by omega, rfl⟩
  case round =>
    obtain ⟨k, hk, rfl⟩ := hrel
    by_cases hlt : k < n
    · have g1 := hl k hlt
      have g2 := HL.out k hlt
      have g3 : (0 : Int) ≤ lv k := by omega
      go_wp2_with fail
      go_round
      case rel => exact ⟨k + 1, by omega, by go_num⟩
      case measure => simp [intOf]; omega
    · go_wp2_with fail
      go_loop [24] (fun i => ∃ k : Nat, k ≤ n ∧ i = .int .i64 k) (fun i => n - (intOf i).toNat)
      case atStart => exact ⟨0, by omega, rfl⟩
      case round =>
        obtain ⟨j, hj, rfl⟩ := hrel
        by_cases hjt : j < n
        · have g4 := symC_get y j (by omega)
          have g2 : ((y j : Nat) : Int) ≤ 1 := by have := HY.out j hjt; omega
          go_wp2_with fail
          go_round
          case rel => exact ⟨j + 1, by omega, by go_num⟩
          case measure => simp [intOf]; omega
        · go_wp2_with fail
          go_ret
          exact ⟨rfl, bel2 _ _ _⟩

theorem LevAt.below {W w1 : World} {b off n B : Nat} {lv : Nat → Nat} (h : LevAt W b off n lv) (hb : Below B W w1) (hB : b < B) : LevAt w1 b off n lv := fun i hi => (hb.cell (p := ⟨b, off + i, none⟩) hB).trans (h i hi)

set_option maxRecDepth 100000 in
theorem branch_good (t : Opl.Tab) (hf : t.Fits) (ht : t.err = 0) (R : Int) (hR : R = 2 ∨ R = 3) (b off n c : Nat) (hnR : (n : Int) = R) (y lv : Nat → Nat) (w : World) (hb : b < w.heap.size) (hl : LevAt w b off n lv) (hlv : ∀ i, i < n → (lv i : Int) < t.lev) (hy : ∀ i, i < n → y i < 2) :
    Calls Try.prog 16 #[tabV t, .int .i64 R, .slice (some ⟨b, off, none⟩) n c, .agg (symC y)] w fun e w' => e = .returned (.tuple #[.int .i64 (Opl.bsum t y lv n), .int .i64 0]) ∧ Below w.heap.size w w' := by
  have hg := Opl.Tab.good_of ht
  have HG := Lib.hid hg
  have HL := Lib.hid hlv
  have HY := Lib.hid hy
  have HT := Lib.hid ht
  have HLV := Lib.hid hl
  have hn : n ≤ 3 := by omega
  have hn2 : 2 ≤ n := by omega
  subst hnR
  have e0 : (((n : Int) != 2) && ((n : Int) != 3)) = false := by rcases hR with h | h <;> simp [h]
  have l16 := hg.l1
  clear hg hlv hy ht hl hR
  have r2 : ((n : Int) != 2) = true ∨ ((n : Int) != 2) = false := by cases ((n : Int) != 2) <;> simp
  rcases r2 with r2 | r2
  have r3 : ((n : Int) != 3) = false := by simpa [r2] using e0
  rotate_left
  all_goals
    clear e0
    go_enter Try.func16, Try.ntmps16
    go_wp2_with (go_at_call 23; refine (check_tab t hf _).mono ?_; rintro e w1 ⟨rfl, hb1⟩; simp only [HT.out]; obtain ⟨c1, c2, c3, c4⟩ := bfacts hb1; simp only [World.size_alloc] at c1 c2 c3 c4; have hz := hb1.size; have hw1 := (bel2 _ _ _).trans (hb1.mono (by simp; omega)))
    have hz1 : w.heap.size + 1 < w1.heap.size := by simp at hz; omega
    have hz0 : w.heap.size < w1.heap.size := by omega
    refine (fault_good t HG.out b off n c y lv _ hn (by omega) (HLV.out.below hw1 hb) HL.out HY.out).mono ?_
    rintro e w2 ⟨rfl, hb2⟩
    obtain ⟨d1, d2, d3, d4⟩ := bfacts hb2
    have hw2 := hw1.trans (hb2.mono (by omega))
    have HLV2 := Lib.hid (HLV.out.below hw2 hb)
    go_wp2_with fail
    go_loop [42, 11] (fun i m => ∃ k : Nat, k ≤ n ∧ i = .int .i64 k ∧ m = .int .i64 (Opl.bsum t y lv k)) (fun i _ => n - (intOf i).toNat)
    case atStart => exact ⟨0, by omega, rfl, rfl⟩
    case round =>
      obtain ⟨k, hk, rfl, rfl⟩ := hrel
      by_cases hlt : k < n
      · have g1 := HLV2.out k hlt
        have g2 := HL.out k hlt
        have g3 := HY.out k hlt
        have g4 := symC_get y k (by omega)
        have g5 := tabC_get t (y k) (lv k) g3 (by omega)
        have g6 := HG.out.m0 (y k) (lv k) g3 (by omega)
        have g7 := HG.out.m1 (y k) (lv k) g3 (by omega)
        obtain ⟨g8, g9⟩ := Opl.bsum_bd HG.out k (fun i hi => HY.out i (by omega)) (fun i hi => HL.out i (by omega))
        go_wp2_with fail
        go_round
        case rel => exact ⟨k + 1, by omega, by go_num, rfl⟩
        case measure => simp [intOf]; omega
      · obtain rfl : k = n := by omega
        go_wp2_with fail
        go_ret2
        exact ⟨rfl, hw2⟩
end Go.Proofs.Ytdhpkoclnnoniaa
