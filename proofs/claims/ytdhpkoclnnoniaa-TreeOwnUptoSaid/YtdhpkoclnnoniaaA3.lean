/- The contract of code.Check. Condition: the argument is of its kinds. -/
import Derived.Test.YtdhpkoclnnoniaaA2
namespace Go.Proofs.Ytdhpkoclnnoniaa
open Go.RowKit

theorem check_shape (c : Opl.Code) (hf : c.Fits) (hs : c.shape = false) (w : World) :
    Calls Try.prog 22 #[codeV c] w fun e w' => e = .returned (.int .i64 50) ∧ Below w.heap.size w w' := by
  obtain ⟨K, R, g0, g1, g2⟩ := c
  obtain ⟨k0, k1, r0, r1, h0, h1, h2⟩ := hf
  simp only [Opl.Code.shape, Bool.and_eq_false_iff, decide_eq_false_iff_not, Bool.or_eq_false_iff, Bool.and_eq_false_iff] at *
  simp only [codeV]
  by_cases a1 : K < 3
  · go_enter Try.func22, Try.ntmps22
    go_wp2_with fail
    go_ret
    exact ⟨rfl, (Below.refl _ _).alloc (Nat.le_refl _) _⟩
  by_cases a2 : 32 < K
  · go_enter Try.func22, Try.ntmps22
    go_wp2_with fail
    go_ret
    exact ⟨rfl, (Below.refl _ _).alloc (Nat.le_refl _) _⟩
  by_cases a3 : R = 2
  · subst a3
    have a4 : ((g2 : Int) != 0) = true := by
      rcases hs with h | ⟨h, h⟩
      · omega
      · simpa using h
    go_enter Try.func22, Try.ntmps22
    go_wp2_with fail
    go_ret
    exact ⟨rfl, (Below.refl _ _).alloc (Nat.le_refl _) _⟩
  · have a5 : R ≠ 3 := by
      rcases hs with h | ⟨h, _⟩
      · omega
      · simpa using h
    have b1 : (R != 2) = true := by simpa using a3
    have b2 : (R != 3) = true := by simpa using a5
    have b3 : (R == 2) = false := by simpa using a3
    clear hs a5 a3
    go_enter Try.func22, Try.ntmps22
    go_wp2_with fail
    go_ret
    exact ⟨rfl, (Below.refl _ _).alloc (Nat.le_refl _) _⟩

theorem or32 (a b : Nat) (ha : a < 4294967296) (hb : b < 4294967296) : bits .or .u32 (a : Int) (b : Int) = ((a ||| b : Nat) : Int) := u32_or_nat a b ha hb
theorem or32_zero (a : Nat) (ha : a < 4294967296) : bits .or .u32 0 (a : Int) = (a : Int) := by
  have := u32_or_nat 0 a (by omega) ha
  simpa using this
theorem and32_one (a : Nat) (ha : a < 4294967296) : bits .and .u32 (a : Int) 1 = (a : Int) % 2 := by
  have := u32_and_nat a 1 ha (by omega)
  rw [Nat.and_one_is_mod] at this
  exact this
theorem or_lt32 {a b : Nat} (ha : a < 4294967296) (hb : b < 4294967296) : a ||| b < 4294967296 := Nat.or_lt_two_pow (n := 32) ha hb

set_option maxHeartbeats 2000000 in
theorem check_2 (k : Nat) (g0 g1 : Nat) (k0 : 3 ≤ k) (k1 : k ≤ 32) (h0 : g0 < 4294967296) (h1 : g1 < 4294967296) (w : World) :
    Calls Try.prog 22 #[codeV ⟨k, 2, g0, g1, 0⟩] w fun e w' => e = .returned (.int .i64 (Opl.Code.err ⟨k, 2, g0, g1, 0⟩)) ∧ Below w.heap.size w w' := by
  simp only [codeV]
  have o0 := or32_zero g0 h0
  have o1 := or32 g0 g1 h0 h1
  have l1 := or_lt32 h0 h1
  have o2 := and32_one (g0 ||| g1) l1
  have hsh : Opl.Code.shape ⟨k, 2, g0, g1, 0⟩ = true := by simp [Opl.Code.shape]; omega
  have hk : (k : Int).toNat = k := rfl
  by_cases z0 : g0 = 0
  · have E : Hid (Opl.Code.err ⟨k, 2, g0, g1, 0⟩ = 50) := by show _ = _; simp [Opl.Code.err, hsh, Opl.Code.bads, Opl.bad, z0]
    rw [E.out]
    have b : ((g0 : Int) == 0) = true := by simp [z0]
    clear z0
    go_enter Try.func22, Try.ntmps22
    go_wp2_with (first | (go_at_call 28; refine (used2 _ _ _ _ _).mono ?_; rintro e w' ⟨rfl, rfl⟩) | (go_at_call 29; refine (common2 _ _ _ _ _ h0 h1).mono ?_; rintro e w' ⟨rfl, hb⟩))
    refine wp_loop_rounds 3 ?_
    iterate 3 (try (rw [rounds_succ]; go_wp2_with (first | (go_at_call 28; refine (used2 _ _ _ _ _).mono ?_; rintro e w' ⟨rfl, rfl⟩) | (go_at_call 29; refine (common2 _ _ _ _ _ h0 h1).mono ?_; rintro e w' ⟨rfl, hb⟩))))
    go_ret
    exact ⟨rfl, below_alloc2 _ _ _⟩
  have b0 : ((g0 : Int) == 0) = false := by simp [z0]
  by_cases y0 : g0 / 2 ^ k = 0
  rotate_left
  · have E : Hid (Opl.Code.err ⟨k, 2, g0, g1, 0⟩ = 50) := by show _ = _; simp [Opl.Code.err, hsh, Opl.Code.bads, Opl.bad, z0, y0]
    rw [E.out]
    have b : ((g0 : Int) / 2 ^ k != 0) = true := by rw [shr_nat]; simp only [bne_iff_ne]; omega
    clear y0
    go_enter Try.func22, Try.ntmps22
    go_wp2_with (first | (go_at_call 28; refine (used2 _ _ _ _ _).mono ?_; rintro e w' ⟨rfl, rfl⟩) | (go_at_call 29; refine (common2 _ _ _ _ _ h0 h1).mono ?_; rintro e w' ⟨rfl, hb⟩))
    refine wp_loop_rounds 3 ?_
    iterate 3 (try (rw [rounds_succ]; go_wp2_with (first | (go_at_call 28; refine (used2 _ _ _ _ _).mono ?_; rintro e w' ⟨rfl, rfl⟩) | (go_at_call 29; refine (common2 _ _ _ _ _ h0 h1).mono ?_; rintro e w' ⟨rfl, hb⟩))))
    go_ret
    exact ⟨rfl, below_alloc2 _ _ _⟩
  have c0 : ((g0 : Int) / 2 ^ k != 0) = false := by rw [shr_nat, y0]; rfl
  by_cases z1 : g1 = 0
  · have E : Hid (Opl.Code.err ⟨k, 2, g0, g1, 0⟩ = 50) := by show _ = _; simp [Opl.Code.err, hsh, Opl.Code.bads, Opl.bad, z0, z1]
    rw [E.out]
    have b : ((g1 : Int) == 0) = true := by simp [z1]
    clear z1
    go_enter Try.func22, Try.ntmps22
    go_wp2_with (first | (go_at_call 28; refine (used2 _ _ _ _ _).mono ?_; rintro e w' ⟨rfl, rfl⟩) | (go_at_call 29; refine (common2 _ _ _ _ _ h0 h1).mono ?_; rintro e w' ⟨rfl, hb⟩))
    refine wp_loop_rounds 3 ?_
    iterate 3 (try (rw [rounds_succ]; go_wp2_with (first | (go_at_call 28; refine (used2 _ _ _ _ _).mono ?_; rintro e w' ⟨rfl, rfl⟩) | (go_at_call 29; refine (common2 _ _ _ _ _ h0 h1).mono ?_; rintro e w' ⟨rfl, hb⟩))))
    go_ret
    exact ⟨rfl, below_alloc2 _ _ _⟩
  have b1 : ((g1 : Int) == 0) = false := by simp [z1]
  by_cases y1 : g1 / 2 ^ k = 0
  rotate_left
  · have E : Hid (Opl.Code.err ⟨k, 2, g0, g1, 0⟩ = 50) := by show _ = _; simp [Opl.Code.err, hsh, Opl.Code.bads, Opl.bad, z0, y0, z1, y1]
    rw [E.out]
    have b : ((g1 : Int) / 2 ^ k != 0) = true := by rw [shr_nat]; simp only [bne_iff_ne]; omega
    clear y1
    go_enter Try.func22, Try.ntmps22
    go_wp2_with (first | (go_at_call 28; refine (used2 _ _ _ _ _).mono ?_; rintro e w' ⟨rfl, rfl⟩) | (go_at_call 29; refine (common2 _ _ _ _ _ h0 h1).mono ?_; rintro e w' ⟨rfl, hb⟩))
    refine wp_loop_rounds 3 ?_
    iterate 3 (try (rw [rounds_succ]; go_wp2_with (first | (go_at_call 28; refine (used2 _ _ _ _ _).mono ?_; rintro e w' ⟨rfl, rfl⟩) | (go_at_call 29; refine (common2 _ _ _ _ _ h0 h1).mono ?_; rintro e w' ⟨rfl, hb⟩))))
    go_ret
    exact ⟨rfl, below_alloc2 _ _ _⟩
  have c1 : ((g1 : Int) / 2 ^ k != 0) = false := by rw [shr_nat, y1]; rfl
  have hbd : Opl.Code.bads ⟨k, 2, g0, g1, 0⟩ = false := by simp [Opl.Code.bads, Opl.bad, z0, y0, z1, y1]
  clear z0 y0 z1 y1
  by_cases p1 : (g0 ||| g1) % 2 = 0
  · have E : Hid (Opl.Code.err ⟨k, 2, g0, g1, 0⟩ = 51) := by show _ = _; simp [Opl.Code.err, hsh, hbd, Opl.Code.low, Opl.Code.ors, p1]
    rw [E.out]
    have b : ((((g0 ||| g1) : Nat) : Int) % 2 == 0) = true := by simp only [beq_iff_eq]; omega
    clear p1
    go_enter Try.func22, Try.ntmps22
    go_wp2_with (first | (go_at_call 28; refine (used2 _ _ _ _ _).mono ?_; rintro e w' ⟨rfl, rfl⟩) | (go_at_call 29; refine (common2 _ _ _ _ _ h0 h1).mono ?_; rintro e w' ⟨rfl, hb⟩))
    refine wp_loop_rounds 3 ?_
    iterate 3 (try (rw [rounds_succ]; go_wp2_with (first | (go_at_call 28; refine (used2 _ _ _ _ _).mono ?_; rintro e w' ⟨rfl, rfl⟩) | (go_at_call 29; refine (common2 _ _ _ _ _ h0 h1).mono ?_; rintro e w' ⟨rfl, hb⟩))))
    go_ret
    exact ⟨rfl, below_alloc2 _ _ _⟩
  have q1 : ((((g0 ||| g1) : Nat) : Int) % 2 == 0) = false := by simp only [beq_eq_false_iff_ne]; omega
  by_cases p2 : (g0 ||| g1) / 2 ^ (k - 1) = 0
  · have E : Hid (Opl.Code.err ⟨k, 2, g0, g1, 0⟩ = 51) := by show _ = _; simp [Opl.Code.err, hsh, hbd, Opl.Code.low, Opl.Code.ors, p2]
    rw [E.out]
    have b : ((((g0 ||| g1) : Nat) : Int) / 2 ^ (k - 1) == 0) = true := by rw [shr_nat, p2]; rfl
    clear p1 p2
    go_enter Try.func22, Try.ntmps22
    go_wp2_with (first | (go_at_call 28; refine (used2 _ _ _ _ _).mono ?_; rintro e w' ⟨rfl, rfl⟩) | (go_at_call 29; refine (common2 _ _ _ _ _ h0 h1).mono ?_; rintro e w' ⟨rfl, hb⟩))
    refine wp_loop_rounds 3 ?_
    iterate 3 (try (rw [rounds_succ]; go_wp2_with (first | (go_at_call 28; refine (used2 _ _ _ _ _).mono ?_; rintro e w' ⟨rfl, rfl⟩) | (go_at_call 29; refine (common2 _ _ _ _ _ h0 h1).mono ?_; rintro e w' ⟨rfl, hb⟩))))
    go_ret
    exact ⟨rfl, below_alloc2 _ _ _⟩
  have q2 : ((((g0 ||| g1) : Nat) : Int) / 2 ^ (k - 1) == 0) = false := by rw [shr_nat]; simp only [beq_eq_false_iff_ne]; omega
  have hlw : Opl.Code.low ⟨k, 2, g0, g1, 0⟩ = false := by simp [Opl.Code.low, Opl.Code.ors, p1, p2]
  clear p1 p2
  by_cases m1 : Opl.pgcd (Opl.pgcd 0 g0) g1 = 1
  · have E : Hid (Opl.Code.err ⟨k, 2, g0, g1, 0⟩ = 0) := by show _ = _; simp [Opl.Code.err, hsh, hbd, hlw, Opl.Code.common, m1]
    rw [E.out]
    have b : (((Opl.pgcd (Opl.pgcd 0 g0) g1 : Nat) : Int) != 1) = false := by rw [m1]; rfl
    clear m1
    go_enter Try.func22, Try.ntmps22
    go_wp2_with (first | (go_at_call 28; refine (used2 _ _ _ _ _).mono ?_; rintro e w' ⟨rfl, rfl⟩) | (go_at_call 29; refine (common2 _ _ _ _ _ h0 h1).mono ?_; rintro e w' ⟨rfl, hb⟩))
    refine wp_loop_rounds 3 ?_
    iterate 3 (try (rw [rounds_succ]; go_wp2_with (first | (go_at_call 28; refine (used2 _ _ _ _ _).mono ?_; rintro e w' ⟨rfl, rfl⟩) | (go_at_call 29; refine (common2 _ _ _ _ _ h0 h1).mono ?_; rintro e w' ⟨rfl, hb⟩))))
    go_ret
    exact ⟨rfl, (below_alloc2 _ _ _).trans (hb.mono (by simp; omega))⟩
  · have E : Hid (Opl.Code.err ⟨k, 2, g0, g1, 0⟩ = 52) := by show _ = _; simp [Opl.Code.err, hsh, hbd, hlw, Opl.Code.common, m1]
    rw [E.out]
    have b : (((Opl.pgcd (Opl.pgcd 0 g0) g1 : Nat) : Int) != 1) = true := by simp only [bne_iff_ne]; omega
    clear m1
    go_enter Try.func22, Try.ntmps22
    go_wp2_with (first | (go_at_call 28; refine (used2 _ _ _ _ _).mono ?_; rintro e w' ⟨rfl, rfl⟩) | (go_at_call 29; refine (common2 _ _ _ _ _ h0 h1).mono ?_; rintro e w' ⟨rfl, hb⟩))
    refine wp_loop_rounds 3 ?_
    iterate 3 (try (rw [rounds_succ]; go_wp2_with (first | (go_at_call 28; refine (used2 _ _ _ _ _).mono ?_; rintro e w' ⟨rfl, rfl⟩) | (go_at_call 29; refine (common2 _ _ _ _ _ h0 h1).mono ?_; rintro e w' ⟨rfl, hb⟩))))
    go_ret
    exact ⟨rfl, (below_alloc2 _ _ _).trans (hb.mono (by simp; omega))⟩

set_option maxHeartbeats 2000000 in
theorem check_3 (k : Nat) (g0 g1 g2 : Nat) (k0 : 3 ≤ k) (k1 : k ≤ 32) (h0 : g0 < 4294967296) (h1 : g1 < 4294967296) (h2 : g2 < 4294967296) (w : World) :
    Calls Try.prog 22 #[codeV ⟨k, 3, g0, g1, g2⟩] w fun e w' => e = .returned (.int .i64 (Opl.Code.err ⟨k, 3, g0, g1, g2⟩)) ∧ Below w.heap.size w w' := by
  simp only [codeV]
  have o0 := or32_zero g0 h0
  have o1 := or32 g0 g1 h0 h1
  have l1 := or_lt32 h0 h1
  have o3 := or32 (g0 ||| g1) g2 l1 h2
  have l2 := or_lt32 l1 h2
  have o2 := and32_one (g0 ||| g1 ||| g2) l2
  have hsh : Opl.Code.shape ⟨k, 3, g0, g1, g2⟩ = true := by simp [Opl.Code.shape]; omega
  have hk : (k : Int).toNat = k := rfl
  by_cases z0 : g0 = 0
  · have E : Hid (Opl.Code.err ⟨k, 3, g0, g1, g2⟩ = 50) := by show _ = _; simp [Opl.Code.err, hsh, Opl.Code.bads, Opl.bad, z0]
    rw [E.out]
    have b : ((g0 : Int) == 0) = true := by simp [z0]
    clear z0
    go_enter Try.func22, Try.ntmps22
    go_wp2_with (first | (go_at_call 28; refine (used3 _ _ _ _ _ _ rfl).mono ?_; rintro e w' ⟨rfl, rfl⟩) | (go_at_call 29; refine (common3 _ _ _ _ _ h0 h1 h2).mono ?_; rintro e w' ⟨rfl, hb⟩))
    refine wp_loop_rounds 4 ?_
    iterate 4 (try (rw [rounds_succ]; go_wp2_with (first | (go_at_call 28; refine (used3 _ _ _ _ _ _ rfl).mono ?_; rintro e w' ⟨rfl, rfl⟩) | (go_at_call 29; refine (common3 _ _ _ _ _ h0 h1 h2).mono ?_; rintro e w' ⟨rfl, hb⟩))))
    go_ret
    exact ⟨rfl, below_alloc2 _ _ _⟩
  have b0 : ((g0 : Int) == 0) = false := by simp [z0]
  by_cases y0 : g0 / 2 ^ k = 0
  rotate_left
  · have E : Hid (Opl.Code.err ⟨k, 3, g0, g1, g2⟩ = 50) := by show _ = _; simp [Opl.Code.err, hsh, Opl.Code.bads, Opl.bad, z0, y0]
    rw [E.out]
    have b : ((g0 : Int) / 2 ^ k != 0) = true := by rw [shr_nat]; simp only [bne_iff_ne]; omega
    clear y0
    go_enter Try.func22, Try.ntmps22
    go_wp2_with (first | (go_at_call 28; refine (used3 _ _ _ _ _ _ rfl).mono ?_; rintro e w' ⟨rfl, rfl⟩) | (go_at_call 29; refine (common3 _ _ _ _ _ h0 h1 h2).mono ?_; rintro e w' ⟨rfl, hb⟩))
    refine wp_loop_rounds 4 ?_
    iterate 4 (try (rw [rounds_succ]; go_wp2_with (first | (go_at_call 28; refine (used3 _ _ _ _ _ _ rfl).mono ?_; rintro e w' ⟨rfl, rfl⟩) | (go_at_call 29; refine (common3 _ _ _ _ _ h0 h1 h2).mono ?_; rintro e w' ⟨rfl, hb⟩))))
    go_ret
    exact ⟨rfl, below_alloc2 _ _ _⟩
  have c0 : ((g0 : Int) / 2 ^ k != 0) = false := by rw [shr_nat, y0]; rfl
  by_cases z1 : g1 = 0
  · have E : Hid (Opl.Code.err ⟨k, 3, g0, g1, g2⟩ = 50) := by show _ = _; simp [Opl.Code.err, hsh, Opl.Code.bads, Opl.bad, z0, z1]
    rw [E.out]
    have b : ((g1 : Int) == 0) = true := by simp [z1]
    clear z1
    go_enter Try.func22, Try.ntmps22
    go_wp2_with (first | (go_at_call 28; refine (used3 _ _ _ _ _ _ rfl).mono ?_; rintro e w' ⟨rfl, rfl⟩) | (go_at_call 29; refine (common3 _ _ _ _ _ h0 h1 h2).mono ?_; rintro e w' ⟨rfl, hb⟩))
    refine wp_loop_rounds 4 ?_
    iterate 4 (try (rw [rounds_succ]; go_wp2_with (first | (go_at_call 28; refine (used3 _ _ _ _ _ _ rfl).mono ?_; rintro e w' ⟨rfl, rfl⟩) | (go_at_call 29; refine (common3 _ _ _ _ _ h0 h1 h2).mono ?_; rintro e w' ⟨rfl, hb⟩))))
    go_ret
    exact ⟨rfl, below_alloc2 _ _ _⟩
  have b1 : ((g1 : Int) == 0) = false := by simp [z1]
  by_cases y1 : g1 / 2 ^ k = 0
  rotate_left
  · have E : Hid (Opl.Code.err ⟨k, 3, g0, g1, g2⟩ = 50) := by show _ = _; simp [Opl.Code.err, hsh, Opl.Code.bads, Opl.bad, z0, y0, z1, y1]
    rw [E.out]
    have b : ((g1 : Int) / 2 ^ k != 0) = true := by rw [shr_nat]; simp only [bne_iff_ne]; omega
    clear y1
    go_enter Try.func22, Try.ntmps22
    go_wp2_with (first | (go_at_call 28; refine (used3 _ _ _ _ _ _ rfl).mono ?_; rintro e w' ⟨rfl, rfl⟩) | (go_at_call 29; refine (common3 _ _ _ _ _ h0 h1 h2).mono ?_; rintro e w' ⟨rfl, hb⟩))
    refine wp_loop_rounds 4 ?_
    iterate 4 (try (rw [rounds_succ]; go_wp2_with (first | (go_at_call 28; refine (used3 _ _ _ _ _ _ rfl).mono ?_; rintro e w' ⟨rfl, rfl⟩) | (go_at_call 29; refine (common3 _ _ _ _ _ h0 h1 h2).mono ?_; rintro e w' ⟨rfl, hb⟩))))
    go_ret
    exact ⟨rfl, below_alloc2 _ _ _⟩
  have c1 : ((g1 : Int) / 2 ^ k != 0) = false := by rw [shr_nat, y1]; rfl
  by_cases z2 : g2 = 0
  · have E : Hid (Opl.Code.err ⟨k, 3, g0, g1, g2⟩ = 50) := by show _ = _; simp [Opl.Code.err, hsh, Opl.Code.bads, Opl.bad, z0, z1, z2]
    rw [E.out]
    have b : ((g2 : Int) == 0) = true := by simp [z2]
    clear z2
    go_enter Try.func22, Try.ntmps22
    go_wp2_with (first | (go_at_call 28; refine (used3 _ _ _ _ _ _ rfl).mono ?_; rintro e w' ⟨rfl, rfl⟩) | (go_at_call 29; refine (common3 _ _ _ _ _ h0 h1 h2).mono ?_; rintro e w' ⟨rfl, hb⟩))
    refine wp_loop_rounds 4 ?_
    iterate 4 (try (rw [rounds_succ]; go_wp2_with (first | (go_at_call 28; refine (used3 _ _ _ _ _ _ rfl).mono ?_; rintro e w' ⟨rfl, rfl⟩) | (go_at_call 29; refine (common3 _ _ _ _ _ h0 h1 h2).mono ?_; rintro e w' ⟨rfl, hb⟩))))
    go_ret
    exact ⟨rfl, below_alloc2 _ _ _⟩
  have b2 : ((g2 : Int) == 0) = false := by simp [z2]
  by_cases y2 : g2 / 2 ^ k = 0
  rotate_left
  · have E : Hid (Opl.Code.err ⟨k, 3, g0, g1, g2⟩ = 50) := by show _ = _; simp [Opl.Code.err, hsh, Opl.Code.bads, Opl.bad, z0, y0, z1, y1, z2, y2]
    rw [E.out]
    have b : ((g2 : Int) / 2 ^ k != 0) = true := by rw [shr_nat]; simp only [bne_iff_ne]; omega
    clear y2
    go_enter Try.func22, Try.ntmps22
    go_wp2_with (first | (go_at_call 28; refine (used3 _ _ _ _ _ _ rfl).mono ?_; rintro e w' ⟨rfl, rfl⟩) | (go_at_call 29; refine (common3 _ _ _ _ _ h0 h1 h2).mono ?_; rintro e w' ⟨rfl, hb⟩))
    refine wp_loop_rounds 4 ?_
    iterate 4 (try (rw [rounds_succ]; go_wp2_with (first | (go_at_call 28; refine (used3 _ _ _ _ _ _ rfl).mono ?_; rintro e w' ⟨rfl, rfl⟩) | (go_at_call 29; refine (common3 _ _ _ _ _ h0 h1 h2).mono ?_; rintro e w' ⟨rfl, hb⟩))))
    go_ret
    exact ⟨rfl, below_alloc2 _ _ _⟩
  have c2 : ((g2 : Int) / 2 ^ k != 0) = false := by rw [shr_nat, y2]; rfl
  have hbd : Opl.Code.bads ⟨k, 3, g0, g1, g2⟩ = false := by simp [Opl.Code.bads, Opl.bad, z0, y0, z1, y1, z2, y2]
  clear z0 y0 z1 y1 z2 y2
  by_cases p1 : (g0 ||| g1 ||| g2) % 2 = 0
  · have E : Hid (Opl.Code.err ⟨k, 3, g0, g1, g2⟩ = 51) := by show _ = _; simp [Opl.Code.err, hsh, hbd, Opl.Code.low, Opl.Code.ors, p1]
    rw [E.out]
    have b : ((((g0 ||| g1 ||| g2) : Nat) : Int) % 2 == 0) = true := by simp only [beq_iff_eq]; omega
    clear p1
    go_enter Try.func22, Try.ntmps22
    go_wp2_with (first | (go_at_call 28; refine (used3 _ _ _ _ _ _ rfl).mono ?_; rintro e w' ⟨rfl, rfl⟩) | (go_at_call 29; refine (common3 _ _ _ _ _ h0 h1 h2).mono ?_; rintro e w' ⟨rfl, hb⟩))
    refine wp_loop_rounds 4 ?_
    iterate 4 (try (rw [rounds_succ]; go_wp2_with (first | (go_at_call 28; refine (used3 _ _ _ _ _ _ rfl).mono ?_; rintro e w' ⟨rfl, rfl⟩) | (go_at_call 29; refine (common3 _ _ _ _ _ h0 h1 h2).mono ?_; rintro e w' ⟨rfl, hb⟩))))
    go_ret
    exact ⟨rfl, below_alloc2 _ _ _⟩
  have q1 : ((((g0 ||| g1 ||| g2) : Nat) : Int) % 2 == 0) = false := by simp only [beq_eq_false_iff_ne]; omega
  by_cases p2 : (g0 ||| g1 ||| g2) / 2 ^ (k - 1) = 0
  · have E : Hid (Opl.Code.err ⟨k, 3, g0, g1, g2⟩ = 51) := by show _ = _; simp [Opl.Code.err, hsh, hbd, Opl.Code.low, Opl.Code.ors, p2]
    rw [E.out]
    have b : ((((g0 ||| g1 ||| g2) : Nat) : Int) / 2 ^ (k - 1) == 0) = true := by rw [shr_nat, p2]; rfl
    clear p1 p2
    go_enter Try.func22, Try.ntmps22
    go_wp2_with (first | (go_at_call 28; refine (used3 _ _ _ _ _ _ rfl).mono ?_; rintro e w' ⟨rfl, rfl⟩) | (go_at_call 29; refine (common3 _ _ _ _ _ h0 h1 h2).mono ?_; rintro e w' ⟨rfl, hb⟩))
    refine wp_loop_rounds 4 ?_
    iterate 4 (try (rw [rounds_succ]; go_wp2_with (first | (go_at_call 28; refine (used3 _ _ _ _ _ _ rfl).mono ?_; rintro e w' ⟨rfl, rfl⟩) | (go_at_call 29; refine (common3 _ _ _ _ _ h0 h1 h2).mono ?_; rintro e w' ⟨rfl, hb⟩))))
    go_ret
    exact ⟨rfl, below_alloc2 _ _ _⟩
  have q2 : ((((g0 ||| g1 ||| g2) : Nat) : Int) / 2 ^ (k - 1) == 0) = false := by rw [shr_nat]; simp only [beq_eq_false_iff_ne]; omega
  have hlw : Opl.Code.low ⟨k, 3, g0, g1, g2⟩ = false := by simp [Opl.Code.low, Opl.Code.ors, p1, p2]
  clear p1 p2
  by_cases m1 : Opl.pgcd (Opl.pgcd (Opl.pgcd 0 g0) g1) g2 = 1
  · have E : Hid (Opl.Code.err ⟨k, 3, g0, g1, g2⟩ = 0) := by show _ = _; simp [Opl.Code.err, hsh, hbd, hlw, Opl.Code.common, m1]
    rw [E.out]
    have b : (((Opl.pgcd (Opl.pgcd (Opl.pgcd 0 g0) g1) g2 : Nat) : Int) != 1) = false := by rw [m1]; rfl
    clear m1
    go_enter Try.func22, Try.ntmps22
    go_wp2_with (first | (go_at_call 28; refine (used3 _ _ _ _ _ _ rfl).mono ?_; rintro e w' ⟨rfl, rfl⟩) | (go_at_call 29; refine (common3 _ _ _ _ _ h0 h1 h2).mono ?_; rintro e w' ⟨rfl, hb⟩))
    refine wp_loop_rounds 4 ?_
    iterate 4 (try (rw [rounds_succ]; go_wp2_with (first | (go_at_call 28; refine (used3 _ _ _ _ _ _ rfl).mono ?_; rintro e w' ⟨rfl, rfl⟩) | (go_at_call 29; refine (common3 _ _ _ _ _ h0 h1 h2).mono ?_; rintro e w' ⟨rfl, hb⟩))))
    go_ret
    exact ⟨rfl, (below_alloc2 _ _ _).trans (hb.mono (by simp; omega))⟩
  · have E : Hid (Opl.Code.err ⟨k, 3, g0, g1, g2⟩ = 52) := by show _ = _; simp [Opl.Code.err, hsh, hbd, hlw, Opl.Code.common, m1]
    rw [E.out]
    have b : (((Opl.pgcd (Opl.pgcd (Opl.pgcd 0 g0) g1) g2 : Nat) : Int) != 1) = true := by simp only [bne_iff_ne]; omega
    clear m1
    go_enter Try.func22, Try.ntmps22
    go_wp2_with (first | (go_at_call 28; refine (used3 _ _ _ _ _ _ rfl).mono ?_; rintro e w' ⟨rfl, rfl⟩) | (go_at_call 29; refine (common3 _ _ _ _ _ h0 h1 h2).mono ?_; rintro e w' ⟨rfl, hb⟩))
    refine wp_loop_rounds 4 ?_
    iterate 4 (try (rw [rounds_succ]; go_wp2_with (first | (go_at_call 28; refine (used3 _ _ _ _ _ _ rfl).mono ?_; rintro e w' ⟨rfl, rfl⟩) | (go_at_call 29; refine (common3 _ _ _ _ _ h0 h1 h2).mono ?_; rintro e w' ⟨rfl, hb⟩))))
    go_ret
    exact ⟨rfl, (below_alloc2 _ _ _).trans (hb.mono (by simp; omega))⟩


end Go.Proofs.Ytdhpkoclnnoniaa
