/- Contracts of the package code: used, Common, Check. Conditions: the arguments are of their kinds. -/
import Derived.Test.YtdhpkoclnnoniaaA1
namespace Go.Proofs.Ytdhpkoclnnoniaa
open Go.RowKit

/-- a code as a value -/
abbrev codeV (c : Opl.Code) : Value := .agg #[.int .i64 c.K, .int .i64 c.R, .int .u32 c.g0, .int .u32 c.g1, .int .u32 c.g2]

theorem used2 (K g0 g1 g2 : Int) (w : World) :
    Calls Try.prog 28 #[.agg #[.int .i64 K, .int .i64 2, .int .u32 g0, .int .u32 g1, .int .u32 g2]] w fun e w' => e = .returned (.slice (some ⟨w.heap.size, 2, none⟩) 2 3) ∧ w.alloc (.cells #[.int .i64 K, .int .i64 2, .int .u32 g0, .int .u32 g1, .int .u32 g2] 25) = w' := by
  go_enter Try.func28, Try.ntmps28
  go_wp2
  go_ret
  exact ⟨rfl, rfl⟩
theorem used3 (K R g0 g1 g2 : Int) (w : World) (hR : (R == 2) = false) :
    Calls Try.prog 28 #[.agg #[.int .i64 K, .int .i64 R, .int .u32 g0, .int .u32 g1, .int .u32 g2]] w fun e w' => e = .returned (.slice (some ⟨w.heap.size, 2, none⟩) 3 3) ∧ w.alloc (.cells #[.int .i64 K, .int .i64 R, .int .u32 g0, .int .u32 g1, .int .u32 g2] 25) = w' := by
  go_enter Try.func28, Try.ntmps28
  go_wp2
  go_ret
  exact ⟨rfl, rfl⟩

theorem below_alloc2 (w : World) (a b : Obj) : Below w.heap.size w ((w.alloc a).alloc b) := ((Below.refl _ _).alloc (Nat.le_refl _) _).alloc (by simp) _

theorem common2 (K : Int) (g0 g1 g2 : Nat) (w : World) (h0 : g0 < 4294967296) (h1 : g1 < 4294967296) :
    Calls Try.prog 29 #[.agg #[.int .i64 K, .int .i64 2, .int .u32 g0, .int .u32 g1, .int .u32 g2]] w fun e w' => e = .returned (.int .u64 (Opl.pgcd (Opl.pgcd 0 g0) g1)) ∧ Below w.heap.size w w' := by
  have p0 := Opl.pgcd_lt (N := 18446744073709551616) (a := 0) (b := g0) (by omega) (by omega)
  have p1 := Opl.pgcd_lt (N := 18446744073709551616) (a := Opl.pgcd 0 g0) (b := g1) p0 (by omega)
  go_enter Try.func29, Try.ntmps29
  go_wp2_with (first | (go_at_call 28; refine (used2 _ _ _ _ _).mono ?_; rintro e w' ⟨rfl, rfl⟩))
  refine wp_loop_rounds 3 ?_
  rw [rounds_succ]
  go_wp2_with (first | (go_at_call 31; refine (gcd_int _ _ _ (by omega) (by omega) (by omega) (by omega)).mono ?_; rintro e w' ⟨rfl, rfl⟩; simp only [Int.toNat_natCast, Int.toNat_zero]))
  rw [rounds_succ]
  go_wp2_with (first | (go_at_call 31; refine (gcd_int _ _ _ (by omega) (by omega) (by omega) (by omega)).mono ?_; rintro e w' ⟨rfl, rfl⟩; simp only [Int.toNat_natCast, Int.toNat_zero]))
  rw [rounds_succ]
  go_wp2_with (first | (go_at_call 31; refine (gcd_int _ _ _ (by omega) (by omega) (by omega) (by omega)).mono ?_; rintro e w' ⟨rfl, rfl⟩; simp only [Int.toNat_natCast, Int.toNat_zero]))
  go_ret
  exact ⟨rfl, below_alloc2 _ _ _⟩

theorem common3 (K : Int) (g0 g1 g2 : Nat) (w : World) (h0 : g0 < 4294967296) (h1 : g1 < 4294967296) (h2 : g2 < 4294967296) :
    Calls Try.prog 29 #[.agg #[.int .i64 K, .int .i64 3, .int .u32 g0, .int .u32 g1, .int .u32 g2]] w fun e w' => e = .returned (.int .u64 (Opl.pgcd (Opl.pgcd (Opl.pgcd 0 g0) g1) g2)) ∧ Below w.heap.size w w' := by
  have p0 := Opl.pgcd_lt (N := 18446744073709551616) (a := 0) (b := g0) (by omega) (by omega)
  have p1 := Opl.pgcd_lt (N := 18446744073709551616) (a := Opl.pgcd 0 g0) (b := g1) p0 (by omega)
  go_enter Try.func29, Try.ntmps29
  go_wp2_with (first | (go_at_call 28; refine (used3 _ _ _ _ _ _ rfl).mono ?_; rintro e w' ⟨rfl, rfl⟩))
  refine wp_loop_rounds 4 ?_
  rw [rounds_succ]
  go_wp2_with (first | (go_at_call 31; refine (gcd_int _ _ _ (by omega) (by omega) (by omega) (by omega)).mono ?_; rintro e w' ⟨rfl, rfl⟩; simp only [Int.toNat_natCast, Int.toNat_zero]))
  rw [rounds_succ]
  go_wp2_with (first | (go_at_call 31; refine (gcd_int _ _ _ (by omega) (by omega) (by omega) (by omega)).mono ?_; rintro e w' ⟨rfl, rfl⟩; simp only [Int.toNat_natCast, Int.toNat_zero]))
  rw [rounds_succ]
  go_wp2_with (first | (go_at_call 31; refine (gcd_int _ _ _ (by omega) (by omega) (by omega) (by omega)).mono ?_; rintro e w' ⟨rfl, rfl⟩; simp only [Int.toNat_natCast, Int.toNat_zero]))
  rw [rounds_succ]
  go_wp2_with (first | (go_at_call 31; refine (gcd_int _ _ _ (by omega) (by omega) (by omega) (by omega)).mono ?_; rintro e w' ⟨rfl, rfl⟩; simp only [Int.toNat_natCast, Int.toNat_zero]))
  go_ret
  exact ⟨rfl, below_alloc2 _ _ _⟩

end Go.Proofs.Ytdhpkoclnnoniaa
