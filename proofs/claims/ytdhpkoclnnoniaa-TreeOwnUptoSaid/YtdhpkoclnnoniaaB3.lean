/- The contracts of trellis.step, right, Step, where nothing is wrong. Conditions: a good code, a state and a bit in their ranges. -/
import Derived.Test.YtdhpkoclnnoniaaT
import Derived.Test.YtdhpkoclnnoniaaA3
import Derived.Laws.BitsLemmas
namespace Go.Proofs.Ytdhpkoclnnoniaa
open Go.RowKit Go.Opk

theorem check_code (c : Opl.Code) (hf : c.Fits) (w : World) :
    Calls Try.prog 22 #[codeV c] w fun e w' => e = .returned (.int .i64 c.err) ∧ Below w.heap.size w w' := by
  cases hs : c.shape with
  | false =>
    rw [show c.err = 50 from by simp [Opl.Code.err, hs]]
    exact check_shape c hf hs w
  | true =>
    have hs' := hs
    simp only [Opl.Code.shape, Bool.and_eq_true, decide_eq_true_eq, Bool.or_eq_true, beq_iff_eq] at hs'
    obtain ⟨K, R, g0, g1, g2⟩ := c
    obtain ⟨⟨k0, k1⟩, h⟩ := hs'
    obtain ⟨_, _, _, _, h0, h1, h2⟩ := hf
    simp only at k0 k1 h h0 h1 h2
    obtain ⟨k, rfl⟩ := Int.eq_ofNat_of_zero_le (show 0 ≤ K by omega)
    rcases h with rfl | ⟨rfl, rfl⟩
    · exact check_3 k g0 g1 g2 (by omega) (by omega) h0 h1 h2 w
    · exact check_2 k g0 g1 (by omega) (by omega) h0 h1 w

theorem ones_par (x : Nat) (w : World) (h1 : x < 4294967296) :
    Calls Try.prog 30 #[.int .u32 x] w fun e w' => e = .returned (.int .i64 (Opl.popN 32 x)) ∧ ∃ n, w' = w.drewN n := by
  refine (ones32_int x w (by omega) (by omega)).mono fun e w' ⟨he, hw⟩ => ⟨?_, hw⟩
  rw [he, ← Opl.pop32 x h1]
  have p : ∀ y : Nat, y < 256 → Lib.pop8 (y : Int) = (Lib.onesCount y : Int) := fun y hy => Lib.pop8_eq ⟨y, hy⟩
  rw [show ((x : Int) / 16777216) = ((x / 16777216 : Nat) : Int) from by omega, show ((x : Int) / 65536 % 256) = ((x / 65536 % 256 : Nat) : Int) from by omega,
    show ((x : Int) / 256 % 256) = ((x / 256 % 256 : Nat) : Int) from by omega, show ((x : Int) % 256) = ((x % 256 : Nat) : Int) from by omega,
    p _ (by omega), p _ (by omega), p _ (by omega), p _ (by omega)]
  congr 2
theorem popN_le (n : Nat) : ∀ x, Opl.popN n x ≤ n := by
  induction n with
  | zero => intro x; simp [Opl.popN]
  | succ n ih => intro x; have := ih (x / 2); simp only [Opl.popN]; omega
theorem or_bit {s b : Nat} (hs : s < 2147483648) (hb : b < 2) : bits .or .u32 ((s : Int) * 2) (b : Int) = ((2 * s + b : Nat) : Int) := by
  have h := u32_or_nat (2 * s) b (by omega) (by omega)
  rw [show ((2 * s : Nat) : Int) = (s : Int) * 2 from by omega] at h
  rw [h]
  congr 1
  have : (2 * s) ||| b = 2 * s + b := by
    rw [show 2 * s = s <<< 1 from by rw [Nat.shiftLeft_eq]; omega]
    exact (Nat.shiftLeft_add_eq_or_of_lt (i := 1) (by simpa using hb) s).symm
  exact this
theorem and32 (a b : Nat) (ha : a < 4294967296) (hb : b < 4294967296) : bits .and .u32 (a : Int) (b : Int) = ((a &&& b : Nat) : Int) := u32_and_nat a b ha hb
theorem and_lt32 {a b : Nat} (ha : a < 4294967296) : a &&& b < 4294967296 := Nat.lt_of_le_of_lt Nat.and_le_left ha
theorem i64_and1 (n : Int) : bits .and .i64 n 1 = n % 2 := by
  have h1 : (BitVec.ofInt 64 1).toNat = 2 ^ 1 - 1 := by decide
  have key : (BitVec.ofInt 64 n &&& BitVec.ofInt 64 1).toNat = (n % ((2 ^ 64 : Nat) : Int)).toNat % 2 ^ 1 := by
    rw [BitVec.toNat_and, BitVec.toNat_ofInt, h1, Nat.and_two_pow_sub_one_eq_mod]
  show IntKind.i64.wrap ((BitVec.ofInt 64 n &&& BitVec.ofInt 64 1).toNat : Nat) = n % 2
  rw [key, IntKind.wrap_i64]
  omega
theorem mask32 {x k : Nat} (hx : x < 4294967296) (k0 : 3 ≤ k) (k1 : k ≤ 32) : bits .and .u32 (x : Int) ((2 ^ (k - 1) - 1) % 4294967296) = ((x % 2 ^ (k - 1) : Nat) : Int) := by
  have h1 : (2 : Nat) ^ (k - 1) ≤ 2 ^ 31 := Nat.pow_le_pow_right (by omega) (by omega)
  have h2 : 0 < (2 : Nat) ^ (k - 1) := Nat.two_pow_pos _
  have h3 : (2 : Nat) ^ 31 = 2147483648 := by decide
  have e : (2 ^ (k - 1) - 1 : Int) % 4294967296 = ((2 ^ (k - 1) - 1 : Nat) : Int) := by
    rw [show (2 ^ (k - 1) : Int) = ((2 ^ (k - 1) : Nat) : Int) from by rw [Int.natCast_pow]; rfl]
    omega
  rw [e, u32_and_nat _ _ hx (by omega), Nat.and_two_pow_sub_one_eq_mod]
/-- the ones' number's lowest bit, as a byte -/
theorem bit_byte (x : Nat) : IntKind.u8.wrap (bits .and .i64 (Opl.popN 32 x : Int) 1) = (Opl.par x : Int) := by
  have h := popN_le 32 x
  have : bits .and .i64 (Opl.popN 32 x : Int) 1 = (Opl.popN 32 x : Int) % 2 := i64_and1 _
  rw [this]
  unfold Opl.par
  simp [IntKind.wrap, IntKind.bits, IntKind.signed]
  omega

set_option maxHeartbeats 1000000 in
theorem step_2 (k : Nat) (g0 g1 g2 : Nat) (k0 : 3 ≤ k) (k1 : k ≤ 32) (h0 : g0 < 4294967296) (h1 : g1 < 4294967296) (h2 : g2 < 4294967296) (s b : Nat) (hs : s < 2147483648) (hb : b < 2) (w : World) :
    Calls Try.prog 26 #[codeV ⟨k, 2, g0, g1, g2⟩, .int .u32 s, .int .u8 b] w fun e w' => e = .returned (.tuple #[.int .u32 (Opl.Code.next ⟨k, 2, g0, g1, g2⟩ s b), .agg (symC (Opl.Code.sym ⟨k, 2, g0, g1, g2⟩ s b))]) ∧ Below w.heap.size w w' := by
  simp only [codeV]
  have o := or_bit hs hb
  have hw : 2 * s + b < 4294967296 := by omega
  have hN : Opl.Code.next ⟨k, 2, g0, g1, g2⟩ s b = (2 * s + b) % 2 ^ (k - 1) := rfl
  have hY : symC (Opl.Code.sym ⟨k, 2, g0, g1, g2⟩ s b) = #[.int .u8 (Opl.par ((2 * s + b) &&& g0) : Nat), .int .u8 (Opl.par ((2 * s + b) &&& g1) : Nat), .int .u8 0] := rfl
  rw [hN, hY]
  clear hN hY
  generalize 2 * s + b = x at *
  have a0 := and32 x g0 hw h0
  have b0 := bit_byte (x &&& g0)
  have a1 := and32 x g1 hw h1
  have b1 := bit_byte (x &&& g1)
  go_enter Try.func26, Try.ntmps26
  go_wp2_with (go_at_call 30; refine (ones_par _ _ (and_lt32 hw)).mono ?_; rintro e w' ⟨rfl, nq, rfl⟩)
  refine wp_loop_rounds 3 ?_
  rw [rounds_succ]
  go_wp2_with (go_at_call 30; refine (ones_par _ _ (and_lt32 hw)).mono ?_; rintro e w' ⟨rfl, nq, rfl⟩)
  rw [rounds_succ]
  go_wp2_with (go_at_call 30; refine (ones_par _ _ (and_lt32 hw)).mono ?_; rintro e w' ⟨rfl, nq, rfl⟩)
  rw [rounds_succ]
  go_wp2_with (go_at_call 30; refine (ones_par _ _ (and_lt32 hw)).mono ?_; rintro e w' ⟨rfl, nq, rfl⟩)
  go_region
  go_wp2_with fail
  refine bodyPost_ret (v := .tuple #[.int .u32 (x % 2 ^ (k - 1) : Nat), .agg #[.int .u8 (Opl.par (x &&& g0) : Nat), .int .u8 (Opl.par (x &&& g1) : Nat), .int .u8 0]]) (by simp [results, Try.results26, go_sem]; exact mask32 hw k0 k1) rfl ⟨rfl, ?_⟩
  exact bel_drewN (bel3 _ _ _ _) _

set_option maxHeartbeats 1000000 in
theorem step_3 (k : Nat) (g0 g1 g2 : Nat) (k0 : 3 ≤ k) (k1 : k ≤ 32) (h0 : g0 < 4294967296) (h1 : g1 < 4294967296) (h2 : g2 < 4294967296) (s b : Nat) (hs : s < 2147483648) (hb : b < 2) (w : World) :
    Calls Try.prog 26 #[codeV ⟨k, 3, g0, g1, g2⟩, .int .u32 s, .int .u8 b] w fun e w' => e = .returned (.tuple #[.int .u32 (Opl.Code.next ⟨k, 3, g0, g1, g2⟩ s b), .agg (symC (Opl.Code.sym ⟨k, 3, g0, g1, g2⟩ s b))]) ∧ Below w.heap.size w w' := by
  simp only [codeV]
  have o := or_bit hs hb
  have hw : 2 * s + b < 4294967296 := by omega
  have hN : Opl.Code.next ⟨k, 3, g0, g1, g2⟩ s b = (2 * s + b) % 2 ^ (k - 1) := rfl
  have hY : symC (Opl.Code.sym ⟨k, 3, g0, g1, g2⟩ s b) = #[.int .u8 (Opl.par ((2 * s + b) &&& g0) : Nat), .int .u8 (Opl.par ((2 * s + b) &&& g1) : Nat), .int .u8 (Opl.par ((2 * s + b) &&& g2) : Nat)] := rfl
  rw [hN, hY]
  clear hN hY
  generalize 2 * s + b = x at *
  have a0 := and32 x g0 hw h0
  have b0 := bit_byte (x &&& g0)
  have a1 := and32 x g1 hw h1
  have b1 := bit_byte (x &&& g1)
  have a2 := and32 x g2 hw h2
  have b2 := bit_byte (x &&& g2)
  go_enter Try.func26, Try.ntmps26
  go_wp2_with (go_at_call 30; refine (ones_par _ _ (and_lt32 hw)).mono ?_; rintro e w' ⟨rfl, nq, rfl⟩)
  refine wp_loop_rounds 4 ?_
  rw [rounds_succ]
  go_wp2_with (go_at_call 30; refine (ones_par _ _ (and_lt32 hw)).mono ?_; rintro e w' ⟨rfl, nq, rfl⟩)
  rw [rounds_succ]
  go_wp2_with (go_at_call 30; refine (ones_par _ _ (and_lt32 hw)).mono ?_; rintro e w' ⟨rfl, nq, rfl⟩)
  rw [rounds_succ]
  go_wp2_with (go_at_call 30; refine (ones_par _ _ (and_lt32 hw)).mono ?_; rintro e w' ⟨rfl, nq, rfl⟩)
  rw [rounds_succ]
  go_wp2_with (go_at_call 30; refine (ones_par _ _ (and_lt32 hw)).mono ?_; rintro e w' ⟨rfl, nq, rfl⟩)
  go_region
  go_wp2_with fail
  refine bodyPost_ret (v := .tuple #[.int .u32 (x % 2 ^ (k - 1) : Nat), .agg #[.int .u8 (Opl.par (x &&& g0) : Nat), .int .u8 (Opl.par (x &&& g1) : Nat), .int .u8 (Opl.par (x &&& g2) : Nat)]]) (by simp [results, Try.results26, go_sem]; exact mask32 hw k0 k1) rfl ⟨rfl, ?_⟩
  exact bel_drewN (bel3 _ _ _ _) _


/-- a state that a code has -/
def StOk (c : Opl.Code) (s : Nat) : Prop := s < 2 ^ (c.K.toNat - 1)

theorem step_any (c : Opl.Code) (hf : c.Fits) (hg : c.Good) (s b : Nat) (hs : StOk c s) (hb : b < 2) (w : World) :
    Calls Try.prog 26 #[codeV c, .int .u32 s, .int .u8 b] w fun e w' => e = .returned (.tuple #[.int .u32 (c.next s b), .agg (symC (c.sym s b))]) ∧ Below w.heap.size w w' := by
  obtain ⟨K, R, g0, g1, g2⟩ := c
  obtain ⟨k0, k1, hr⟩ := hg
  obtain ⟨_, _, _, _, h0, h1, h2⟩ := hf
  simp only [StOk] at *
  obtain ⟨k, rfl⟩ := Int.eq_ofNat_of_zero_le (show 0 ≤ K by omega)
  have hp : (2 : Nat) ^ ((k : Int).toNat - 1) ≤ 2 ^ 31 := Nat.pow_le_pow_right (by omega) (by simp; omega)
  have h31 : (2 : Nat) ^ 31 = 2147483648 := by decide
  rcases hr with rfl | rfl
  · exact step_2 k g0 g1 g2 (by omega) (by omega) h0 h1 h2 s b (by omega) hb w
  · exact step_3 k g0 g1 g2 (by omega) (by omega) h0 h1 h2 s b (by omega) hb w

theorem right_ok (c : Opl.Code) (hf : c.Fits) (hc : c.err = 0) (s b : Nat) (hs : StOk c s) (hb : b < 2) (w : World) :
    Calls Try.prog 25 #[codeV c, .int .u32 s, .int .u8 b] w fun e w' => e = .returned (.int .i64 0) ∧ Below w.heap.size w w' := by
  obtain ⟨k0, k1, hr⟩ := Opl.Code.good_of hc
  have HC := Lib.hid hc
  obtain ⟨k, hk⟩ := Int.eq_ofNat_of_zero_le (show 0 ≤ c.K by omega)
  have hp : (2 : Nat) ^ (k - 1) ≤ 2 ^ 31 := Nat.pow_le_pow_right (by omega) (by omega)
  have h31 : (2 : Nat) ^ 31 = 2147483648 := by decide
  have hs2 : s < 2 ^ (k - 1) := by have := hs; unfold StOk at this; rw [hk] at this; exact this
  have q : ((s : Int) / 2 ^ (k - 1) != 0) = false := by rw [shr_nat, Nat.div_eq_of_lt hs2]; rfl
  have q2 : ¬ ((1 : Int) < (b : Int)) := by omega
  have hs3 : s < 2147483648 := by omega
  have k3 : 3 ≤ k := by omega
  have k4 : k ≤ 32 := by omega
  clear hr hp h31 hs hs2 hc k0 k1
  obtain ⟨K, R, g0, g1, g2⟩ := c
  simp only at hk
  subst hk
  go_enter Try.func25, Try.ntmps25
  go_wp2_with (go_at_call 22; refine (check_code ⟨(k : Int), R, g0, g1, g2⟩ hf _).mono ?_; rintro e w1 ⟨rfl, hb1⟩; simp only [HC.out]; obtain ⟨c1, c2, c3, c4⟩ := bfacts hb1; simp only [World.size_alloc] at c1 c2 c3 c4)
  go_ret
  exact ⟨rfl, (bel1 _ _).trans (hb1.mono (by simp))⟩

set_option maxHeartbeats 1000000 in
theorem Step_ok (c : Opl.Code) (hf : c.Fits) (hc : c.err = 0) (s b : Nat) (hs : StOk c s) (hb : b < 2) (w : World) :
    Calls Try.prog 15 #[codeV c, .int .u32 s, .int .u8 b] w fun e w' => e = .returned (.tuple #[.int .u32 (c.next s b), .agg (symC (c.sym s b)), .int .i64 0]) ∧ Below w.heap.size w w' := by
  have HF := Lib.hid hf
  have HC := Lib.hid hc
  clear hf hc
  go_enter Try.func15, Try.ntmps15
  go_wp2_with (go_at_call 25; refine (right_ok c HF.out HC.out s b hs hb _).mono ?_; rintro e w1 ⟨rfl, hb1⟩; obtain ⟨c1, c2, c3, c4⟩ := bfacts hb1; simp only [World.size_alloc] at c1 c2 c3 c4; have hz := hb1.size; simp only [World.size_alloc] at hz; have hz0 : w.heap.size < w1.heap.size := by omega)
  have hz1 : w.heap.size + 1 < w1.heap.size := by omega
  refine (step_any c HF.out (Opl.Code.good_of HC.out) s b hs hb _).mono ?_
  rintro e w2 ⟨rfl, hb2⟩
  obtain ⟨d1, d2, d3, d4⟩ := bfacts hb2
  have hz2 : w.heap.size + 1 < w2.heap.size := by have := hb2.size; omega
  go_wp2_with fail
  go_region
  go_wp2_with fail
  refine bodyPost_ret (v := .tuple #[.int .u32 (c.next s b), .agg (symC (c.sym s b)), .int .i64 0]) ?_ rfl ⟨rfl, ?_⟩
  · have hz3 : w.heap.size + 1 < w2.heap.size + 1 := by omega
    simp [results, Try.results15, go_sem, d4, c4, hz1, hz2]
  · have hw1 := (bel2 _ _ _).trans (hb1.mono (by simp; omega))
    have hw2 := hw1.trans (hb2.mono (by omega))
    exact ((below_setRow hw2 (by omega) _).alloc (by simp; omega) _).drew
end Go.Proofs.Ytdhpkoclnnoniaa
