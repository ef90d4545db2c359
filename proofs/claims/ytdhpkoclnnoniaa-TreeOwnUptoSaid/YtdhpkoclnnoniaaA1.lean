/- Contracts of the leaves: the length of a number, how many ones it has, a polynomial's degree, the rest, the greatest common divisor. Conditions: the arguments are of their kinds. -/
import Derived.Test.YtdhpkoclnnoniaaChecked
import Derived.Test.YtdhpkoclnnoniaaPl
import Derived.Lib.Tables
import Derived.Lib.Strings
import Derived.Lib.Slices
import Derived.Lib.Small
import Derived.Lib.Walk
import Derived.WalkKit
import Derived.WalkSpells
import Derived.Deep.QuietTactic
import Derived.BigQuiet
import Derived.Lib.Hide
namespace Go.Proofs.Ytdhpkoclnnoniaa
open Go.RowKit

theorem tab_len (i : Nat) (h : i < Lib.len8tab.size) : (Lib.len8tab[i]'h).toNat = Opl.plen i := by
  have hs := Lib.len8tab_size
  have e := Opl.len8_plen (b := (i : Int)) (by omega) (by omega)
  simp only [Lib.len8, Int.toNat_natCast, ByteArray.getElem?_lt' _ _ h, Option.getD_some] at e
  omega
theorem len_end {x y : Int} {c : Nat} (hi : y.toNat < Lib.len8tab.size) (hc : c ≤ 56) (he : y.toNat = x.toNat / 2 ^ c) (hp : y.toNat ≠ 0) : wrap64 ((c : Int) + wrap64 ((Lib.len8tab[y.toNat]'hi).toNat : Int)) = (Opl.plen x.toNat : Int) := by
  have hs := Lib.len8tab_size
  rw [tab_len]
  have h8 := Opl.plen8 (k := y.toNat) (by omega)
  have hsh := Opl.plen_shift x.toNat c (by rw [← he]; exact hp)
  rw [← he] at hsh
  rw [hsh]
  unfold wrap64
  omega
theorem len_end0 {x : Int} (hi : x.toNat < Lib.len8tab.size) : wrap64 (wrap64 ((Lib.len8tab[x.toNat]'hi).toNat : Int)) = (Opl.plen x.toNat : Int) := by
  have hs := Lib.len8tab_size
  rw [tab_len]
  have h8 := Opl.plen8 (k := x.toNat) (by omega)
  unfold wrap64
  omega

set_option maxHeartbeats 4000000 in
set_option maxRecDepth 100000 in
theorem len64_int (x : Int) (w : World) (h0 : 0 ≤ x) (h1 : x ≤ 18446744073709551615) :
    Calls Try.prog 35 #[.int .u64 x] w fun e w' => e = .returned (.int .i64 (Opl.plen x.toNat)) ∧ w = w' := by
  have hs := Lib.len8tab_size
  go_enter Try.func35, Try.ntmps35
  go_wp2
  all_goals (go_ret; refine ⟨congrArg Ending.returned (congrArg (Value.int IntKind.i64) ?_), rfl⟩)
  all_goals first
    | exact len_end0 _
    | exact len_end (c := 56) _ (by omega) (by omega) (by omega)
    | exact len_end (c := 48) _ (by omega) (by omega) (by omega)
    | exact len_end (c := 40) _ (by omega) (by omega) (by omega)
    | exact len_end (c := 32) _ (by omega) (by omega) (by omega)
    | exact len_end (c := 24) _ (by omega) (by omega) (by omega)
    | exact len_end (c := 16) _ (by omega) (by omega) (by omega)
    | exact len_end (c := 8) _ (by omega) (by omega) (by omega)

theorem degree_int (x : Int) (w : World) (h0 : 0 ≤ x) (h1 : x ≤ 18446744073709551615) :
    Calls Try.prog 34 #[.int .u64 x] w fun e w' => e = .returned (.int .i64 ((Opl.plen x.toNat : Int) - 1)) ∧ w = w' := by
  have h64 := Opl.plen_le_of_lt (n := 64) (a := x.toNat) (by simp; omega)
  go_enter Try.func34, Try.ntmps34
  go_wp2_with (go_at_call 35; refine (len64_int _ _ (by omega) (by omega)).mono ?_; rintro e w' ⟨rfl, rfl⟩)
  go_ret
  exact ⟨rfl, rfl⟩

theorem and255 (y : Int) (h0 : 0 ≤ y) (h1 : y ≤ 4294967295) : bits .and .u32 y 255 = y % 256 := by go_bits2
theorem pop8_le (y : Int) (h0 : 0 ≤ y) (h1 : y ≤ 255) : 0 ≤ Lib.pop8 y ∧ Lib.pop8 y ≤ 8 := by
  have e := Lib.pop8_eq ⟨y.toNat, by omega⟩
  have l := Lib.onesCount_le8 ⟨y.toNat, by omega⟩
  have e2 : ((y.toNat : Nat) : Int) = y := by omega
  simp only [e2] at e
  simp only at l
  omega
set_option maxRecDepth 100000 in
theorem ones32_int (x : Int) (w : World) (h0 : 0 ≤ x) (h1 : x ≤ 4294967295) :
    Calls Try.prog 30 #[.int .u32 x] w fun e w' => e = .returned (.int .i64 (Lib.pop8 (x / 16777216) + Lib.pop8 (x / 65536 % 256) + Lib.pop8 (x / 256 % 256) + Lib.pop8 (x % 256))) ∧ ∃ n, w' = w.drewN n := by
  have hs := Lib.pop8tab_size
  have a0 : 0 ≤ x / 16777216 := by omega
  have a1 : x / 16777216 ≤ 255 := by omega
  have b0 : 0 ≤ x / 65536 % 256 := by omega
  have b1 : x / 65536 % 256 ≤ 255 := by omega
  have c0 : 0 ≤ x / 256 % 256 := by omega
  have c1 : x / 256 % 256 ≤ 255 := by omega
  have d0 : 0 ≤ x % 256 := by omega
  have d1 : x % 256 ≤ 255 := by omega
  obtain ⟨p0, p1⟩ := pop8_le _ a0 a1
  obtain ⟨q0, q1⟩ := pop8_le _ b0 b1
  obtain ⟨r0, r1⟩ := pop8_le _ c0 c1
  obtain ⟨s0, s1⟩ := pop8_le _ d0 d1
  have e1 := and255 (x / 65536) (by omega) (by omega)
  have e2 := and255 (x / 256) (by omega) (by omega)
  have e3 := and255 x (by omega) (by omega)
  go_enter Try.func30, Try.ntmps30
  go_wp2
  go_quiet (fail)
  go_wp2
  go_ret
  exact ⟨rfl, _, rfl⟩

theorem shr_nat (m n : Nat) : ((m : Int) / 2 ^ n) = ((m / 2 ^ n : Nat) : Int) := by
  rw [Int.natCast_ediv, Int.natCast_pow]; rfl
theorem bit_test64 {m n : Nat} (hm : m < 18446744073709551616) : (bits .and .u64 ((m : Int) / 2 ^ n) 1 != 0) = m.testBit n := by
  rw [shr_nat, show (1 : Int) = ((1 : Nat) : Int) from rfl, u64_and_nat _ _ (Nat.lt_of_le_of_lt (Nat.div_le_self _ _) hm) (by omega), Nat.testBit_eq_decide_div_mod_eq, Nat.and_one_is_mod]
  by_cases h : m / 2 ^ n % 2 = 1
  · simp [h]
  · have : m / 2 ^ n % 2 = 0 := by omega
    simp [this]
theorem shl_lt64 {b d k : Nat} (hb : b < 2 ^ (d + 1)) (hk : k + d ≤ 63) : b * 2 ^ k < 18446744073709551616 := by
  have h1 : b * 2 ^ k < 2 ^ (d + 1) * 2 ^ k := Nat.mul_lt_mul_of_pos_right hb (Nat.two_pow_pos k)
  rw [← Nat.pow_add] at h1
  have h2 : 2 ^ (d + 1 + k) ≤ 2 ^ 64 := Nat.pow_le_pow_right (by omega) (by omega)
  have : (2 : Nat) ^ 64 = 18446744073709551616 := by decide
  omega
theorem xor_step64 {m b d k : Nat} (hm : m < 18446744073709551616) (hb : b < 2 ^ (d + 1)) (hk : k + d ≤ 63) :
    bits .xor .u64 (m : Int) (IntKind.u64.wrap ((b : Int) * 2 ^ k)) = ((m ^^^ (b <<< k) : Nat) : Int) := by
  have h := shl_lt64 hb hk
  have e : IntKind.u64.wrap ((b : Int) * 2 ^ k) = ((b * 2 ^ k : Nat) : Int) := by
    rw [IntKind.wrap_u64, show ((b : Int) * 2 ^ k) = ((b * 2 ^ k : Nat) : Int) from by rw [Int.natCast_mul, Int.natCast_pow]; rfl]
    omega
  rw [e, bits_xor_u64_nat _ _ hm h, Nat.shiftLeft_eq]
theorem xor_lt64 {m b d k : Nat} (hm : m < 18446744073709551616) (hb : b < 2 ^ (d + 1)) (hk : k + d ≤ 63) : m ^^^ (b <<< k) < 18446744073709551616 := by
  have h := shl_lt64 hb hk
  rw [Nat.shiftLeft_eq]
  exact Nat.xor_lt_two_pow (n := 64) (by omega) (by omega)
theorem long_zero (lo b : Nat) (w : World) (hlo : lo < 18446744073709551616) (hb : b < 18446744073709551616) (hb0 : b ≠ 0) :
    Calls Try.prog 33 #[.int .u64 0, .int .u64 lo, .int .u64 b] w fun e w' => (∃ q : Int, e = .returned (.tuple #[.int .u64 q, .int .u64 (Opl.prest lo b)])) ∧ w = w' := by
  have h64 := Opl.plen_le_of_lt (n := 64) (a := lo) (by simpa using hlo)
  have b64 := Opl.plen_le_of_lt (n := 64) (a := b) (by simpa using hb)
  have bpos := Opl.plen_pos hb0
  obtain ⟨d, hd⟩ : ∃ d, Opl.plen b = d + 1 := ⟨Opl.plen b - 1, by omega⟩
  have Z := Lib.hid (show ((Opl.plen 0 : Nat) : Int) - 1 = -1 from rfl)
  have D := Lib.hid (show ((Opl.plen b : Nat) : Int) - 1 = (d : Int) from by omega)
  have HR := Lib.hid (show Opl.red b d (Opl.plen lo - d) lo = Opl.prest lo b from by unfold Opl.prest; rw [hd]; rfl)
  have hbd : b < 2 ^ (d + 1) := by rw [← hd]; exact Opl.plen_lt b
  have d63 : d ≤ 63 := by omega
  clear hd b64 bpos
  go_enter Try.func33, Try.ntmps33
  go_wp2_with (go_at_call 34; refine (degree_int _ _ (by omega) (by omega)).mono ?_; rintro e w' ⟨rfl, rfl⟩; simp only [Int.toNat_natCast, Int.toNat_zero, Z.out, D.out])
  refine wp_loop_rounds 1 ?_
  rw [rounds_succ]
  go_wp2_with (go_at_call 34; refine (degree_int _ _ (by omega) (by omega)).mono ?_; rintro e w' ⟨rfl, rfl⟩; simp only [Int.toNat_natCast, Int.toNat_zero, Z.out, D.out])
  go_loop [1, 6, 11] (fun l q i => ∃ (j x : Int) (m : Nat), l = .int .u64 m ∧ q = .int .u64 x ∧ i = .int .i64 j ∧ -1 ≤ j ∧ j ≤ 63 ∧ m < 18446744073709551616 ∧ Hid (Opl.red b d (j - d + 1).toNat m = Opl.prest lo b))
    (fun _ _ i => (intOf i - d + 1).toNat)
  case atStart =>
    exact ⟨(Opl.plen lo : Int) - 1, 0, lo, rfl, rfl, rfl, by omega, by omega, hlo, by rw [show ((Opl.plen lo : Int) - 1 - d + 1).toNat = Opl.plen lo - d from by omega]; exact HR.out⟩
  case round =>
    obtain ⟨j, x, m, rfl, rfl, rfl, hj0, hj1, hm, hred⟩ := hrel
    by_cases hj : (d : Int) ≤ j
    · obtain ⟨k, rfl⟩ : ∃ k : Nat, j = (k : Int) + d := ⟨(j - d).toNat, by omega⟩
      have hk : k + d ≤ 63 := by omega
      have hr : Hid (Opl.red b d k (if m.testBit (k + d) then m ^^^ (b <<< k) else m) = Opl.prest lo b) := by
        have := hred.out
        rwa [show ((k : Int) + d - d + 1).toNat = k + 1 from by omega] at this
      clear hred
      go_wp2
      · have ht : (bits .and .u64 ((m : Int) / 2 ^ (k + d)) 1 != 0) = true := by assumption
        rw [bit_test64 hm] at ht
        go_round
        case rel =>
          refine ⟨(k : Int) + d - 1, _, m ^^^ (b <<< k), ?_, rfl, rfl, by omega, by omega, xor_lt64 hm hbd hk, ?_⟩
          · rw [xor_step64 hm hbd hk]
          · rw [show ((k : Int) + d - 1 - d + 1).toNat = k from by omega]
            have := hr.out
            rwa [if_pos ht] at this
        case measure => simp [intOf]; omega
      · have ht : (bits .and .u64 ((m : Int) / 2 ^ (k + d)) 1 != 0) = false := by assumption
        rw [bit_test64 hm] at ht
        go_round
        case rel =>
          refine ⟨(k : Int) + d - 1, _, m, rfl, rfl, rfl, by omega, by omega, hm, ?_⟩
          rw [show ((k : Int) + d - 1 - d + 1).toNat = k from by omega]
          have := hr.out
          rwa [if_neg (by simp [ht])] at this
        case measure => simp [intOf]; omega
    · have hr := hred.out
      rw [show (j - d + 1).toNat = 0 from by omega] at hr
      have HR2 : Hid (m = Opl.prest lo b) := hr
      clear hr hred
      go_wp2
      go_ret2
      exact ⟨⟨_, by rw [← HR2.out]; rfl⟩, rfl⟩

theorem rest_any (a m : Nat) (w : World) (ha : a < 18446744073709551616) (hm : m < 18446744073709551616) (hm0 : m ≠ 0) :
    Calls Try.prog 32 #[.int .u64 a, .int .u64 m] w fun e w' => e = .returned (.int .u64 (Opl.prest a m)) ∧ w = w' := by
  go_enter Try.func32, Try.ntmps32
  go_wp2_with (go_at_call 33; refine (long_zero _ _ _ ha hm hm0).mono ?_; rintro e w' ⟨⟨q, rfl⟩, rfl⟩)
  go_ret
  exact ⟨rfl, rfl⟩

theorem gcd_any (a b : Nat) (w : World) (ha : a < 18446744073709551616) (hb : b < 18446744073709551616) :
    Calls Try.prog 31 #[.int .u64 a, .int .u64 b] w fun e w' => e = .returned (.int .u64 (Opl.pgcd a b)) ∧ w = w' := by
  go_enter Try.func31, Try.ntmps31
  go_wp2_with fail
  go_loop [0, 1] (fun x y => ∃ m n : Nat, x = .int .u64 m ∧ y = .int .u64 n ∧ m < 18446744073709551616 ∧ n < 18446744073709551616 ∧ Hid (Opl.pgcd m n = Opl.pgcd a b)) (fun _ y => (intOf y).toNat)
  case atStart => exact ⟨a, b, rfl, rfl, ha, hb, rfl⟩
  case round =>
    obtain ⟨m, n, rfl, rfl, hm, hn, hg⟩ := hrel
    by_cases h0 : n = 0
    · subst h0
      have HG : Hid (m = Opl.pgcd a b) := by have := hg.out; rwa [Opl.pgcd_zero] at this
      clear hg
      go_wp2_with fail
      go_ret
      exact ⟨by rw [← HG.out]; rfl, rfl⟩
    · have h1 : ((n : Int) != 0) = true := by simp; omega
      have h2 := Opl.prest_lt_self (a := m) h0
      go_wp2_with (go_at_call 32; refine (rest_any _ _ _ hm hn h0).mono ?_; rintro e w' ⟨rfl, rfl⟩)
      go_round
      case rel => exact ⟨n, Opl.prest m n, rfl, rfl, hn, by omega, by rw [← Opl.pgcd_step _ h0]; exact hg⟩
      case measure => simp [intOf]; omega
theorem gcd_int (a b : Int) (w : World) (a0 : 0 ≤ a) (ha : a < 18446744073709551616) (b0 : 0 ≤ b) (hb : b < 18446744073709551616) :
    Calls Try.prog 31 #[.int .u64 a, .int .u64 b] w fun e w' => e = .returned (.int .u64 (Opl.pgcd a.toNat b.toNat)) ∧ w = w' := by
  obtain ⟨m, rfl⟩ := Int.eq_ofNat_of_zero_le a0
  obtain ⟨n, rfl⟩ := Int.eq_ofNat_of_zero_le b0
  simp only [Int.toNat_natCast]
  exact gcd_any m n w (by omega) (by omega)
end Go.Proofs.Ytdhpkoclnnoniaa
