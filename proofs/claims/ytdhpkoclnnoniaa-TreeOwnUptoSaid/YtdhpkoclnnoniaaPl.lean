/- Plain facts: polynomials over two elements as numbers: the long division, the greatest common divisor, the length of a number. No condition. -/
import Derived.Laws.MathBits
import Derived.Lib.BitFns
namespace Opl
/-- one pass of the long division: k places of the quotient are still to come; d is the divisor's degree -/
def red (b d : Nat) : Nat → Nat → Nat
  | 0, lo => lo
  | k + 1, lo => red b d k (if lo.testBit (k + d) then lo ^^^ (b <<< k) else lo)

/-- how many bits a number has -/
def plen (a : Nat) : Nat := if a = 0 then 0 else Nat.log2 a + 1

def prest (a m : Nat) : Nat := red m (plen m - 1) (plen a - (plen m - 1)) a

def gcdF : Nat → Nat → Nat → Nat
  | 0, a, _ => a
  | f + 1, a, b => if b = 0 then a else gcdF f b (prest a b)

def pgcd (a b : Nat) : Nat := gcdF (b + 1) a b

theorem red_lt {b d : Nat} (hb : b < 2 ^ (d + 1)) (ht : b.testBit d = true) (k : Nat) : ∀ lo, lo < 2 ^ (k + d) → red b d k lo < 2 ^ d := by
  induction k with
  | zero => intro lo h; simpa [red] using h
  | succ k ih =>
    intro lo h
    simp only [red]
    refine ih _ (Nat.lt_pow_two_of_testBit _ fun i hi => ?_)
    have hlo : ∀ i, k + 1 + d ≤ i → lo.testBit i = false := fun i hi => Nat.testBit_lt_two_pow (Nat.lt_of_lt_of_le h (Nat.pow_le_pow_right (by omega) hi))
    have hbb : ∀ i, d + 1 ≤ i → b.testBit i = false := fun i hi => Nat.testBit_lt_two_pow (Nat.lt_of_lt_of_le hb (Nat.pow_le_pow_right (by omega) hi))
    split
    · rename_i hc
      rw [Nat.testBit_xor, Nat.testBit_shiftLeft]
      rcases Nat.eq_or_lt_of_le hi with e | hlt
      · subst e
        have : k + d - k = d := by omega
        simp [hc, this, ht]
      · rw [hlo i (by omega), hbb (i - k) (by omega)]; simp
    · rename_i hc
      rcases Nat.eq_or_lt_of_le hi with e | hlt
      · subst e; simpa using hc
      · exact hlo i (by omega)

theorem plen_lt (a : Nat) : a < 2 ^ plen a := by
  unfold plen
  split
  · subst_vars; simp
  · exact Nat.lt_log2_self
theorem plen_le {a : Nat} (h : a ≠ 0) : 2 ^ (plen a - 1) ≤ a := by
  unfold plen
  rw [if_neg h]
  exact Nat.log2_self_le h
theorem plen_pos {a : Nat} (h : a ≠ 0) : 1 ≤ plen a := by unfold plen; rw [if_neg h]; omega
theorem plen_bit {a : Nat} (h : a ≠ 0) : a.testBit (plen a - 1) = true := by
  have h1 := plen_le h
  have h2 := plen_lt a
  have h3 := plen_pos h
  obtain ⟨n, hn⟩ : ∃ n, plen a = n + 1 := ⟨plen a - 1, by omega⟩
  rw [hn] at h1 h2 ⊢
  simp only [Nat.add_sub_cancel] at *
  rw [Nat.testBit_eq_decide_div_mod_eq]
  have : a / 2 ^ n = 1 := by
    apply Nat.div_eq_of_lt_le
    · simpa using h1
    · rw [Nat.pow_succ] at h2; omega
  simp [this]
theorem plen_le_of_lt {a n : Nat} (h : a < 2 ^ n) : plen a ≤ n := by
  by_cases h0 : a = 0
  · simp [plen, h0]
  · have := plen_le h0
    have h3 := plen_pos h0
    have : plen a - 1 < n := (Nat.pow_lt_pow_iff_right (by omega : 1 < 2)).1 (Nat.lt_of_le_of_lt this h)
    omega

theorem prest_lt {a m : Nat} (hm : m ≠ 0) : prest a m < 2 ^ (plen m - 1) := by
  have h3 := plen_pos hm
  refine red_lt (d := plen m - 1) (by have := plen_lt m; rw [show plen m - 1 + 1 = plen m from by omega]; exact this) (plen_bit hm) _ _ ?_
  refine Nat.lt_of_lt_of_le (plen_lt a) (Nat.pow_le_pow_right (by omega) (by omega))
theorem prest_lt_self {a m : Nat} (hm : m ≠ 0) : prest a m < m := Nat.lt_of_lt_of_le (prest_lt hm) (plen_le hm)
theorem prest_plen {a m : Nat} (hm : m ≠ 0) : plen (prest a m) < plen m := by
  have := plen_le_of_lt (prest_lt (a := a) hm)
  have := plen_pos hm
  omega

theorem gcdF_more (f : Nat) : ∀ (g a b : Nat), plen b < f → plen b < g → gcdF f a b = gcdF g a b := by
  induction f with
  | zero => intro g a b h; omega
  | succ f ih =>
    intro g a b h1 h2
    cases g with
    | zero => omega
    | succ g =>
      simp only [gcdF]
      split
      · rfl
      · rename_i hb
        have := prest_plen (a := a) hb
        exact ih _ _ _ (by omega) (by omega)
theorem plen_le_self (b : Nat) : plen b ≤ b := by
  apply plen_le_of_lt
  exact Nat.lt_two_pow_self
theorem pgcd_zero (a : Nat) : pgcd a 0 = a := by simp [pgcd, gcdF]
theorem pgcd_step (a : Nat) {b : Nat} (h : b ≠ 0) : pgcd a b = pgcd b (prest a b) := by
  unfold pgcd
  rw [show gcdF (b + 1) a b = gcdF b b (prest a b) from by rw [gcdF, if_neg h]]
  have := prest_plen (a := a) h
  have := plen_le_self b
  have := plen_le_self (prest a b)
  exact gcdF_more _ _ _ _ (by omega) (by omega)
theorem pgcd_eq64 {a b : Nat} (h : b < 2 ^ 64) : pgcd a b = gcdF 65 a b := by
  have := plen_le_self b
  have := plen_le_of_lt h
  exact gcdF_more _ _ _ _ (by omega) (by omega)

theorem plen_shift (x b : Nat) (h : x / 2 ^ b ≠ 0) : plen x = b + plen (x / 2 ^ b) := Go.bitLen_shift x b h
theorem plen_lib {k : Nat} (h : k < 256) : Go.Lib.bitLen k = plen k := by
  have all : ∀ j : Fin 256, Go.Lib.bitLen j.val = plen j.val := by decide +kernel
  exact all ⟨k, h⟩
theorem len8_plen {b : Int} (h0 : 0 ≤ b) (h1 : b ≤ 255) : Go.Lib.len8 b = (plen b.toNat : Int) := by
  rw [Go.Lib.len8_of b h0 h1, plen_lib (by omega)]
theorem plen8 {k : Nat} (h : k < 256) : plen k ≤ 8 := plen_le_of_lt (by simpa using h)
theorem gcdF_lt (N f : Nat) : ∀ (a b : Nat), a < N → b < N → gcdF f a b < N := by
  induction f with
  | zero => intro a b h _; exact h
  | succ f ih =>
    intro a b h1 h2
    simp only [gcdF]
    split
    · exact h1
    · rename_i hb
      exact ih _ _ h2 (Nat.lt_trans (prest_lt_self hb) h2)
theorem pgcd_lt {N a b : Nat} (ha : a < N) (hb : b < N) : pgcd a b < N := gcdF_lt N _ _ _ ha hb

/-! ### codes -/
structure Code where
  K : Int
  R : Int
  g0 : Nat
  g1 : Nat
  g2 : Nat
def bad (K : Int) (g : Nat) : Bool := g == 0 || g / 2 ^ K.toNat != 0
def Code.ors (c : Code) : Nat := if c.R = 2 then c.g0 ||| c.g1 else (c.g0 ||| c.g1) ||| c.g2
def Code.common (c : Code) : Nat := if c.R = 2 then pgcd (pgcd 0 c.g0) c.g1 else pgcd (pgcd (pgcd 0 c.g0) c.g1) c.g2
def Code.shape (c : Code) : Bool := decide (3 ≤ c.K ∧ c.K ≤ 32) && (c.R == 3 || (c.R == 2 && c.g2 == 0))
def Code.bads (c : Code) : Bool := bad c.K c.g0 || bad c.K c.g1 || (c.R != 2 && bad c.K c.g2)
def Code.low (c : Code) : Bool := c.ors % 2 == 0 || c.ors / 2 ^ (c.K.toNat - 1) == 0
/-- the error's number of a code -/
def Code.err (c : Code) : Int :=
  if c.shape then if c.bads then 50 else if c.low then 51 else if c.common = 1 then 0 else 52 else 50
/-- the kinds hold it -/
structure Code.Fits (c : Code) : Prop where
  k0 : -9223372036854775808 ≤ c.K
  k1 : c.K ≤ 9223372036854775807
  r0 : -9223372036854775808 ≤ c.R
  r1 : c.R ≤ 9223372036854775807
  h0 : c.g0 < 4294967296
  h1 : c.g1 < 4294967296
  h2 : c.g2 < 4294967296

/-! ### tables -/
structure Tab where
  lev : Int
  m : Nat → Nat → Int
def Tab.good (t : Tab) (b r : Nat) : Bool := decide (-4096 ≤ t.m b r ∧ t.m b r ≤ 4096) && (decide ((r : Int) < t.lev) || t.m b r == 0)
def Tab.row (t : Tab) (b : Nat) : Bool := (List.range 16).all fun r => t.good b r
def Tab.ok (t : Tab) : Bool := decide (2 ≤ t.lev ∧ t.lev ≤ 16) && (t.row 0 && t.row 1)
def Tab.err (t : Tab) : Int := if t.ok then 0 else 100
structure Tab.Fits (t : Tab) : Prop where
  l0 : -9223372036854775808 ≤ t.lev
  l1 : t.lev ≤ 9223372036854775807
  m0 : ∀ b r, -9223372036854775808 ≤ t.m b r
  m1 : ∀ b r, t.m b r ≤ 9223372036854775807
/-- so many symbols' metrics -/
def bsum (t : Tab) (y lv : Nat → Nat) : Nat → Int
  | 0 => 0
  | n + 1 => bsum t y lv n + t.m (y n) (lv n)
structure Tab.Good (t : Tab) : Prop where
  l0 : 2 ≤ t.lev
  l1 : t.lev ≤ 16
  m0 : ∀ b r, b < 2 → r < 16 → -4096 ≤ t.m b r
  m1 : ∀ b r, b < 2 → r < 16 → t.m b r ≤ 4096
theorem Tab.good_of {t : Tab} (h : t.err = 0) : t.Good := by
  have ho : t.ok = true := by
    unfold Tab.err at h
    split at h
    · assumption
    · omega
  simp only [Tab.ok, Tab.row, Bool.and_eq_true, decide_eq_true_eq, List.all_eq_true, List.mem_range] at ho
  obtain ⟨⟨h0, h1⟩, h2, h3⟩ := ho
  have hg : ∀ b r, b < 2 → r < 16 → t.good b r = true := fun b r hb hr => by
    have : b = 0 ∨ b = 1 := by omega
    rcases this with rfl | rfl
    · exact h2 r hr
    · exact h3 r hr
  exact ⟨h0, h1, fun b r hb hr => by have := hg b r hb hr; simp [Tab.good] at this; omega, fun b r hb hr => by have := hg b r hb hr; simp [Tab.good] at this; omega⟩
theorem bsum_bd {t : Tab} (ht : t.Good) {y lv : Nat → Nat} (n : Nat) (hy : ∀ i, i < n → y i < 2) (hl : ∀ i, i < n → (lv i : Int) < t.lev) : -4096 * (n : Int) ≤ bsum t y lv n ∧ bsum t y lv n ≤ 4096 * (n : Int) := by
  induction n with
  | zero => simp [bsum]
  | succ n ih =>
    have h := ih (fun i hi => hy i (by omega)) (fun i hi => hl i (by omega))
    have l := hl n (by omega)
    have l1 := ht.l1
    have a := ht.m0 (y n) (lv n) (hy n (by omega)) (by omega)
    have b := ht.m1 (y n) (lv n) (hy n (by omega)) (by omega)
    simp only [bsum]
    omega
/-! ### the trellis -/
def popN : Nat → Nat → Nat
  | 0, _ => 0
  | n + 1, x => x % 2 + popN n (x / 2)
/-- the parity of the bits of a number below 2^32 -/
def par (x : Nat) : Nat := popN 32 x % 2
theorem par_lt (x : Nat) : par x < 2 := Nat.mod_lt _ (by omega)
theorem popN_add (a b : Nat) : ∀ x, popN (a + b) x = popN a x + popN b (x / 2 ^ a) := by
  induction a with
  | zero => intro x; simp [popN]
  | succ a ih =>
    intro x
    rw [show a + 1 + b = (a + b) + 1 from by omega]
    simp only [popN, ih]
    rw [Nat.div_div_eq_div_mul, Nat.pow_succ, Nat.mul_comm 2]
    omega
theorem popN_mod (n : Nat) : ∀ x, popN n (x % 2 ^ n) = popN n x := by
  induction n with
  | zero => intro x; rfl
  | succ n ih =>
    intro x
    simp only [popN]
    rw [Nat.pow_succ, Nat.mul_comm, Nat.mod_mul_right_mod]
    congr 1
    rw [← ih (x / 2)]
    congr 1
    rw [Nat.mod_mul_right_div_self]
theorem pop8_popN {k : Nat} (h : k < 256) : Go.Lib.onesCount k = popN 8 k := by
  have all : ∀ j : Fin 256, Go.Lib.onesCount j.val = popN 8 j.val := by decide +kernel
  exact all ⟨k, h⟩
theorem pop32 (x : Nat) (h : x < 4294967296) : Go.Lib.onesCount (x / 16777216) + Go.Lib.onesCount (x / 65536 % 256) + Go.Lib.onesCount (x / 256 % 256) + Go.Lib.onesCount (x % 256) = popN 32 x := by
  rw [pop8_popN (by omega), pop8_popN (by omega), pop8_popN (by omega), pop8_popN (by omega)]
  have e : popN 32 x = popN 8 x + (popN 8 (x / 256) + (popN 8 (x / 65536) + popN 8 (x / 16777216))) := by
    rw [show 32 = 8 + (8 + (8 + 8)) from rfl, popN_add, popN_add, popN_add]
    simp only [Nat.div_div_eq_div_mul, show (2 : Nat) ^ 8 = 256 from rfl]
  have m := popN_mod 8
  simp only [show (2 : Nat) ^ 8 = 256 from rfl] at m
  rw [e, m, m, m]
  omega
def Code.g (c : Code) (i : Nat) : Nat := if i = 0 then c.g0 else if i = 1 then c.g1 else c.g2
/-- the state behind a step -/
def Code.next (c : Code) (s b : Nat) : Nat := (2 * s + b) % 2 ^ (c.K.toNat - 1)
/-- the symbols of a step -/
def Code.sym (c : Code) (s b i : Nat) : Nat := if (i : Int) < c.R then par ((2 * s + b) &&& c.g i) else 0
theorem Code.sym_lt (c : Code) (s b i : Nat) : c.sym s b i < 2 := by
  unfold Code.sym
  split
  · exact par_lt _
  · omega
/-- what a code that may be is known for -/
structure Code.Good (c : Code) : Prop where
  k0 : 3 ≤ c.K
  k1 : c.K ≤ 32
  r : c.R = 2 ∨ c.R = 3
theorem Code.good_of {c : Code} (h : c.err = 0) : c.Good := by
  have hs : c.shape = true := by
    cases e : c.shape
    · simp [Code.err, e] at h
    · rfl
  simp only [Code.shape, Bool.and_eq_true, decide_eq_true_eq, Bool.or_eq_true, beq_iff_eq] at hs
  exact ⟨hs.1.1, hs.1.2, by rcases hs.2 with h | h; exact .inr h; exact .inl h.1⟩
theorem Code.next_lt (c : Code) (s b : Nat) : c.next s b < 2 ^ (c.K.toNat - 1) := Nat.mod_lt _ (Nat.two_pow_pos _)
end Opl
