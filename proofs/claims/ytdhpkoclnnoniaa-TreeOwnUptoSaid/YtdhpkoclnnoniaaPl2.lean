/- Plain facts: problems, their error's number. No condition. -/
import Derived.Test.YtdhpkoclnnoniaaPl
namespace Opl
structure Prob where
  c : Code
  t : Tab
  L : Int
  n : Nat
  lv : Nat → Nat
def Prob.low (p : Prob) : Bool := (List.range p.n).all fun i => decide ((p.lv i : Int) < p.t.lev)
def Prob.err (p : Prob) : Int :=
  if p.c.err = 0 then if p.t.err = 0 then if 1 ≤ p.L ∧ p.L ≤ 1024 then if (p.n : Int) = (p.L + p.c.K - 1) * p.c.R then if p.low then 0 else 91 else 5 else 1 else p.t.err else p.c.err
structure Prob.Fits (p : Prob) : Prop where
  c : p.c.Fits
  t : p.t.Fits
  l0 : -9223372036854775808 ≤ p.L
  l1 : p.L ≤ 9223372036854775807
  n1 : p.n ≤ 140737488351232
  v : ∀ i, i < p.n → p.lv i < 256
/-- what a problem that may be is known for -/
structure Prob.Good (p : Prob) : Prop where
  c : p.c.err = 0
  t : p.t.err = 0
  l0 : 1 ≤ p.L
  l1 : p.L ≤ 1024
  n : (p.n : Int) = (p.L + p.c.K - 1) * p.c.R
  v : ∀ i, i < p.n → (p.lv i : Int) < p.t.lev
theorem Prob.good_of {p : Prob} (h : p.err = 0) : p.Good := by
  unfold Prob.err at h
  split at h
  · split at h
    · split at h
      · split at h
        · split at h
          · rename_i h1 h2 h3 h4 h5
            refine ⟨h1, h2, h3.1, h3.2, h4, fun i hi => ?_⟩
            simp only [Prob.low, List.all_eq_true, List.mem_range, decide_eq_true_eq] at h5
            exact h5 i hi
          · cases h
        · cases h
      · cases h
    · contradiction
  · contradiction
def rlo (t : Tab) (b : Nat) (a : Int) : Nat → Int
  | 0 => a
  | n + 1 => min (rlo t b a n) (t.m b n)
def rhi (t : Tab) (b : Nat) (a : Int) : Nat → Int
  | 0 => a
  | n + 1 => max (rhi t b a n) (t.m b n)
/-- the least and the greatest metric of a symbol -/
def Tab.lo (t : Tab) : Int := rlo t 1 (rlo t 0 (t.m 0 0) t.lev.toNat) t.lev.toNat
def Tab.hi (t : Tab) : Int := rhi t 1 (rhi t 0 (t.m 0 0) t.lev.toNat) t.lev.toNat
theorem rlo_bd {t : Tab} (ht : t.Good) {b : Nat} (hb : b < 2) {a : Int} (h0 : -4096 ≤ a) (h1 : a ≤ 4096) (n : Nat) (hn : (n : Int) ≤ t.lev) : -4096 ≤ rlo t b a n ∧ rlo t b a n ≤ 4096 := by
  induction n with
  | zero => exact ⟨h0, h1⟩
  | succ n ih =>
    have := ih (by omega)
    have l1 := ht.l1
    have a := ht.m0 b n hb (by omega)
    have b := ht.m1 b n hb (by omega)
    simp only [rlo]
    omega
theorem rhi_bd {t : Tab} (ht : t.Good) {b : Nat} (hb : b < 2) {a : Int} (h0 : -4096 ≤ a) (h1 : a ≤ 4096) (n : Nat) (hn : (n : Int) ≤ t.lev) : -4096 ≤ rhi t b a n ∧ rhi t b a n ≤ 4096 := by
  induction n with
  | zero => exact ⟨h0, h1⟩
  | succ n ih =>
    have := ih (by omega)
    have l1 := ht.l1
    have a := ht.m0 b n hb (by omega)
    have b := ht.m1 b n hb (by omega)
    simp only [rhi]
    omega
theorem lo_bd {t : Tab} (ht : t.Good) : -4096 ≤ t.lo ∧ t.lo ≤ 4096 := by
  have a := ht.m0 0 0 (by omega) (by omega)
  have b := ht.m1 0 0 (by omega) (by omega)
  have l0 := ht.l0
  have h := rlo_bd ht (b := 0) (by omega) a b t.lev.toNat (by omega)
  exact rlo_bd ht (b := 1) (by omega) h.1 h.2 t.lev.toNat (by omega)
theorem hi_bd {t : Tab} (ht : t.Good) : -4096 ≤ t.hi ∧ t.hi ≤ 4096 := by
  have a := ht.m0 0 0 (by omega) (by omega)
  have b := ht.m1 0 0 (by omega) (by omega)
  have l0 := ht.l0
  have h := rhi_bd ht (b := 0) (by omega) a b t.lev.toNat (by omega)
  exact rhi_bd ht (b := 1) (by omega) h.1 h.2 t.lev.toNat (by omega)
end Opl
