/- Plain facts: the tree of a problem. No condition. -/
import Derived.Test.YtdhpkoclnnoniaaPl2
namespace Opl
structure Node where
  s : Nat
  d : Nat
  m : Int
/-- the metric of a step from a state by a bit -/
def Prob.step (p : Prob) (s d b : Nat) : Int := bsum p.t (p.c.sym s b) (fun i => p.lv (d * p.c.R.toNat + i)) p.c.R.toNat
def Prob.kid (p : Prob) (n : Node) (b : Nat) : Node := ⟨p.c.next n.s b, n.d + 1, n.m + p.step n.s n.d b⟩
/-- how many steps it has -/
def Prob.N (p : Prob) : Nat := (p.L + p.c.K - 1).toNat
/-- a node of the tree; what is bounded of its metric -/
structure Prob.Ok (p : Prob) (n : Node) : Prop where
  s : n.s < 2 ^ (p.c.K.toNat - 1)
  d : n.d ≤ p.N
  m0 : -12288 * (n.d : Int) ≤ n.m
  m1 : n.m ≤ 12288 * (n.d : Int)
theorem Prob.N_eq {p : Prob} (h : p.Good) : (p.N : Int) = p.L + p.c.K - 1 := by
  have := (Code.good_of h.c).k0
  have := h.l0
  unfold Prob.N; omega
theorem Prob.N_bd {p : Prob} (h : p.Good) : 3 ≤ p.N ∧ p.N ≤ 1055 := by
  have e := Prob.N_eq h
  have := (Code.good_of h.c).k0
  have := (Code.good_of h.c).k1
  have := h.l0
  have := h.l1
  omega
theorem Prob.R_eq {p : Prob} (h : p.Good) : (p.c.R.toNat : Int) = p.c.R ∧ (p.c.R.toNat = 2 ∨ p.c.R.toNat = 3) := by
  have := (Code.good_of h.c).r
  omega
theorem Prob.n_eq {p : Prob} (h : p.Good) : p.n = p.N * p.c.R.toNat := by
  have e := Prob.N_eq h
  have hn := h.n
  obtain ⟨r1, r2⟩ := Prob.R_eq h
  have : (p.n : Int) = ((p.N * p.c.R.toNat : Nat) : Int) := by rw [hn, Int.natCast_mul, e, r1]
  omega
theorem Prob.at_lt {p : Prob} (h : p.Good) {d i : Nat} (hd : d < p.N) (hi : i < p.c.R.toNat) : d * p.c.R.toNat + i < p.n := by
  rw [Prob.n_eq h]
  have : (d + 1) * p.c.R.toNat ≤ p.N * p.c.R.toNat := Nat.mul_le_mul_right _ hd
  rw [Nat.add_mul] at this
  omega
theorem Prob.step_bd {p : Prob} (h : p.Good) {s d b : Nat} (hd : d < p.N) : -12288 ≤ p.step s d b ∧ p.step s d b ≤ 12288 := by
  have hb := bsum_bd (Tab.good_of h.t) (y := p.c.sym s b) (lv := fun i => p.lv (d * p.c.R.toNat + i)) p.c.R.toNat (fun i _ => Code.sym_lt _ _ _ _) (fun i hi => h.v _ (Prob.at_lt h hd hi))
  obtain ⟨r1, r2⟩ := Prob.R_eq h
  unfold Prob.step
  omega
theorem Prob.kid_ok {p : Prob} (h : p.Good) {n : Node} (hn : p.Ok n) (hd : n.d < p.N) (b : Nat) : p.Ok (p.kid n b) := by
  have := Prob.step_bd h (s := n.s) (b := b) hd
  obtain ⟨h1, h2, h3, h4⟩ := hn
  refine ⟨Code.next_lt _ _ _, hd, ?_, ?_⟩
  · show _ ≤ n.m + p.step n.s n.d b
    have : ((p.kid n b).d : Int) = n.d + 1 := rfl
    omega
  · show n.m + p.step n.s n.d b ≤ _
    have : ((p.kid n b).d : Int) = n.d + 1 := rfl
    omega
def root : Node := ⟨0, 0, 0⟩
theorem Prob.root_ok (p : Prob) : p.Ok root := ⟨Nat.two_pow_pos _, Nat.zero_le _, by simp [root], by simp [root]⟩
/-- the kids of a node that has some, and their bits: the worse one first -/
def Prob.kids (p : Prob) (n : Node) : List (Node × Nat) :=
  if p.L ≤ n.d then [(p.kid n 0, 0)]
  else if (p.kid n 0).m < (p.kid n 1).m then [(p.kid n 0, 0), (p.kid n 1, 1)] else [(p.kid n 1, 1), (p.kid n 0, 0)]
end Opl
