/- The contracts of a made tree's good, Steps, Root, Kids. Conditions: the tree of a good problem; its own nodes above the leaves. -/
import Derived.Test.YtdhpkoclnnoniaaC4
namespace Go.Proofs.Ytdhpkoclnnoniaa
open Go.RowKit Go.Opk

theorem run_equalIn_func_nil {P : Program} (w : World) (d : Nat) (t : TypeId) (ps rs : Array TypeId) (v : Bool) (f : Fn) (x y : Array Value) (h : P.underlying t = some (.func ps rs v)) :
    (Op.equalIn (d + 1) t (.func f x y) .nilFunc).run P w = .ok false w := by
  simp [Op.equalIn, run_underlying h]
theorem run_neq_func_nil {P : Program} (w : World) (t : TypeId) (ps rs : Array TypeId) (v : Bool) (f : Fn) (x y : Array Value) (h : P.underlying t = some (.func ps rs v)) :
    (binOp .neq t (.func f x y) .nilFunc).run P w = .ok (.bool true) w := by
  simp only [binOp]
  simp [Op.equal, Op.maxDepth, run_equalIn_func_nil w 9999 t ps rs v f x y h]
theorem TreeAt.le {W : World} {B bt : Nat} {p : Opl.Prob} (h : TreeAt W B bt p) : bt < W.heap.size := by
  obtain ⟨bp, br, bw, c, h1, h2, h3⟩ := h
  exact Nat.lt_of_lt_of_le h2 h1.le
theorem TreeAt.cells {W : World} {B bt : Nat} {p : Opl.Prob} (h : TreeAt W B bt p) : W.cell? ⟨bt, 0, none⟩ = some (.int .i64 p.N) ∧ W.cell? ⟨bt, 1, none⟩ = some (.int .u64 ((2 ^ (p.c.K.toNat - 1) : Nat))) ∧
    (∃ f x y, W.cell? ⟨bt, 2, none⟩ = some (.func f x y)) ∧ W.cell? ⟨bt, 3, none⟩ = some (.int .i64 (min (p.c.R * p.N * p.t.lo) 0)) ∧ W.cell? ⟨bt, 4, none⟩ = some (.int .i64 (max (p.c.R * p.N * p.t.hi) 0)) ∧ W.cell? ⟨bt, 5, none⟩ = some (.int .i64 p.L) := by
  obtain ⟨bp, br, bw, c, h1, h2, h3⟩ := h
  refine ⟨?_, ?_, ⟨.func 14, #[], #[.pointer (some ⟨bp, 0, none⟩), .pointer (some ⟨br, 0, none⟩)], ?_⟩, ?_, ?_, ?_⟩
  all_goals rw [cell_blk, h3]; rfl

set_option maxRecDepth 100000 in
theorem good_made (p : Opl.Prob) (w : World) (B bt : Nat) (ht : TreeAt w B bt p) :
    Calls Try.prog 18 #[.pointer (some ⟨bt, 0, none⟩)] w fun e w' => e = .returned (.bool true) ∧ ∃ n, w' = w.drewN n := by
  obtain ⟨h0, h1, ⟨f, x, y, h2⟩, h3, h4, h5⟩ := ht.cells
  go_enter Try.func18, Try.ntmps18
  have hq := fun W => run_neq_func_nil W 52 _ _ _ f x y Try.underlying52
  go_wp2_with (go_quiet (fail))
  all_goals go_ret
  exact ⟨rfl, 0, rfl⟩

set_option maxRecDepth 100000 in
theorem steps_made (p : Opl.Prob) (w : World) (B bt : Nat) (ht : TreeAt w B bt p) :
    Calls Try.prog 7 #[.pointer (some ⟨bt, 0, none⟩)] w fun e w' => e = .returned (.int .i64 p.N) ∧ ∃ n, w' = w.drewN n := by
  obtain ⟨h0, h1, ⟨f, x, y, h2⟩, h3, h4, h5⟩ := ht.cells
  go_enter Try.func7, Try.ntmps7
  go_wp2_with (go_at_call 18; refine (good_made p _ B bt ht).mono ?_; rintro e w1 ⟨rfl, k, rfl⟩)
  go_ret
  exact ⟨rfl, k, rfl⟩

theorem root_made (t : Value) (w : World) : Calls Try.prog 11 #[t] w fun e w' => e = .returned (.agg (nodeC Opl.root)) ∧ Below w.heap.size w w' := by
  go_enter Try.func11, Try.ntmps11
  go_wp2_with fail
  refine bodyPost_ret (v := .agg (nodeC Opl.root)) (by simp [results, Try.results11, go_sem, Opl.root]) rfl ⟨rfl, bel1 _ _⟩
end Go.Proofs.Ytdhpkoclnnoniaa
