/- outpostlaw01.SameNodes of two equal lists of one or two nodes. -/
import Derived.Test.YtdhpkoclnnoniaaD1
namespace Go.Proofs.Ytdhpkoclnnoniaa
open Go.RowKit Go.Opk

set_option maxHeartbeats 1000000 in
theorem same_one (b1 c1 b2 c2 : Nat) (h1 : 1 ≤ c1) (h2 : 1 ≤ c2) (x : Opl.Node) (w : World) (ha : blk w b1 = nodeC x) (hb : blk w b2 = nodeC x) :
    Calls Try.prog 9 #[.slice (some ⟨b1, 0, none⟩) 1 c1, .slice (some ⟨b2, 0, none⟩) 1 c2] w fun e w' => e = .returned (.bool true) ∧ ∃ k, w' = w.drewN k := by
  go_enter Try.func9, Try.ntmps9
  go_wp2_with fail
  refine wp_loop_rounds 2 ?_
  rw [rounds_succ]
  go_wp2_with (go_quiet (fail))
  rw [rounds_succ]
  go_wp2_with (go_quiet (fail))
  go_ret
  exact ⟨rfl, _, rfl⟩

set_option maxHeartbeats 1000000 in
theorem same_two (b1 c1 b2 c2 : Nat) (h1 : 2 ≤ c1) (h2 : 2 ≤ c2) (x y : Opl.Node) (w : World) (ha : blk w b1 = #[.int .u32 x.s, .int .i64 x.d, .int .i64 x.m, .int .u32 y.s, .int .i64 y.d, .int .i64 y.m]) (hb : blk w b2 = #[.int .u32 x.s, .int .i64 x.d, .int .i64 x.m, .int .u32 y.s, .int .i64 y.d, .int .i64 y.m]) :
    Calls Try.prog 9 #[.slice (some ⟨b1, 0, none⟩) 2 c1, .slice (some ⟨b2, 0, none⟩) 2 c2] w fun e w' => e = .returned (.bool true) ∧ ∃ k, w' = w.drewN k := by
  go_enter Try.func9, Try.ntmps9
  go_wp2_with fail
  refine wp_loop_rounds 3 ?_
  rw [rounds_succ]
  go_wp2_with (go_quiet (fail))
  rw [rounds_succ]
  go_wp2_with (go_quiet (fail))
  rw [rounds_succ]
  go_wp2_with (go_quiet (fail))
  go_ret
  exact ⟨rfl, _, rfl⟩
theorem same_kids (b1 b2 : Nat) (p : Opl.Prob) (n : Opl.Node) (w : World) (ha : blk w b1 = nodesC (p.kids n)) (hb : blk w b2 = nodesC (p.kids n)) :
    Calls Try.prog 9 #[.slice (some ⟨b1, 0, none⟩) (p.kids n).length (p.kids n).length, .slice (some ⟨b2, 0, none⟩) (p.kids n).length (p.kids n).length] w fun e w' => e = .returned (.bool true) ∧ ∃ k, w' = w.drewN k := by
  rcases (show (∃ x, p.kids n = [x]) ∨ ∃ x y, p.kids n = [x, y] by
    unfold Opl.Prob.kids; split
    · exact .inl ⟨_, rfl⟩
    · split <;> exact .inr ⟨_, _, rfl⟩) with ⟨x, h⟩ | ⟨x, y, h⟩
  · rw [h] at ha hb ⊢
    exact same_one b1 1 b2 1 (Nat.le_refl _) (Nat.le_refl _) x.1 w ha hb
  · rw [h] at ha hb ⊢
    exact same_two b1 2 b2 2 (Nat.le_refl _) (Nat.le_refl _) x.1 y.1 w ha hb
end Go.Proofs.Ytdhpkoclnnoniaa
