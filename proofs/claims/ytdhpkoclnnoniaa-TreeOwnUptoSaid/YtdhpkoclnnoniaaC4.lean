/- The contract of a made tree's two. Conditions: the tree of a good problem; its own nodes above the leaves. -/
import Derived.Test.YtdhpkoclnnoniaaC3
import Derived.Deep.DeepCutAuto
import Derived.Deep.CutRange
namespace Go.Proofs.Ytdhpkoclnnoniaa
open Go.RowKit Go.Opk

/-- nodes, and their bits, as memory holds them -/
def nodesC (l : List (Opl.Node × Nat)) : Array Value := (l.flatMap fun x => [.int .u32 x.1.s, .int .i64 x.1.d, .int .i64 x.1.m]).toArray
def bitsC (l : List (Opl.Node × Nat)) : Array Value := (l.map fun x => Value.int .u8 x.2).toArray
/-- the kids where information comes -/
def _root_.Opl.Prob.two (p : Opl.Prob) (n : Opl.Node) : List (Opl.Node × Nat) := if (p.kid n 0).m < (p.kid n 1).m then [(p.kid n 0, 0), (p.kid n 1, 1)] else [(p.kid n 1, 1), (p.kid n 0, 0)]
theorem TwoS3B {w W W' : World} {bt bp br bw c : Nat} {p : Opl.Prob} {n : Opl.Node} (h : TwoS w bt w.heap.size bp br bw c p n W ∧ W.cell? ⟨bt, 2, none⟩ = some (.func (.func 14) #[] #[.pointer (some ⟨bp, 0, none⟩), .pointer (some ⟨br, 0, none⟩)]) ∧ blk W w.heap.size = nodeC n) (hB : Below (w.heap.size + 1) W W') :
    TwoS w bt w.heap.size bp br bw c p n W' ∧ W'.cell? ⟨bt, 2, none⟩ = some (.func (.func 14) #[] #[.pointer (some ⟨bp, 0, none⟩), .pointer (some ⟨br, 0, none⟩)]) ∧ blk W' w.heap.size = nodeC n := by
  obtain ⟨⟨h1, h2, h3, h4, h5, h6⟩, -, -⟩ := h
  have hB' := hB.mono (Nat.le_succ _)
  have e1 : W'.cell? ⟨bt, 2, none⟩ = W.cell? ⟨bt, 2, none⟩ := hB'.cell h4
  have e2 : blk W' w.heap.size = nodeC n := by rw [← h3]; simp only [blk, hB.block _ (Nat.lt_succ_self _)]
  exact ⟨⟨h1.below hB', by rw [e1]; exact h2, e2, h4, Nat.lt_of_lt_of_le h5 hB.size, h6.trans hB'⟩, by rw [e1]; exact h2, e2⟩

set_option maxHeartbeats 4000000 in
set_option maxRecDepth 100000 in
theorem two_kids (p : Opl.Prob) (hf : p.Fits) (hg : p.Good) (n : Opl.Node) (hn : p.Ok n) (hd : n.d < p.N) (w : World) (B bt : Nat) (ht : TreeAt w B bt p) :
    Calls Try.prog 19 #[.pointer (some ⟨bt, 0, none⟩), .agg (nodeC n)] w fun e w' => ∃ b1 b2, e = .returned (.tuple #[.slice (some ⟨b1, 0, none⟩) 2 2, .slice (some ⟨b2, 0, none⟩) 2 2]) ∧
      Pair w w' b1 b2 (nodesC (p.two n)) (bitsC (p.two n)) := by
  obtain ⟨bp, br, bw, c, hk, hlt, hT⟩ := ht
  have hle := hk.le
  have hlt' : bt < w.heap.size := by omega
  have j2 : w.cell? ⟨bt, 2, none⟩ = some (.func (.func 14) #[] #[.pointer (some ⟨bp, 0, none⟩), .pointer (some ⟨br, 0, none⟩)]) := by rw [cell_blk, hT]; rfl
  have S0 : TwoS w bt w.heap.size bp br bw c p n (w.alloc (.cells (nodeC n) 42)) := by
    refine ⟨?_, ?_, ?_, hlt', by simp, bel1 _ _⟩
    · have := hk.below (bel1 w (.cells (nodeC n) 42) |>.mono hle)
      exact ⟨by simp, Nat.lt_of_lt_of_le this.hp hle, Nat.lt_of_lt_of_le this.hr hle, Nat.lt_of_lt_of_le this.hw hle, this.P, this.R, this.L, this.c⟩
    · simp [go_sem, hlt', j2]
    · simp [go_sem]
  have KK : ∀ (i : Int) (hi : 0 ≤ i ∧ i < 2) W, TwoS w bt w.heap.size bp br bw c p n W → Calls Try.prog 14 #[.agg (nodeC n), .int .u8 i, .pointer (some ⟨bp, 0, none⟩), .pointer (some ⟨br, 0, none⟩)] W fun e w' => e = .returned (.agg (nodeC (p.kid n i.toNat))) ∧ Below W.heap.size W w' := by
    intro i hi W h
    have := kid_any p hf hg n hn hd i.toNat (by omega) W _ bp br bw 0 c h.1
    rw [show ((i.toNat : Nat) : Int) = i from by omega] at this
    exact this
  have S1 := Lib.hid (show TwoS w bt w.heap.size bp br bw c p n (w.alloc (.cells (nodeC n) 42)) ∧ (w.alloc (.cells (nodeC n) 42)).cell? ⟨bt, 2, none⟩ = some (.func (.func 14) #[] #[.pointer (some ⟨bp, 0, none⟩), .pointer (some ⟨br, 0, none⟩)]) ∧ blk (w.alloc (.cells (nodeC n) 42)) w.heap.size = nodeC n from ⟨S0, S0.2.1, S0.2.2.1⟩)
  have z2 : w.heap.size < (w.alloc (.cells (nodeC n) 42)).heap.size := by simp
  clear hf hg hn hk
  go_enter Try.func19, Try.ntmps19
  go_wp2_with fail
  go_cut [6, 7] (fun v6 v7 wx => ∃ b6 b7, v6 = .pointer (some ⟨b6, 0, none⟩) ∧ v7 = .pointer (some ⟨b7, 0, none⟩) ∧ blk wx b6 = nodeC (p.kid n 0) ∧ blk wx b7 = nodeC (p.kid n 1) ∧ Below w.heap.size w wx)
  case first =>
    go_region_held3 (fun W => TwoS w bt w.heap.size bp br bw c p n W ∧ W.cell? ⟨bt, 2, none⟩ = some (.func (.func 14) #[] #[.pointer (some ⟨bp, 0, none⟩), .pointer (some ⟨br, 0, none⟩)]) ∧ blk W w.heap.size = nodeC n)
      (with_reducible first | exact HS.out | (refine TwoS3B HS.out ?_; (repeat' (first | refine Below.alloc ?_ ?_ _ | refine Below.setCell ?_ ?_ _ | exact Below.refl _ _)); all_goals ((try simp only [World.size_alloc, World.size_setCell]); omega)) | (refine TwoS3B S1.out ?_; (repeat' (first | exact Below.refl _ _ | refine Below.drew ?_ | refine Below.alloc ?_ ?_ _)); all_goals ((try simp only [World.size_alloc, World.size_drew]); omega)) | fail)
      (first | (go_at_call 14; refine (KK _ (by decide) _ (And.left ‹_›)).mono ?_; rintro e w3 ⟨rfl, hb3⟩; have HS := Lib.hid (TwoS3 ‹_› hb3); obtain ⟨c1, c2, c3, c4⟩ := bfacts hb3; have hz := hb3.size; (try simp only [World.size_alloc, World.size_drew] at c1 c2 c3 c4 hz); (try have y : w.heap.size + 1 < w3.heap.size := (by omega)); (try have y5 := Nat.ne_of_lt y); (try have y6 := Nat.ne_of_gt y); (try have y2 : w.heap.size + 1 + 1 < w3.heap.size := (by omega)); (try have y3 := Nat.lt_of_succ_le hz); (try have y4 := Nat.lt_of_succ_lt y3)))
    all_goals go_wp2_with fail
    all_goals go_meet
    all_goals (
      refine ⟨_, _, rfl, rfl, ?_, ?_, (And.left ‹TwoS _ _ _ _ _ _ _ _ _ _ ∧ _›).2.2.2.2.2⟩
      · first | (go_simp; done) | (go_simp; rfl)
      · first | (go_simp; done) | (go_simp; rfl))
  case rest =>
    obtain ⟨b6, b7, rfl, rfl, h6, h7, hB⟩ := hcut
    obtain ⟨i1, i2, i3⟩ := cell3 h6
    obtain ⟨j1, j2, j3⟩ := cell3 h7
    by_cases hm : (p.kid n 0).m < (p.kid n 1).m
    · have hp : p.two n = [(p.kid n 0, 0), (p.kid n 1, 1)] := if_pos hm
      have hb : decide ((p.kid n 0).m < (p.kid n 1).m) = true := decide_eq_true hm
      have HP := Lib.hid hp
      clear hm hp
      go_wp2_with fail
      all_goals go_ret2
      all_goals refine ⟨_, _, rfl, ?_⟩
      all_goals rw [HP.out]
      all_goals first | exact pair_late hB _ _ _ _ | exact pair_late' hB _ _ _ _
    · have hp : p.two n = [(p.kid n 1, 1), (p.kid n 0, 0)] := if_neg hm
      have hb : decide ((p.kid n 0).m < (p.kid n 1).m) = false := decide_eq_false hm
      have HP := Lib.hid hp
      clear hm hp
      go_wp2_with fail
      all_goals go_ret2
      all_goals refine ⟨_, _, rfl, ?_⟩
      all_goals rw [HP.out]
      all_goals first | exact pair_late hB _ _ _ _ | exact pair_late' hB _ _ _ _
end Go.Proofs.Ytdhpkoclnnoniaa
