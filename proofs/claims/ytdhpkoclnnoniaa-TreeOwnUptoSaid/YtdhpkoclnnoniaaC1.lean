/- The contract of the tree's kid, its closure. Conditions: a good problem, a node of its tree above the leaves, a bit. -/
import Derived.Test.YtdhpkoclnnoniaaB4
import Derived.Test.YtdhpkoclnnoniaaK2
import Derived.Test.YtdhpkoclnnoniaaB5
import Derived.StillTailTactics
namespace Go.Proofs.Ytdhpkoclnnoniaa
open Go.RowKit Go.Opk

abbrev nodeC (n : Opl.Node) : Array Value := #[.int .u32 n.s, .int .i64 n.d, .int .i64 n.m]

/-- the problem's copy and the rate that a tree's closure has captured -/
structure KidAt (W : World) (B bp br bw off cap : Nat) (p : Opl.Prob) : Prop where
  le : B ≤ W.heap.size
  hp : bp < B
  hr : br < B
  hw : bw < B
  P : blk W bp = probC p.c p.t p.L (.slice (some ⟨bw, off, none⟩) p.n cap)
  R : blk W br = #[.int .i64 p.c.R]
  L : LevAt W bw off p.n p.lv
  c : p.n ≤ cap
theorem KidAt.below {W w1 : World} {B bp br bw off cap : Nat} {p : Opl.Prob} (h : KidAt W B bp br bw off cap p) (hb : Below B W w1) : KidAt w1 B bp br bw off cap p := by
  have e : ∀ b, b < B → blk w1 b = blk W b := fun b hlt => by simp only [blk, hb.block b hlt]
  exact ⟨Nat.le_trans h.le hb.size, h.hp, h.hr, h.hw, by rw [e _ h.hp]; exact h.P, by rw [e _ h.hr]; exact h.R, h.L.below hb h.hw, h.c⟩

/-- what the kid's closure asks of the world while it reckons a step's metric -/
def KidS (w : World) (R : Int) (bp br bw off cap bn by' : Nat) (p : Opl.Prob) (n : Opl.Node) (y : Nat → Nat) (W : World) : Prop :=
  blk W bp = probC p.c p.t p.L (.slice (some ⟨bw, off, none⟩) p.n cap) ∧ W.cell? ⟨bp, 39, none⟩ = some (.slice (some ⟨bw, off, none⟩) p.n cap) ∧ W.cell? ⟨br, 0, none⟩ = some (.int .i64 R) ∧
  W.cell? ⟨bn, 1, none⟩ = some (.int .i64 n.d) ∧ blk W by' = symC y ∧ blk W bn = nodeC n ∧ fre W (bn + 1) = true ∧ blk W (bn + 1) = #[.int .u32 0, .int .i64 0, .int .i64 0] ∧ bn + 1 < W.heap.size ∧ by' < W.heap.size ∧ Below w.heap.size w W

theorem KidS.below {w W W3 : World} {R : Int} {bp br bw off cap bn by' : Nat} {p : Opl.Prob} {n : Opl.Node} {y : Nat → Nat} (h : KidS w R bp br bw off cap bn by' p n y W) (hb : Below W.heap.size W W3) (hp : bp < W.heap.size) (hr : br < W.heap.size) :
    KidS w R bp br bw off cap bn by' p n y W3 := by
  obtain ⟨h1, h2, h3, h4, h5, h6, h7, h8, h9, hy, h10⟩ := h
  obtain ⟨c1, c2, c3, c4⟩ := bfacts hb
  exact ⟨by rw [c3 _ hp]; exact h1, by rw [c1 _ _ hp]; exact h2, by rw [c1 _ _ hr]; exact h3, by rw [c1 _ _ (by omega)]; exact h4, by rw [c3 _ hy]; exact h5, by rw [c3 _ (by omega)]; exact h6, by rw [c4 _ h9]; exact h7, by rw [c3 _ h9]; exact h8, Nat.lt_of_lt_of_le h9 hb.size, Nat.lt_of_lt_of_le hy hb.size, h10.trans (hb.mono h10.size)⟩
theorem KidS.drew {w W : World} {R : Int} {bp br bw off cap bn by' : Nat} {p : Opl.Prob} {n : Opl.Node} {y : Nat → Nat} (h : KidS w R bp br bw off cap bn by' p n y W) : KidS w R bp br bw off cap bn by' p n y W.drew := by
  obtain ⟨h1, h2, h3, h4, h5, h6, h7, h8, h9, hy, h10⟩ := h
  exact ⟨h1, h2, h3, h4, h5, h6, h7, h8, h9, hy, h10.drew⟩

set_option maxHeartbeats 2000000 in
set_option maxRecDepth 100000 in
theorem kid_any (p : Opl.Prob) (hf : p.Fits) (hg : p.Good) (n : Opl.Node) (hn : p.Ok n) (hd : n.d < p.N) (b : Nat) (hb : b < 2) (w : World) (B bp br bw off cap : Nat) (hk : KidAt w B bp br bw off cap p) :
    Calls Try.prog 14 #[.agg (nodeC n), .int .u8 b, .pointer (some ⟨bp, 0, none⟩), .pointer (some ⟨br, 0, none⟩)] w fun e w' => e = .returned (.agg (nodeC (p.kid n b))) ∧ Below w.heap.size w w' := by
  have P0 := hk.P
  have R0 := hk.R
  have c1 : w.cell? ⟨br, 0, none⟩ = some (.int .i64 p.c.R) := by rw [cell_blk, hk.R]; rfl
  have c2 : w.cell? ⟨bp, 39, none⟩ = some (.slice (some ⟨bw, off, none⟩) p.n cap) := by rw [cell_blk, hk.P, probC_39]
  have hp : bp < w.heap.size := Nat.lt_of_lt_of_le hk.hp hk.le
  have hr : br < w.heap.size := Nat.lt_of_lt_of_le hk.hr hk.le
  have hw : bw < w.heap.size := Nat.lt_of_lt_of_le hk.hw hk.le
  have hcap := hk.c
  obtain ⟨r1, r2⟩ := Opl.Prob.R_eq hg
  have hnn := Opl.Prob.n_eq hg
  have nb := Opl.Prob.N_bd hg
  have m0 := hn.m0
  have m1 := hn.m1
  obtain ⟨s0, s1⟩ := Opl.Prob.step_bd hg (s := n.s) (b := b) hd
  have HK := Lib.hid hk
  have HG := Lib.hid hg
  have HF := Lib.hid hf
  have HN := Lib.hid hn
  clear hk hg hf hn
  have r3 : p.c.R = 2 ∨ p.c.R = 3 := by omega
  rcases r3 with r3 | r3
  · have r4 : p.c.R.toNat = 2 := by omega
    rw [r4] at hnn
    rw [r3] at c1 R0
    clear r1 r2
    have v1 : IntKind.i64.wrap ((n.d : Int) * 2) = (n.d : Int) * 2 := IntWalk.i64_in _ (by omega)
    have v2 : IntKind.i64.wrap ((n.d : Int) + 1) = (n.d : Int) + 1 := IntWalk.i64_in _ (by omega)
    have v3 : IntKind.i64.wrap (((n.d : Int) + 1) * 2) = ((n.d : Int) + 1) * 2 := IntWalk.i64_in _ (by omega)
    have G3 := Lib.hid (show 0 ≤ ((n.d : Int) + 1) * 2 ∧ ((n.d : Int) + 1) * 2 ≤ (cap : Int) by omega)
    have G4 := Lib.hid (show 0 ≤ (n.d : Int) * 2 ∧ (n.d : Int) * 2 ≤ max (((n.d : Int) + 1) * 2) 0 by omega)
    have G5 := Lib.hid (show ¬ cap = ((n.d : Int) * 2).toNat by omega)
    have G6 := Lib.hid (show ((n.d : Int) * 2).toNat = n.d * 2 by omega)
    have G7 := Lib.hid (show (((n.d : Int) + 1) * 2).toNat - n.d * 2 = 2 by omega)
    go_enter Try.func14, Try.ntmps14
    go_wp2_with (go_at_call 15; refine (Step_ok p.c HF.out.c HG.out.c n.s b HN.out.s hb _).mono ?_; rintro e w1 ⟨rfl, hb1⟩; obtain ⟨e1, e2, e3, e4⟩ := bfacts hb1; simp only [World.size_alloc] at e1 e2 e3 e4; have hz := hb1.size; simp only [World.size_alloc] at hz)
    have hw1 := (bel2 _ _ _).trans (hb1.mono (by simp; omega))
    have q1 : bp < w1.heap.size := by omega
    have q2 : br < w1.heap.size := by omega
    have q3 : w.heap.size < w1.heap.size := by omega
    have q4 : w.heap.size + 1 < w1.heap.size := by omega
    have S0 : KidS w 2 bp br bw off cap w.heap.size w1.heap.size p n (p.c.sym n.s b) (w1.alloc (.cells (symC (p.c.sym n.s b)) 57)) := by
      obtain ⟨f1, f2, f3, f4⟩ := bfacts hw1
      refine ⟨?_, ?_, ?_, ?_, ?_, ?_, ?_, ?_, ?_, ?_, ?_⟩
      · simp [go_sem, q1, f3, hp, P0]
      · simp [go_sem, q1, f1, hp, c2]
      · simp [go_sem, q2, f1, hr, c1]
      · simp [go_sem, q3, e1]
      · simp [go_sem]
      · simp [go_sem, q3, e3]
      · simp [go_sem, q4, e4]
      · simp [go_sem, q4, e3]
      · simp; omega
      · simp
      · exact hw1.alloc (by omega) _
    have BR : ∀ W, KidS w 2 bp br bw off cap w.heap.size w1.heap.size p n (p.c.sym n.s b) W → Calls Try.prog 16 #[tabV p.t, .int .i64 2, .slice (some ⟨bw, off + n.d * 2, none⟩) 2 (cap - n.d * 2), .agg (symC (p.c.sym n.s b))] W fun e w' => e = .returned (.tuple #[.int .i64 (p.step n.s n.d b), .int .i64 0]) ∧ Below W.heap.size W w' := by
      intro W hW
      have hbW := hW.2.2.2.2.2.2.2.2.2.2
      have hL : LevAt W bw (off + n.d * 2) 2 (fun i => p.lv (n.d * 2 + i)) := fun i hi => by
        have := HK.out.L (n.d * 2 + i) (by omega)
        rw [(hbW.cell (p := ⟨bw, off + n.d * 2 + i, none⟩) hw), show off + n.d * 2 + i = off + (n.d * 2 + i) from by omega]
        exact this
      have := branch_good p.t HF.out.t HG.out.t 2 (.inl rfl) bw (off + n.d * 2) 2 (cap - n.d * 2) rfl (p.c.sym n.s b) (fun i => p.lv (n.d * 2 + i)) W (Nat.lt_of_lt_of_le hw hbW.size) hL (fun i hi => HG.out.v _ (by omega)) (fun i _ => Opl.Code.sym_lt _ _ _ _)
      rw [show Opl.bsum p.t (p.c.sym n.s b) (fun i => p.lv (n.d * 2 + i)) 2 = p.step n.s n.d b from by unfold Opl.Prob.step; rw [r4]] at this
      exact this
    refine wp_quietC (KidS w 2 bp br bw off cap w.heap.size w1.heap.size p n (p.c.sym n.s b)) (by kernel_rfl) (by kernel_rfl) S0.drew ?_
    repeat (
      refine wpQuiet_step (fun K hK => ?_)
      go_simp
      apply Exists.intro
      refine ⟨fun W hW => ?_, hK _ ?_⟩
      · first
          | exact ⟨rfl, rfl⟩
          | exact rfl
          | (rw [if_pos G3.out, if_pos G4.out, if_neg G5.out, G6.out, G7.out]; exact ⟨rfl, rfl⟩)
          | (go_at_call 16; exact (BR W hW).mono fun e w3 ⟨he, hb3⟩ => ⟨he, KidS.below hW hb3 (Nat.lt_of_lt_of_le hp hW.2.2.2.2.2.2.2.2.2.2.size) (Nat.lt_of_lt_of_le hr hW.2.2.2.2.2.2.2.2.2.2.size)⟩)
          | (obtain ⟨h1, h2, h3, h4, h5, h6, h7, h8, h9, hy, h10⟩ := hW; go_simp; first | exact ⟨rfl, rfl⟩ | exact rfl)
      clear hK K)
    refine wpQuiet_nil ?_
    rintro W ⟨h1, h2, h3, h4, h5, h6, h7, h8, h9, hy, h10⟩
    obtain ⟨i1, i2, i3⟩ := cell3 h6
    obtain ⟨j1, j2, j3⟩ := cell3 h8
    have f1 := frozen_fre (j := 0) h7
    have f2 := frozen_fre (j := 1) h7
    have f3 := frozen_fre (j := 2) h7
    go_wp2_with fail
    refine bodyPost_ret (v := .agg (nodeC (p.kid n b))) ?_ rfl ⟨rfl, ?_⟩
    · simp [results, Try.results14, go_sem, h7, h8, h9, j1, j2, j3]
      rw [blk_setCell, if_pos rfl, blk_setCell, if_pos rfl, blk_setCell, if_pos rfl, h8]
      rfl
    · exact ((h10.setCell (p := ⟨_, 0, none⟩) (Nat.le_succ _) _).setCell (p := ⟨_, 1, none⟩) (Nat.le_succ _) _).setCell (p := ⟨_, 2, none⟩) (Nat.le_succ _) _
  · have r4 : p.c.R.toNat = 3 := by omega
    rw [r4] at hnn
    rw [r3] at c1 R0
    clear r1 r2
    have v1 : IntKind.i64.wrap ((n.d : Int) * 3) = (n.d : Int) * 3 := IntWalk.i64_in _ (by omega)
    have v2 : IntKind.i64.wrap ((n.d : Int) + 1) = (n.d : Int) + 1 := IntWalk.i64_in _ (by omega)
    have v3 : IntKind.i64.wrap (((n.d : Int) + 1) * 3) = ((n.d : Int) + 1) * 3 := IntWalk.i64_in _ (by omega)
    have G3 := Lib.hid (show 0 ≤ ((n.d : Int) + 1) * 3 ∧ ((n.d : Int) + 1) * 3 ≤ (cap : Int) by omega)
    have G4 := Lib.hid (show 0 ≤ (n.d : Int) * 3 ∧ (n.d : Int) * 3 ≤ max (((n.d : Int) + 1) * 3) 0 by omega)
    have G5 := Lib.hid (show ¬ cap = ((n.d : Int) * 3).toNat by omega)
    have G6 := Lib.hid (show ((n.d : Int) * 3).toNat = n.d * 3 by omega)
    have G7 := Lib.hid (show (((n.d : Int) + 1) * 3).toNat - n.d * 3 = 3 by omega)
    go_enter Try.func14, Try.ntmps14
    go_wp2_with (go_at_call 15; refine (Step_ok p.c HF.out.c HG.out.c n.s b HN.out.s hb _).mono ?_; rintro e w1 ⟨rfl, hb1⟩; obtain ⟨e1, e2, e3, e4⟩ := bfacts hb1; simp only [World.size_alloc] at e1 e2 e3 e4; have hz := hb1.size; simp only [World.size_alloc] at hz)
    have hw1 := (bel2 _ _ _).trans (hb1.mono (by simp; omega))
    have q1 : bp < w1.heap.size := by omega
    have q2 : br < w1.heap.size := by omega
    have q3 : w.heap.size < w1.heap.size := by omega
    have q4 : w.heap.size + 1 < w1.heap.size := by omega
    have S0 : KidS w 3 bp br bw off cap w.heap.size w1.heap.size p n (p.c.sym n.s b) (w1.alloc (.cells (symC (p.c.sym n.s b)) 57)) := by
      obtain ⟨f1, f2, f3, f4⟩ := bfacts hw1
      refine ⟨?_, ?_, ?_, ?_, ?_, ?_, ?_, ?_, ?_, ?_, ?_⟩
      · simp [go_sem, q1, f3, hp, P0]
      · simp [go_sem, q1, f1, hp, c2]
      · simp [go_sem, q2, f1, hr, c1]
      · simp [go_sem, q3, e1]
      · simp [go_sem]
      · simp [go_sem, q3, e3]
      · simp [go_sem, q4, e4]
      · simp [go_sem, q4, e3]
      · simp; omega
      · simp
      · exact hw1.alloc (by omega) _
    have BR : ∀ W, KidS w 3 bp br bw off cap w.heap.size w1.heap.size p n (p.c.sym n.s b) W → Calls Try.prog 16 #[tabV p.t,   .int .i64 3, .slice (some ⟨bw, off + n.d * 3, none ⟩) 3 (cap - n.d * 3), .agg (symC (p.c.sym n.s b))] W fun e w' => e = .returned (.tuple #[.int .i64 (p.step n.s n.d b), .int .i64 0]) ∧ Below W.heap.size W w' := by
      intro W hW
      have hbW := hW.2.2.2.2.2.2.2.2.2.2
      have hL : LevAt W bw (off + n.d * 3) 3 (fun i => p.lv (n.d * 3 + i)) := fun i hi => by
        have := HK.out.L (n.d * 3 + i) (by omega)
        rw [(hbW.cell (p := ⟨bw, off + n.d * 3 + i, none⟩) hw), show off + n.d * 3 + i = off + (n.d * 3 + i) from by omega]
        exact this
      have := branch_good p.t HF.out.t HG.out.t 3 (.inr rfl) bw (off + n.d * 3) 3 (cap - n.d * 3) rfl (p.c.sym n.s b) (fun i => p.lv (n.d * 3 + i)) W (Nat.lt_of_lt_of_le hw hbW.size) hL (fun i hi => HG.out.v _ (by omega)) (fun i _ => Opl.Code.sym_lt _ _ _ _)
      rw [show Opl.bsum p.t (p.c.sym n.s b) (fun i => p.lv (n.d * 3 + i)) 3 = p.step n.s n.d b from by unfold Opl.Prob.step; rw [r4]] at this
      exact this
    refine wp_quietC (KidS w 3 bp br bw off cap w.heap.size w1.heap.size p n (p.c.sym n.s b)) (by kernel_rfl) (by kernel_rfl) S0.drew ?_
    repeat (
      refine wpQuiet_step (fun K hK => ?_)
      go_simp
      apply Exists.intro
      refine ⟨fun W hW => ?_, hK _ ?_⟩
      · first
          | exact ⟨rfl, rfl⟩
          | exact rfl
          | (rw [if_pos G3.out, if_pos G4.out, if_neg G5.out, G6.out, G7.out]; exact ⟨rfl, rfl⟩)
          | (go_at_call 16; exact (BR W hW).mono fun e w3 ⟨he, hb3⟩ => ⟨he, KidS.below hW hb3 (Nat.lt_of_lt_of_le hp hW.2.2.2.2.2.2.2.2.2.2.size) (Nat.lt_of_lt_of_le hr hW.2.2.2.2.2.2.2.2.2.2.size)⟩)
          | (obtain ⟨h1, h2, h3, h4, h5, h6, h7, h8, h9, hy, h10⟩ := hW; go_simp; first | exact ⟨rfl, rfl⟩ | exact rfl)
      clear hK K)
    refine wpQuiet_nil ?_
    rintro W ⟨h1, h2, h3, h4, h5, h6, h7, h8, h9, hy, h10⟩
    obtain ⟨i1, i2, i3⟩ := cell3 h6
    obtain ⟨j1, j2, j3⟩ := cell3 h8
    have f1 := frozen_fre (j := 0) h7
    have f2 := frozen_fre (j := 1) h7
    have f3 := frozen_fre (j := 2) h7
    go_wp2_with fail
    refine bodyPost_ret (v := .agg (nodeC (p.kid n b))) ?_ rfl ⟨rfl, ?_⟩
    · simp [results, Try.results14, go_sem, h7, h8, h9, j1, j2, j3]
      rw [blk_setCell, if_pos rfl, blk_setCell, if_pos rfl, blk_setCell, if_pos rfl, h8]
      rfl
    · exact ((h10.setCell (p := ⟨_, 0, none⟩) (Nat.le_succ _) _).setCell (p := ⟨_, 1, none⟩) (Nat.le_succ _) _).setCell (p := ⟨_, 2, none⟩) (Nat.le_succ _) _
end Go.Proofs.Ytdhpkoclnnoniaa
