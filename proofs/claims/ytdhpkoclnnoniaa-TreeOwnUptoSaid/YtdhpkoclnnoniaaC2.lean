/- The contract of tree.New. Conditions: a problem whose window lies in memory; whose parts fit. -/
import Derived.Test.YtdhpkoclnnoniaaC1
import Derived.Test.YtdhpkoclnnoniaaK3
namespace Go.Proofs.Ytdhpkoclnnoniaa
open Go.RowKit Go.Opk

/-- the tree's block -/
def treeC (p : Opl.Prob) (bp br : Nat) : Array Value := #[.int .i64 p.N, .int .u64 ((2 ^ (p.c.K.toNat - 1) : Nat)), .func (.func 14) #[] #[.pointer (some ⟨bp, 0, none⟩), .pointer (some ⟨br, 0, none⟩)], .int .i64 (min (p.c.R * p.N * p.t.lo) 0), .int .i64 (max (p.c.R * p.N * p.t.hi) 0), .int .i64 p.L]

/-- the tree's block before its bounds and its closure are laid -/
abbrev treeC0 (p : Opl.Prob) : Array Value := #[.int .i64 (p.L + p.c.K - 1), .int .u64 ((2 ^ (p.c.K.toNat - 1) : Nat)), .nilFunc, .int .i64 0, .int .i64 0, .int .i64 p.L]
def NewS (w : World) (bp br bw cc bt : Nat) (p : Opl.Prob) (W : World) : Prop :=
  KidAt W bt bp br bw 0 cc p ∧ W.cell? ⟨br, 0, none⟩ = some (.int .i64 p.c.R) ∧ W.cell? ⟨bt, 0, none⟩ = some (.int .i64 (p.L + p.c.K - 1)) ∧ blk W bt = treeC0 p ∧ fre W bt = true ∧ bt < W.heap.size ∧ Below w.heap.size w W
theorem NewS.below {w W W3 : World} {bp br bw cc bt : Nat} {p : Opl.Prob} (h : NewS w bp br bw cc bt p W) (hb : Below W.heap.size W W3) : NewS w bp br bw cc bt p W3 := by
  obtain ⟨h1, h2, h3, h4, h5, h6, h7⟩ := h
  obtain ⟨c1, c2, c3, c4⟩ := bfacts hb
  exact ⟨h1.below (hb.mono h1.le), by rw [c1 _ _ (Nat.lt_of_lt_of_le h1.hr h1.le)]; exact h2, by rw [c1 _ _ h6]; exact h3, by rw [c3 _ h6]; exact h4, by rw [c4 _ h6]; exact h5, Nat.lt_of_lt_of_le h6 hb.size, h7.trans (hb.mono h7.size)⟩
theorem NewS.drew {w W : World} {bp br bw cc bt : Nat} {p : Opl.Prob} (h : NewS w bp br bw cc bt p W) : NewS w bp br bw cc bt p W.drew := by
  obtain ⟨h1, h2, h3, h4, h5, h6, h7⟩ := h
  exact ⟨⟨h1.1, h1.2, h1.3, h1.4, h1.5, h1.6, h1.7, h1.8⟩, h2, h3, h4, h5, h6, h7.drew⟩
theorem new_bad (p : Opl.Prob) (hf : p.Fits) (a : Option Addr) (cap : Nat) (w : World) (hw : WinAt w a p.n p.lv) (h : p.err ≠ 0) :
    Calls Try.prog 4 #[probV p.c p.t p.L (.slice a p.n cap)] w fun e w' => e = .returned (.tuple #[.pointer none, .int .i64 p.err]) ∧ Below w.heap.size w w' := by
  have he : (p.err != (0 : Int)) = true := by simpa using h
  go_enter Try.func4, Try.ntmps4
  go_wp2_with (go_at_call 12; refine (check_prob p hf a cap _ (hw.below (bel1 _ _))).mono ?_; rintro e w1 ⟨rfl, hb1⟩)
  go_ret2
  exact ⟨rfl, (bel1 _ _).trans (hb1.mono (by simp))⟩

set_option maxHeartbeats 2000000 in
set_option maxRecDepth 100000 in
theorem new_good (p : Opl.Prob) (hf : p.Fits) (he : p.err = 0) (b off cap : Nat) (w : World) (hb : b < w.heap.size) (hl : LevAt w b off p.n p.lv) :
    Calls Try.prog 4 #[probV p.c p.t p.L (.slice (some ⟨b, off, none⟩) p.n cap)] w fun e w' => ∃ bt B bp br bw c, e = .returned (.tuple #[.pointer (some ⟨bt, 0, none⟩), .int .i64 0]) ∧ Below w.heap.size w w' ∧ KidAt w' B bp br bw 0 c p ∧ bt < B ∧ blk w' bt = treeC p bp br := by
  have hg := Opl.Prob.good_of he
  have hnn : 0 < p.n ∧ p.n ≤ 3165 := by
    have h1 := Opl.Prob.n_eq hg
    have h2 := Opl.Prob.N_bd hg
    rcases (Opl.Prob.R_eq hg).2 with h3 | h3 <;> rw [h3] at h1 <;> omega
  obtain ⟨hnn, hn2⟩ := hnn
  go_enter Try.func4, Try.ntmps4
  have HL := Lib.hid hl
  have HG := Lib.hid hg
  have HF := Lib.hid hf
  clear hl hg hf
  go_wp2_with (first
    | (go_at_call 12; go_loud (refine (check_prob p HF.out (some ⟨b, off, none⟩) cap _ (.inr ⟨b, off, rfl, by simp; omega, HL.out.below (bel1 _ _) hb⟩)).mono ?_; rintro e w1 ⟨rfl, hb1⟩; rw [he]; obtain ⟨c1, c2, c3, c4⟩ := bfacts hb1; simp only [World.size_alloc] at c1 c2 c3 c4; have hz := hb1.size; simp only [World.size_alloc] at hz; have HB := Lib.hid ((bel1 _ _).trans (hb1.mono (by simp))); clear hb1; have hz' : w.heap.size < w1.heap.size := (by omega); have HL2 := Lib.hid (HL.out.below HB.out hb); have P1 : blk w1 w.heap.size = probC p.c p.t p.L (.slice (some ⟨b, off, none⟩) p.n cap) := (by simp [go_sem, c3]); have F1 : fre w1 w.heap.size = true := (by simp [go_sem, c4]); clear c1 c2 c3 c4; have Q0 : w1.cell? ⟨w.heap.size, 0, none⟩ = some (.int .i64 p.c.K) := (by rw [cell_blk, P1, probC_0]); have Q1 : w1.cell? ⟨w.heap.size, 1, none⟩ = some (.int .i64 p.c.R) := (by rw [cell_blk, P1, probC_1]); have Q38 : w1.cell? ⟨w.heap.size, 38, none⟩ = some (.int .i64 p.L) := (by rw [cell_blk, P1, probC_38]); have Q39 : w1.cell? ⟨w.heap.size, 39, none⟩ = some (.slice (some ⟨b, off, none⟩) p.n cap) := (by rw [cell_blk, P1, probC_39]); have R39 := frozen_fre (j := 39) F1))
    | (refine wpList_append_fresh rfl (.const (.slice none 0 0)) (.tmp 16) 30 rfl 5 1 (.int .u8 0) Try.underlying30 (by kernel_rfl) rfl b off p.n cap (by go_simp) (fun i => .int .u8 (p.lv i)) HL2.out hnn (by omega) (by omega) ?_; intro cc hcc cs hcs))
  obtain ⟨r1, r2⟩ := Opl.Prob.R_eq HG.out
  have nE := Opl.Prob.N_eq HG.out
  have nb := Opl.Prob.N_bd HG.out
  have l0 := HG.out.l0
  have l1 := HG.out.l1
  have k0 := (Opl.Code.good_of HG.out.c).k0
  have k1 := (Opl.Code.good_of HG.out.c).k1
  have v1 : IntKind.i64.wrap (p.L + p.c.K) = p.L + p.c.K := IntWalk.i64_in _ (by omega)
  have v2 : IntKind.i64.wrap (p.L + p.c.K - 1) = p.N := by rw [nE]; exact IntWalk.i64_in _ (by omega)
  have v3 : IntKind.i64.wrap (p.c.K - 1) = ((p.c.K.toNat - 1 : Nat) : Int) := by rw [IntWalk.i64_in _ (by omega)]; omega
  have z1 : w.heap.size ≠ w1.heap.size := by omega
  go_region
  have v5 : 2 ^ (p.c.K.toNat - 1) ≤ 2 ^ 31 := Nat.pow_le_pow_right (by omega) (by omega)
  have v4 : IntKind.u64.wrap (2 ^ (p.c.K.toNat - 1)) = ((2 ^ (p.c.K.toNat - 1) : Nat) : Int) := by
    have e : (2 : Int) ^ (p.c.K.toNat - 1) = ((2 ^ (p.c.K.toNat - 1) : Nat) : Int) := by simp
    rw [e]; exact IntWalk.u64_in _ ⟨Int.natCast_nonneg _, by omega⟩
  rw [v4]
  have S0 : NewS w w.heap.size (w1.heap.size + 1) w1.heap.size cc (w1.heap.size + 1 + 1) p ((((w1.setCell ⟨w.heap.size, 39, none⟩ (.slice (some ⟨w1.heap.size, 0, none⟩) p.n cc)).alloc (.cells cs 5)).alloc (.cells #[.int .i64 p.c.R] 3)).alloc (.cells (treeC0 p) 54)).drew.drew := by
    refine ⟨⟨?_, ?_, ?_, ?_, ?_, ?_, ?_, hcc⟩, ?_, ?_, ?_, ?_, ?_, ?_⟩
    · simp
    · omega
    · omega
    · omega
    · have z2 : w.heap.size < w1.heap.size + 1 := by omega
      have z3 : w.heap.size < w1.heap.size + 1 + 1 := by omega
      simp [go_sem, P1, hz', z2, z3]
    · simp [go_sem]
    · intro i hi; simp [go_sem, hcs i hi]
    · simp [go_sem]
    · simp [go_sem]
    · simp [go_sem]
    · simp [go_sem]
    · simp
    · exact ((((HB.out.setCell (p := ⟨_, 39, none⟩) (Nat.le_refl _) _).alloc (by simp; omega) _).alloc (by simp; omega) _).alloc (by simp; omega) _).drew.drew
  go_wp2_with fail
  refine wp_quietC (NewS w w.heap.size (w1.heap.size + 1) w1.heap.size cc (w1.heap.size + 1 + 1) p) (by kernel_rfl) (by kernel_rfl) S0.drew ?_
  have RG : ∀ W, NewS w w.heap.size (w1.heap.size + 1) w1.heap.size cc (w1.heap.size + 1 + 1) p W → Calls Try.prog 13 #[tabV p.t, .int .i64 p.c.R, .int .i64 (p.L + p.c.K - 1)] W fun e w' => e = .returned (.tuple #[.int .i64 (p.c.R * (p.L + p.c.K - 1) * p.t.lo), .int .i64 (p.c.R * (p.L + p.c.K - 1) * p.t.hi), .int .i64 0]) ∧ Below W.heap.size W w' :=
    fun W _ => range_good p.t HF.out.t HG.out.t p.c.R (p.L + p.c.K - 1) (by have := (Opl.Code.good_of HG.out.c).r; omega) (by omega) (by omega) W
  repeat (
    refine wpQuiet_step (fun K hK => ?_)
    go_simp
    apply Exists.intro
    refine ⟨fun W hW => ?_, hK _ ?_⟩
    · first
        | exact ⟨rfl, rfl⟩
        | exact rfl
        | (go_at_call 13; exact (RG W hW).mono fun e w3 ⟨he, hb3⟩ => ⟨he, NewS.below hW hb3⟩)
        | (obtain ⟨⟨h11, h12, h13, h14, h15, h16, h17, h18⟩, h2, h3, h4, h5, h6, h7⟩ := hW; go_simp; first | exact ⟨rfl, rfl⟩ | exact rfl)
    clear hK K)
  refine wpQuiet_nil ?_
  rintro W ⟨k, h2, h3, h4, h5, h6, h7⟩
  have f3 := frozen_fre (j := 3) h5
  have f4 := frozen_fre (j := 4) h5
  have f2 := frozen_fre (j := 2) h5
  have j2 : W.cell? ⟨w1.heap.size + 1 + 1, 2, none⟩ = some .nilFunc := by rw [cell_blk, h4]; rfl
  have j3 : W.cell? ⟨w1.heap.size + 1 + 1, 3, none⟩ = some (.int .i64 0) := by rw [cell_blk, h4]; rfl
  have j4 : W.cell? ⟨w1.heap.size + 1 + 1, 4, none⟩ = some (.int .i64 0) := by rw [cell_blk, h4]; rfl
  go_wp2_with fail
  go_ret2
  refine ⟨w1.heap.size + 1 + 1, w1.heap.size + 1 + 1 + 1, w.heap.size, w1.heap.size + 1, w1.heap.size, cc, rfl, ?_, ?_, Nat.lt_succ_self _, ?_⟩
  · exact ((h7.setCell (p := ⟨w1.heap.size + 1 + 1, 3, none⟩) (by show w.heap.size ≤ w1.heap.size + 1 + 1; omega) _).setCell (p := ⟨w1.heap.size + 1 + 1, 4, none⟩) (by show w.heap.size ≤ w1.heap.size + 1 + 1; omega) _).setCell (p := ⟨w1.heap.size + 1 + 1, 2, none⟩) (by show w.heap.size ≤ w1.heap.size + 1 + 1; omega) _
  · have hB := (((Below.refl (w1.heap.size + 1 + 1) W).setCell (p := ⟨w1.heap.size + 1 + 1, 3, none⟩) (Nat.le_refl _) (.int .i64 (min (p.c.R * (p.L + p.c.K - 1) * p.t.lo) 0))).setCell (p := ⟨w1.heap.size + 1 + 1, 4, none⟩) (Nat.le_refl _) (.int .i64 (max (p.c.R * (p.L + p.c.K - 1) * p.t.hi) 0))).setCell (p := ⟨w1.heap.size + 1 + 1, 2, none⟩) (Nat.le_refl _) (.func (.func 14) #[] #[.pointer (some ⟨w.heap.size, 0, none⟩), .pointer (some ⟨w1.heap.size + 1, 0, none⟩)])
    have k' := k.below hB
    exact ⟨by have := hB.size; have := k'.le; have := h6; omega, Nat.lt_succ_of_lt k'.hp, Nat.lt_succ_of_lt k'.hr, Nat.lt_succ_of_lt k'.hw, k'.P, k'.R, k'.L, k'.c⟩
  · rw [blk_setCell, if_pos rfl, blk_setCell, if_pos rfl, blk_setCell, if_pos rfl, h4, treeC, nE]
    rfl
end Go.Proofs.Ytdhpkoclnnoniaa
