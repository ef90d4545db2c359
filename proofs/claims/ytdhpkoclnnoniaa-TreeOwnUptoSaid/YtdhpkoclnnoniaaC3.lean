/- The contracts of a made tree's methods. Conditions: the tree of a good problem; its own nodes. -/
import Derived.Test.YtdhpkoclnnoniaaC2
import Derived.Deep.RegionHeld3
namespace Go.Proofs.Ytdhpkoclnnoniaa
open Go.RowKit Go.Opk

/-- a tree's block and what it leads to, all below B -/
def TreeAt (W : World) (B bt : Nat) (p : Opl.Prob) : Prop := ∃ bp br bw c, KidAt W B bp br bw 0 c p ∧ bt < B ∧ blk W bt = treeC p bp br
theorem TreeAt.below {W w1 : World} {B bt : Nat} {p : Opl.Prob} (h : TreeAt W B bt p) (hb : Below B W w1) : TreeAt w1 B bt p := by
  obtain ⟨bp, br, bw, c, h1, h2, h3⟩ := h
  exact ⟨bp, br, bw, c, h1.below hb, h2, by rw [← h3]; simp only [blk, hb.block bt h2]⟩

/-- what the kids' methods ask of the world -/
def TwoS (w : World) (bt bx bp br bw c : Nat) (p : Opl.Prob) (n : Opl.Node) (W : World) : Prop :=
  KidAt W w.heap.size bp br bw 0 c p ∧ W.cell? ⟨bt, 2, none⟩ = some (.func (.func 14) #[] #[.pointer (some ⟨bp, 0, none⟩), .pointer (some ⟨br, 0, none⟩)]) ∧ blk W bx = nodeC n ∧ bt < w.heap.size ∧ bx < W.heap.size ∧ Below w.heap.size w W
theorem TwoS.below {w W W3 : World} {bt bx bp br bw c : Nat} {p : Opl.Prob} {n : Opl.Node} (h : TwoS w bt bx bp br bw c p n W) (hb : Below W.heap.size W W3) : TwoS w bt bx bp br bw c p n W3 := by
  obtain ⟨h1, h2, h3, h4, h5, h6⟩ := h
  obtain ⟨c1, c2, c3, c4⟩ := bfacts hb
  have := h6.size
  exact ⟨h1.below (hb.mono h6.size), by rw [c1 _ _ (by omega)]; exact h2, by rw [c3 _ h5]; exact h3, h4, Nat.lt_of_lt_of_le h5 hb.size, h6.trans (hb.mono h6.size)⟩
theorem TwoS3 {w W W3 : World} {bt bx bp br bw c : Nat} {p : Opl.Prob} {n : Opl.Node} (h : TwoS w bt bx bp br bw c p n W ∧ W.cell? ⟨bt, 2, none⟩ = some (.func (.func 14) #[] #[.pointer (some ⟨bp, 0, none⟩), .pointer (some ⟨br, 0, none⟩)]) ∧ blk W bx = nodeC n) (hb : Below W.heap.size W W3) :
    TwoS w bt bx bp br bw c p n W3 ∧ W3.cell? ⟨bt, 2, none⟩ = some (.func (.func 14) #[] #[.pointer (some ⟨bp, 0, none⟩), .pointer (some ⟨br, 0, none⟩)]) ∧ blk W3 bx = nodeC n := by
  have h' := h.1.below hb
  exact ⟨h', h'.2.1, h'.2.2.1⟩
theorem TwoS.drew {w W : World} {bt bx bp br bw c : Nat} {p : Opl.Prob} {n : Opl.Node} (h : TwoS w bt bx bp br bw c p n W) : TwoS w bt bx bp br bw c p n W.drew := by
  obtain ⟨h1, h2, h3, h4, h5, h6⟩ := h
  exact ⟨⟨h1.1, h1.2, h1.3, h1.4, h1.5, h1.6, h1.7, h1.8⟩, h2, h3, h4, h5, h6.drew⟩

/-- two new blocks that a call hands back -/
structure Pair (w w' : World) (b1 b2 : Nat) (l1 l2 : Array Value) : Prop where
  ne : b1 ≠ b2
  le1 : w.heap.size ≤ b1
  le2 : w.heap.size ≤ b2
  lt1 : b1 < w'.heap.size
  lt2 : b2 < w'.heap.size
  c1 : blk w' b1 = l1
  c2 : blk w' b2 = l2
  f1 : fre w' b1 = true
  f2 : fre w' b2 = true
  bel : Below w.heap.size w w'

theorem pair_late {w W : World} (h : Below w.heap.size w W) (c1 c2 : Array Value) (t1 t2 : TypeId) : Pair w ((W.alloc (.cells c1 t1)).alloc (.cells c2 t2)) W.heap.size (W.heap.size + 1) c1 c2 := by
  have := h.size
  exact ⟨by omega, this, by omega, by simp; omega, by simp, by simp [go_sem], by simp [go_sem], by simp [go_sem], by simp [go_sem], (h.alloc this _).alloc (by simp; omega) _⟩
theorem pair_late' {w W : World} (h : Below w.heap.size w W) (c1 c2 : Array Value) (t1 t2 : TypeId) : Pair w ((W.alloc (.cells c2 t2)).alloc (.cells c1 t1)) (W.heap.size + 1) W.heap.size c1 c2 := by
  have h' := pair_late h c2 c1 t2 t1
  exact ⟨Ne.symm h'.ne, h'.le2, h'.le1, h'.lt2, h'.lt1, h'.c2, h'.c1, h'.f2, h'.f1, h'.bel⟩
theorem pair_early {w W W3 : World} {c2 : Array Value} {t2 : TypeId} (h : Below w.heap.size w W) (hb : Below (W.alloc (.cells c2 t2)).heap.size (W.alloc (.cells c2 t2)) W3) {b2 : Nat} (e2 : W.heap.size = b2) (c1 : Array Value) (t1 : TypeId) : Pair w (W3.alloc (.cells c1 t1)) W3.heap.size b2 c1 c2 := by
  subst e2
  have h1 := h.size
  obtain ⟨d1, d2, d3, d4⟩ := bfacts hb
  have h2 := hb.size
  simp only [World.size_alloc] at d1 d2 d3 d4 h2
  refine ⟨by omega, by omega, h1, by simp, by simp; omega, by simp [go_sem], ?_, by simp [go_sem], ?_, ?_⟩
  · rw [blk_alloc_past _ _ (by omega), d3 _ (by omega)]; simp [go_sem]
  · rw [fre_alloc_past _ _ (by omega), d4 _ (by omega)]; simp [go_sem]
  · exact ((h.alloc h1 _).trans (hb.mono (by simp; omega))).alloc (by omega) _

set_option maxHeartbeats 2000000 in
set_option maxRecDepth 100000 in
theorem one_kid (p : Opl.Prob) (hf : p.Fits) (hg : p.Good) (n : Opl.Node) (hn : p.Ok n) (hd : n.d < p.N) (w : World) (B bt : Nat) (ht : TreeAt w B bt p) :
    Calls Try.prog 20 #[.pointer (some ⟨bt, 0, none⟩), .agg (nodeC n)] w fun e w' => ∃ b1 b2, e = .returned (.tuple #[.slice (some ⟨b1, 0, none⟩) 1 1, .slice (some ⟨b2, 0, none⟩) 1 1]) ∧ Pair w w' b1 b2 (nodeC (p.kid n 0)) #[.int .u8 0] := by
  obtain ⟨bp, br, bw, c, hk, hlt, hT⟩ := ht
  have hle := hk.le
  have hlt' : bt < w.heap.size := by omega
  have j2 : w.cell? ⟨bt, 2, none⟩ = some (.func (.func 14) #[] #[.pointer (some ⟨bp, 0, none⟩), .pointer (some ⟨br, 0, none⟩)]) := by rw [cell_blk, hT]; rfl
  have S0 : TwoS w bt w.heap.size bp br bw c p n (w.alloc (.cells (nodeC n) 42)) := by
    refine ⟨?_, ?_, ?_, hlt', by simp, bel1 _ _⟩
    · have := hk.below (bel1 w (.cells (nodeC n) 42) |>.mono hle)
      exact ⟨by simp, Nat.lt_of_lt_of_le this.hp hle, Nat.lt_of_lt_of_le this.hr hle, Nat.lt_of_lt_of_le this.hw hle, this.P, this.R, this.L, this.c⟩
    · simp [go_sem, hlt', j2]
    · simp [go_sem]
  have KC : ∀ W, TwoS w bt w.heap.size bp br bw c p n W → Calls Try.prog 14 #[.agg (nodeC n), .int .u8 0, .pointer (some ⟨bp, 0, none⟩), .pointer (some ⟨br, 0, none⟩)] W fun e w' => e = .returned (.agg (nodeC (p.kid n 0))) ∧ Below W.heap.size W w' :=
    fun W h => kid_any p hf hg n hn hd 0 (by omega) W _ bp br bw 0 c h.1
  clear hf hg hn hk
  go_enter Try.func20, Try.ntmps20
  go_wp2_with fail
  go_region_held3 (fun W => TwoS w bt w.heap.size bp br bw c p n W ∧ W.cell? ⟨bt, 2, none⟩ = some (.func (.func 14) #[] #[.pointer (some ⟨bp, 0, none⟩), .pointer (some ⟨br, 0, none⟩)]) ∧ blk W w.heap.size = nodeC n)
    (first | exact ⟨S0.drew, S0.drew.2.1, S0.drew.2.2.1⟩ | exact TwoS3 ‹_› (bel1 _ _) | exact TwoS3 ‹_› ‹Below _ _ _› | go_keep)
    (first | (go_at_call 14; refine (KC _ (And.left ‹_›)).mono ?_; rintro e w3 ⟨rfl, hb3⟩))
  all_goals go_wp2_with fail
  all_goals go_ret2
  all_goals refine ⟨_, _, rfl, ?_⟩
  all_goals have hB : Below w.heap.size w w3 := by first | exact (bel1 w _).drew.trans (hb3.mono (by simp)) | exact ((bel1 w _).drew.alloc (by simp) _).trans (hb3.mono (by simp; omega))
  all_goals first
    | exact pair_late hB _ _ _ _
    | exact pair_late' hB _ _ _ _
    | exact pair_early (bel1 w _).drew hb3 (by simp) (nodeC _) _
end Go.Proofs.Ytdhpkoclnnoniaa
