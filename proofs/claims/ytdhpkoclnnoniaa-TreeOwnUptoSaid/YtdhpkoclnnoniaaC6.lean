/- The contract of a made tree's Kids. Conditions: the tree of a good problem; its own nodes above the leaves. -/
import Derived.Test.YtdhpkoclnnoniaaC5
namespace Go.Proofs.Ytdhpkoclnnoniaa
open Go.RowKit Go.Opk

def KidsS (w : World) (B bt : Nat) (p : Opl.Prob) (n : Opl.Node) (W : World) : Prop :=
  TreeAt W B bt p ∧ blk W w.heap.size = nodeC n ∧ w.heap.size < W.heap.size ∧ Below w.heap.size w W
theorem KidsS.drewN {w W : World} {B bt : Nat} {p : Opl.Prob} {n : Opl.Node} (h : KidsS w B bt p n W) (k : Nat) : KidsS w B bt p n (W.drewN k) := by
  obtain ⟨h1, h2, h3, h4⟩ := h
  obtain ⟨bp, br, bw, c, k1, k2, k3⟩ := h1
  exact ⟨⟨bp, br, bw, c, ⟨k1.1, k1.2, k1.3, k1.4, k1.5, k1.6, k1.7, k1.8⟩, k2, k3⟩, h2, h3, bel_drewN h4 k⟩

theorem TreeAt.drewN {W : World} {B bt : Nat} {p : Opl.Prob} (h1 : TreeAt W B bt p) (k : Nat) : TreeAt (W.drewN k) B bt p := by
  obtain ⟨bp, br, bw, c, k1, k2, k3⟩ := h1
  exact ⟨bp, br, bw, c, ⟨k1.1, k1.2, k1.3, k1.4, k1.5, k1.6, k1.7, k1.8⟩, k2, k3⟩
theorem Pair.behind {w W w' : World} {b1 b2 : Nat} {l1 l2 : Array Value} (h : Pair W w' b1 b2 l1 l2) (hb : Below w.heap.size w W) : Pair w w' b1 b2 l1 l2 :=
  ⟨h.ne, Nat.le_trans hb.size h.le1, Nat.le_trans hb.size h.le2, h.lt1, h.lt2, h.c1, h.c2, h.f1, h.f2, hb.trans (h.bel.mono hb.size)⟩
theorem two_len (p : Opl.Prob) (n : Opl.Node) : (p.two n).length = 2 := by unfold Opl.Prob.two; split <;> rfl
theorem kids_eq (p : Opl.Prob) (n : Opl.Node) : p.kids n = if p.L ≤ n.d then [(p.kid n 0, 0)] else p.two n := rfl

set_option maxHeartbeats 2000000 in
set_option maxRecDepth 100000 in
theorem kids_made (p : Opl.Prob) (hf : p.Fits) (hg : p.Good) (n : Opl.Node) (hn : p.Ok n) (hd : n.d < p.N) (w : World) (B bt : Nat) (ht : TreeAt w B bt p) (hB : B ≤ w.heap.size) :
    Calls Try.prog 8 #[.pointer (some ⟨bt, 0, none⟩), .agg (nodeC n)] w fun e w' => ∃ b1 b2, e = .returned (.tuple #[.slice (some ⟨b1, 0, none⟩) (p.kids n).length (p.kids n).length, .slice (some ⟨b2, 0, none⟩) (p.kids n).length (p.kids n).length]) ∧
      Pair w w' b1 b2 (nodesC (p.kids n)) (bitsC (p.kids n)) := by
  have hs := hn.s
  have nb := Opl.Prob.N_bd hg
  have k1 := (Opl.Code.good_of hg.c).k1
  have hpw : 2 ^ (p.c.K.toNat - 1) ≤ 2 ^ 31 := Nat.pow_le_pow_right (by omega) (by omega)
  have u1 : IntKind.u64.wrap (n.s : Int) = n.s := IntWalk.u64_in _ ⟨by omega, by omega⟩
  have t1 : decide ((n.d : Int) < 0) = false := decide_eq_false (by omega)
  have t2 : decide (p.N ≤ n.d) = false := decide_eq_false (by omega)
  have t3 : decide (((2 ^ (p.c.K.toNat - 1) : Nat) : Int) ≤ (n.s : Int)) = false := decide_eq_false (by omega)
  have hlt := ht.le
  have S0 : KidsS w B bt p n (w.alloc (.cells (nodeC n) 42)) := ⟨ht.below ((bel1 _ _).mono hB), by simp [go_sem], by simp, bel1 _ _⟩
  have HG := Lib.hid hg
  have HF := Lib.hid hf
  have HN := Lib.hid hn
  have HT := Lib.hid ht
  clear hg hf hn ht hs hpw
  generalize hP : ((2 ^ (p.c.K.toNat - 1) : Nat) : Int) = P2 at t3
  go_enter Try.func8, Try.ntmps8
  go_wp2_with fail
  refine wp_quietC (KidsS w B bt p n) (by kernel_rfl) (by kernel_rfl) (S0.drewN 1) ?_
  repeat (
    refine wpQuiet_step (fun K hK => ?_)
    go_simp
    try (apply Exists.intro
         refine ⟨fun W hW => ?_, hK _ ?_⟩
         · first
            | exact ⟨rfl, rfl⟩
            | exact rfl
            | (go_at_call 18; exact (good_made p W B bt hW.1).mono fun e w3 ⟨he, hb3⟩ => ⟨he, by obtain ⟨k, rfl⟩ := hb3; exact hW.drewN k⟩)
            | (obtain ⟨h0, h1, ⟨f, x, y, h2⟩, h3, h4, h5⟩ := hW.1.cells
               obtain ⟨j0, j1, j2⟩ := cell3 hW.2.1
               rw [hP] at h1
               go_simp
               first | exact ⟨rfl, rfl⟩ | exact rfl))
    clear hK K)
  refine wpQuiet_nil ?_
  intro W hW
  obtain ⟨hW1, hW2, hW3, hW4⟩ := hW
  obtain ⟨h0, h1, ⟨f, x, y, h2⟩, h3, h4, h5⟩ := hW1.cells
  obtain ⟨j0, j1, j2⟩ := cell3 hW2
  have HW1 := Lib.hid hW1
  have HW4 := Lib.hid hW4
  clear hW1 hW4
  by_cases hL : p.L ≤ (n.d : Int)
  · have t4 : decide (p.L ≤ (n.d : Int)) = true := decide_eq_true hL
    have HK := Lib.hid ((kids_eq p n).trans (if_pos hL))
    clear hL
    go_wp2_with (first | (go_quiet (fail)) | (go_at_call 20; refine (one_kid p HF.out HG.out n HN.out hd _ B bt (HW1.out.drewN _)).mono ?_; rintro e w3 ⟨b1, b2, rfl, hp⟩))
    go_ret2
    refine ⟨b1, b2, ?_, ?_⟩
    · rw [HK.out]; rfl
    · rw [HK.out]; exact hp.behind (bel_drewN HW4.out _)
  · have t4 : decide (p.L ≤ (n.d : Int)) = false := decide_eq_false hL
    have HK := Lib.hid ((kids_eq p n).trans (if_neg hL))
    clear hL
    go_wp2_with (first | (go_quiet (fail)) | (go_at_call 19; refine (two_kids p HF.out HG.out n HN.out hd _ B bt (HW1.out.drewN _)).mono ?_; rintro e w3 ⟨b1, b2, rfl, hp⟩))
    go_ret2
    refine ⟨b1, b2, ?_, ?_⟩
    · rw [HK.out, two_len]; rfl
    · rw [HK.out]; exact hp.behind (bel_drewN HW4.out _)
end Go.Proofs.Ytdhpkoclnnoniaa
