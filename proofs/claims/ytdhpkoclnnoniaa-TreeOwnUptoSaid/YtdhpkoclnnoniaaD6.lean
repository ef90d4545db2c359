/- outpostlaw15.TreeOwn where the problem is good. -/
import Derived.Test.YtdhpkoclnnoniaaD5
namespace Go.Proofs.Ytdhpkoclnnoniaa
open Go.RowKit Go.Opk

/-- the depths of nodes, in memory -/
def NodesAt (W : World) (a : Option Addr) (N : Nat) (d : Nat → Int) : Prop := N = 0 ∨ ∃ nb off, a = some ⟨nb, off, none⟩ ∧ nb < W.heap.size ∧ ∀ i, i < N → W.cell? ⟨nb, off + (i * 3 + 1), none⟩ = some (.int .i64 (d i))

/-- what the loop of TreeOwn keeps -/
structure OwnS (w1 : World) (H B bt : Nat) (p : Opl.Prob) (v : Value) (k : Nat) (W : World) : Prop where
  tree : TreeAt W B bt p
  bel : Below H w1 W
  rows : ∃ l : List (Nat × Nat), l.length = 2 * k ∧ RowsOk W H v l

theorem depth_of (d : Int) (n : Nat) (h : 1 ≤ n) : ∃ D : Nat, D < n ∧ (d.tmod n + n) % (n : Int) = D ∧ (0 ≤ d.tmod n + n) ∧ d.tmod n + n ≤ 2 * n := by
  have h1 := Int.tmod_lt_of_pos d (b := (n : Int)) (by omega)
  have h2 : -(n : Int) < d.tmod n := Int.lt_tmod_of_pos d (by omega)
  refine ⟨((d.tmod n + n) % (n : Int)).toNat, ?_, ?_, by omega, by omega⟩
  · have := Int.emod_lt_of_pos (d.tmod n + n) (b := (n : Int)) (by omega)
    have := Int.emod_nonneg (d.tmod n + n) (b := (n : Int)) (by omega)
    omega
  · have := Int.emod_nonneg (d.tmod n + n) (b := (n : Int)) (by omega)
    omega
theorem Pair.after {w w' W : World} {b1 b2 : Nat} {l1 l2 : Array Value} (h : Pair w w' b1 b2 l1 l2) (hb : Below w'.heap.size w' W) : blk W b1 = l1 ∧ blk W b2 = l2 ∧ fre W b1 = true ∧ fre W b2 = true := by
  obtain ⟨c1, c2, c3, c4⟩ := bfacts hb
  exact ⟨by rw [c3 _ h.lt1]; exact h.c1, by rw [c3 _ h.lt2]; exact h.c2, by rw [c4 _ h.lt1]; exact h.f1, by rw [c4 _ h.lt2]; exact h.f2⟩
theorem conv_bits (W : World) (b : Nat) (l : List (Opl.Node × Nat)) (n : Nat) (hn : n = l.length) (h : blk W b = bitsC l) :
    (convert 30 9 (.slice (some ⟨b, 0, none⟩) n n)).run Try.prog W = .ok (.string (strOfNums (l.map fun x => (x.2 : Int)))) W := by
  refine run_convert_bytes_arg (P := Try.prog) W 30 5 Try.underlying30 Try.underlying5 b 0 n n (l.map fun x => (x.2 : Int)) (by simp [hn]) ?_ 9 Try.underlying9
  intro i hi
  rw [Nat.zero_add, cell_blk, h, bitsC, List.getElem?_toArray, List.getElem?_map, List.getElem?_eq_getElem (by omega), List.getD_eq_getElem?_getD, List.getElem?_map, List.getElem?_eq_getElem (by omega)]
  rfl
theorem kids_shape (p : Opl.Prob) (n : Opl.Node) : (∃ x, p.kids n = [x]) ∨ ∃ x y, p.kids n = [x, y] := by
  unfold Opl.Prob.kids; split
  · exact .inl ⟨_, rfl⟩
  · split <;> exact .inr ⟨_, _, rfl⟩
theorem OwnS.next {w3 wr V w' : World} {H B bt : Nat} {p : Opl.Prob} {v v' : Value} {k n b2 b4 : Nat} {l : List (Nat × Nat)} {o : Obj} (hS : OwnS w3 H B bt p v k wr) (hT : TreeAt w3 B bt p) (hB : B ≤ H) (hH : H ≤ w3.heap.size) (hl : l.length = 2 * k) (hR : RowsOk wr H v l) (hV : Below wr.heap.size wr V)
    (h2 : fre V b2 = true ∧ (blk V b2).size = n) (h4 : fre V b4 = true ∧ (blk V b4).size = n) (hn : 1 ≤ n ∧ n ≤ 2) (hne : b2 ≠ b4) (hb2 : wr.heap.size ≤ b2) (hb4 : wr.heap.size ≤ b4)
    (hown : w'.ownsRow H 30 1 v' (l.length + 2) (l.map sv ++ [sv (b2, n), sv (b4, n)])) (hg : (V.alloc o).grownBy w' v.ownBlock) (hv : v'.ownBlock = v.ownBlock ∨ v'.ownBlock = some (V.alloc o).heap.size) : OwnS w3 H B bt p v' (k + 1) w' := by
  have hVa : Below wr.heap.size wr (V.alloc o) := hV.alloc hV.size _
  have hw : H ≤ wr.heap.size := Nat.le_trans hH hS.bel.size
  have e1 : Below H w3 w' := hS.bel.trans ((hVa.mono hw).trans ((Below.refl _ _).grown hg (Nat.le_trans hw hVa.size) (fun j hj => (hR.own.lt j (by first | exact hj | exact hj.symm)).1)))
  have hown0 : ∀ b, wr.heap.size ≤ b → v.ownBlock ≠ some b := fun b hb e => by have := (hR.own.lt b e).2; omega
  have f : ∀ b, fre V b = true → (blk V b).size = n → fre (V.alloc o) b = true ∧ (blk (V.alloc o) b).size = n := fun b h1 h2 => by
    have := fre_lt h1
    exact ⟨by rw [fre_alloc_past _ _ this]; exact h1, by rw [blk_alloc_past _ _ this]; exact h2⟩
  refine ⟨hT.below (e1.mono hB), e1, l ++ [(b2, n), (b4, n)], by simp; omega, ?_⟩
  refine (hR.later hVa).add (x := (b2, n)) (y := (b4, n)) hne (fun z hz => ?_) ⟨Nat.le_trans hw hb2, (f b2 h2.1 h2.2).1, (f b2 h2.1 h2.2).2, hn.1, hn.2, hown0 _ hb2⟩ ⟨Nat.le_trans hw hb4, (f b4 h4.1 h4.2).1, (f b4 h4.1 h4.2).2, hn.1, hn.2, hown0 _ hb4⟩ hown hg hv
  have := hR.lt hz
  exact ⟨Nat.lt_of_lt_of_le this hb2, Nat.lt_of_lt_of_le this hb4⟩
theorem keep_set (W : World) (b1 b j : Nat) (x : Value) (h : b ≠ b1) : blk (W.setCell ⟨b1, j, none⟩ x) b = blk W b ∧ fre (W.setCell ⟨b1, j, none⟩ x) b = fre W b := ⟨by rw [blk_setCell, if_neg h], by rw [fre_setCell]⟩
theorem keep_alloc (W : World) (b : Nat) (o : Obj) (h : b < W.heap.size) : blk (W.alloc o) b = blk W b ∧ fre (W.alloc o) b = fre W b := ⟨blk_alloc_past o b h, fre_alloc_past o b h⟩
set_option maxRecDepth 100000 in
theorem apart_nil (w : World) : Calls Try.prog 10 #[.slice none 0 0] w fun e w' => e = .returned (.bool true) ∧ w = w' := by
  go_enter Try.func10, Try.ntmps10
  go_wp2_with fail
  refine wp_loop_rounds 1 ?_
  rw [rounds_succ]
  go_wp2_with fail
  refine wp_loop_rounds 1 ?_
  rw [rounds_succ]
  go_wp2_with fail
  refine wp_loop_rounds 1 ?_
  rw [rounds_succ]
  go_wp2_with fail
  go_ret
  exact ⟨rfl, rfl⟩
theorem apart_rows {W : World} {H : Nat} {v : Value} {l : List (Nat × Nat)} (h : RowsOk W H v l) (hl : l.length ≤ 2097152) (hH : H ≤ W.heap.size) :
    Calls Try.prog 10 #[v] W fun e w' => e = .returned (.bool true) ∧ Below H W w' := by
  rcases h.apart with ⟨rfl, hnil⟩ | ⟨rb, cap2, rfl, h1, h2, hA⟩
  · exact (apart_nil W).mono fun e w' ⟨h1, h2⟩ => ⟨h1, h2 ▸ Below.refl _ _⟩
  · refine apart_any W H rb l.length cap2 _ _ hA h1 (by omega) (fun i hi => ?_) hH
    have gd : l.getD i (0, 0) ∈ l := by
      rw [List.getD_eq_getElem?_getD, List.getElem?_eq_getElem hi]; exact List.getElem_mem hi
    exact (h.all _ gd).1
theorem infoB : (Try.prog.info? 30).map (fun i => (i.zero, i.size, i.bytes)) = some (some (.slice none 0 0), 1, 24) := by kernel_rfl
theorem two_news (V : World) (x y : Value) (t : TypeId) (q : Nat) : ∀ (j : Nat) (u : Value), [x, y][j]? = some u → ((V.alloc (.cells #[x, y] t)).drewN q).cell? ((⟨V.heap.size, 0, none⟩ : Addr).add j) = some u := by
  intro j u hu
  rw [Addr.add_lit, Nat.zero_add, cell_blk, blk_drewN, blk_alloc_at _ _ _ rfl, ← hu, List.getElem?_toArray]
theorem own_drewN {V : World} {B : Nat} {e : TypeId} {size : Nat} {v : Value} {n : Nat} {xs : List Value} (h : V.ownsRow B e size v n xs) (o : Obj) (q : Nat) : ((V.alloc o).drewN q).ownsRow B e size v n xs := h.alloc o
set_option maxHeartbeats 4000000 in
set_option maxRecDepth 100000 in
theorem own_good (p : Opl.Prob) (hf : p.Fits) (he : p.err = 0) (b off cap : Nat) (w : World) (hb : b < w.heap.size) (hl : LevAt w b off p.n p.lv) (na : Option Addr) (N nc : Nat) (d : Nat → Int) (hN : N ≤ 1048576) (hnc : N ≤ nc) (hn : NodesAt w na N d) (hd : ∀ i, i < N → -9223372036854775808 ≤ d i ∧ d i ≤ 9223372036854775807) :
    Calls Try.prog 3 #[probV p.c p.t p.L (.slice (some ⟨b, off, none⟩) p.n cap), .slice na N nc] w fun e w' => e = .returned (.bool true) ∧ Below w.heap.size w w' := by
  go_enter Try.func3, Try.ntmps3
  have HN := Lib.hid hn
  have HD := Lib.hid hd
  have HE := Lib.hid he
  have HL := Lib.hid hl
  clear hn hd he hl
  go_wp2_with fail
  refine (new_good p hf HE.out b off cap _ (by simp; omega) (HL.out.below (bel1 _ _) hb)).mono ?_
  rintro e w1 ⟨bt, B, bp, br, bw, c, rfl, hb1, hk1, hbt, hT⟩
  have HT := Lib.hid (show TreeAt w1 B bt p from ⟨bp, br, bw, c, hk1, hbt, hT⟩)
  have hBB := hk1.le
  have HB1 := Lib.hid ((bel1 _ _).trans (hb1.mono (by simp)))
  clear hb1 hk1 hT HL
  go_wp2_with fail
  refine (num_any _ _).mono ?_
  rintro e w2 ⟨rfl, rfl⟩
  go_wp2_with fail
  refine (knows_any _).mono ?_
  rintro e w3 ⟨rfl, hb3⟩
  have HT3 := Lib.hid (HT.out.below (hb3.mono hBB))
  have hBB3 := Nat.le_trans hBB hb3.size
  have HB3 := Lib.hid (HB1.out.trans (hb3.mono HB1.out.size))
  clear hb3 HT HB1 hBB
  go_wp2_with fail
  go_loopw [7, 8] (fun v i W => ∃ k : Nat, k ≤ N ∧ i = .int .i64 k ∧ OwnS w3 w3.heap.size B bt p v k W) (fun _ i _ => N - (intOf i).toNat)
  case atStart => exact ⟨0, Nat.zero_le _, rfl, HT3.out, Below.refl _ _, [], rfl, World.ownsRow_nil _ _ _ _, List.nodup_nil, fun x hx => by cases hx⟩
  case round =>
    obtain ⟨k, hk, rfl, hS⟩ := hrel
    have HS := Lib.hid hS
    clear hS
    by_cases hlt : k < N
    · obtain ⟨l0, hl0, hR0⟩ := HS.out.rows
      have hl1 : l0.length ≤ 2097152 := by omega
      obtain ⟨nb, noff, rfl, hnb, hcell⟩ : ∃ nb noff, na = some ⟨nb, noff, none⟩ ∧ nb < w.heap.size ∧ wr.cell? ⟨nb, noff + k * 3 + 1, none⟩ = some (.int .i64 (d k)) := by
        rcases HN.out with h0 | ⟨nb, noff, rfl, hnb, hcell⟩
        · omega
        · refine ⟨nb, noff, rfl, hnb, ?_⟩
          have h1 := hcell k hlt
          rw [← Nat.add_assoc] at h1
          rw [← h1, HS.out.bel.cell (p := ⟨nb, noff + k * 3 + 1, none⟩) (Nat.lt_of_lt_of_le hnb HB3.out.size), HB3.out.cell (p := ⟨nb, noff + k * 3 + 1, none⟩) hnb]
      have hg := Opl.Prob.good_of HE.out
      have nb0 := Opl.Prob.N_bd hg
      have HG := Lib.hid hg
      clear hg
      obtain ⟨D, hD, hD1, hD2, hD3⟩ := depth_of (d k) p.N (by omega)
      have hz : w3.heap.size ≤ wr.heap.size := HS.out.bel.size
      have KEEP := Lib.hid (show ∀ W, Below wr.heap.size wr W → (TreeAt W B bt p ∧ Below wr.heap.size wr W) ∧ W.cell? ⟨nb, noff + k * 3 + 1, none⟩ = some (.int .i64 (d k)) from fun W hW => ⟨⟨HS.out.tree.below (hW.mono (by omega)), hW⟩, by rw [hW.cell (p := ⟨nb, noff + k * 3 + 1, none⟩) (World.block_lt_of_cell? _ _ hcell)]; exact hcell⟩)
      have bd3 : (0 : Int) ≤ k := by omega
      have bd4 : (k : Int) < (N : Int) := by omega
      have bd5 : (1 : Int) ≤ p.N := by omega
      have bd6 : (p.N : Int) ≤ 1055 := by omega
      have hw1 : IntKind.i64.wrap ((d k).tmod (p.N : Int) + (p.N : Int)) = (d k).tmod (p.N : Int) + (p.N : Int) := IntWalk.i64_in _ (by omega)
      have hw2 : ((d k).tmod (p.N : Int) + (p.N : Int)).tmod (p.N : Int) = (D : Int) := by rw [Int.tmod_eq_emod_of_nonneg hD2]; exact hD1
      have hw3 : ((p.N : Int) == 0) = false := beq_eq_false_iff_ne.2 (by omega)
      have hw4 : ¬ (p.N : Int) = 0 := by omega
      have hw5 : ¬ p.N = 0 := by omega
      clear hD1 hD2 hD3
      go_wp2_with fail
      go_cut [9] (fun v9 W => ∃ b9, v9 = .pointer (some ⟨b9, 0, none⟩) ∧ wr.heap.size ≤ b9 ∧ blk W b9 = nodeC ⟨0, D, 0⟩ ∧ Below wr.heap.size wr W)
      case first =>
        go_region_held3 (fun W => (TreeAt W B bt p ∧ Below wr.heap.size wr W) ∧ W.cell? ⟨nb, noff + k * 3 + 1, none⟩ = some (.int .i64 (d k)))
          (with_reducible first | (refine KEEP.out _ ?_; (repeat' (first | exact Below.refl _ _ | refine Below.drew ?_ | refine bel_drewN ?_ _ | refine Below.alloc ?_ ?_ _ | refine Below.setCell ?_ ?_ _)); all_goals ((try simp only [World.size_alloc, World.size_drew, World.size_setCell]); omega)) | fail)
          (first | (go_at_call 7; refine (steps_made p _ B bt (And.left (And.left ‹_›))).mono ?_; rintro e w3 ⟨rfl, q, rfl⟩) | fail)
        all_goals go_wp2_with fail
        all_goals go_meet
        all_goals exact ⟨_, rfl, Nat.le_refl _, by rw [blk_drewN, blk_alloc_at _ _ _ rfl]; rfl, bel_drewN (bel1 _ _) _⟩
      case rest =>
        obtain ⟨b9, rfl, hb9, hc9, hB9⟩ := hcut
        clear KEEP hw1 hw2 hw3 hw4 hw5 hcell
        obtain ⟨i0, i1, i2⟩ := cell3 hc9
        have lt9 : b9 < wc.heap.size := World.block_lt_of_cell? _ _ i0
        have hn : p.Ok ⟨0, D, 0⟩ := ⟨Nat.two_pow_pos _, by show D ≤ p.N; omega, by show -12288 * (D : Int) ≤ 0; omega, by show (0 : Int) ≤ 12288 * (D : Int); omega⟩
        have hzc := hB9.size
        have HBc := Lib.hid hB9
        have HTc := Lib.hid (HS.out.tree.below (hB9.mono (by omega)))
        have HOK := Lib.hid hn
        clear hB9 hn
        have hk1 : p.kids ⟨0, D, 0⟩ = [] ∨ True := .inr trivial
        go_wp2_with fail
        refine (kids_made p hf HG.out ⟨0, D, 0⟩ HOK.out hD _ B bt HTc.out (by omega)).mono ?_
        rintro e w5 ⟨b1, b2, rfl, hP⟩
        have hz5 := hP.bel.size
        have HT5 := Lib.hid (HTc.out.below (hP.bel.mono (by omega)))
        have j0 : w5.cell? ⟨b9, 0, none⟩ = some (.int .u32 0) := by rw [hP.bel.cell (p := ⟨b9, 0, none⟩) lt9]; exact i0
        have j1 : w5.cell? ⟨b9, 1, none⟩ = some (.int .i64 D) := by rw [hP.bel.cell (p := ⟨b9, 1, none⟩) lt9]; exact i1
        have j2 : w5.cell? ⟨b9, 2, none⟩ = some (.int .i64 0) := by rw [hP.bel.cell (p := ⟨b9, 2, none⟩) lt9]; exact i2
        have j3 : blk w5 b9 = nodeC ⟨0, D, 0⟩ := by rw [(bfacts hP.bel).2.2.1 _ lt9]; exact hc9
        clear i0 i1 i2 hc9
        have HP := Lib.hid hP
        clear hP
        go_wp2_with fail
        refine (kids_made p hf HG.out ⟨0, D, 0⟩ HOK.out hD _ B bt HT5.out (by omega)).mono ?_
        rintro e w6 ⟨b3, b4, rfl, hP2⟩
        have hz6 := hP2.bel.size
        clear j0 j1 j2 j3
        obtain ⟨A1, A2, A3, A4⟩ := HP.out.after hP2.bel
        have A5 := hP2.c1
        have A6 := hP2.c2
        have A7 := hP2.f1
        have A8 := hP2.f2
        have HP2 := Lib.hid hP2
        clear hP2
        have N1 := HP.out.ne
        have L1 := HP.out.lt1
        have L2 := HP.out.lt2
        have N2 := HP2.out.ne
        have L3 := HP2.out.le1
        have L4 := HP2.out.le2
        have L5 := HP2.out.lt1
        have L6 := HP2.out.lt2
        go_wp2_with fail
        refine (same_kids b1 b3 p ⟨0, D, 0⟩ w6 A1 A5).mono ?_
        rintro e w7 ⟨rfl, q7, rfl⟩
        rcases kids_shape p ⟨0, D, 0⟩ with ⟨x, hx⟩ | ⟨x, y, hx⟩
        · rw [hx] at A1 A2 A5 A6 ⊢
          have CV2 := conv_bits (w6.drewN q7) b2 [x] 1 rfl A2
          have CV4 := conv_bits (w6.drewN q7) b4 [x] 1 rfl A6
          generalize strOfNums (List.map (fun x => (x.2 : Int)) [x]) = S at CV2 CV4
          have HX := Lib.hid hx
          clear hx
          replace A1 : blk w6 b1 = #[.int .u32 x.1.s, .int .i64 x.1.d, .int .i64 x.1.m] := A1
          replace A5 : blk w6 b3 = #[.int .u32 x.1.s, .int .i64 x.1.d, .int .i64 x.1.m] := A5
          obtain ⟨s0, s1, s2⟩ := cell3 A1
          have f0 := frozen_fre (j := 0) A3
          have f1 := frozen_fre (j := 1) A3
          have f2 := frozen_fre (j := 2) A3
          have n31 : b3 ≠ b1 := by omega
          have n13 : b1 ≠ b3 := by omega
          have l16 : b1 < w6.heap.size := by omega
          have n61 : w6.heap.size ≠ b1 := by omega
          have n63 : w6.heap.size ≠ b3 := by omega
          go_wp2_with fail
          refine wp_loop_rounds 2 ?_
          rw [rounds_succ]
          go_wp2_with fail
          rw [rounds_succ]
          have HVV := Lib.hid (show Below wr.heap.size wr ((((w6.setCell ⟨b1, 0, none⟩ (.int .u32 77)).setCell ⟨b1, 1, none⟩ (.int .i64 0)).setCell ⟨b1, 2, none⟩ (.int .i64 0)).alloc (.cells #[.int .u32 x.1.s, .int .i64 x.1.d, .int .i64 x.1.m] 42)) from by
            have g := HBc.out.trans ((HP.out.bel.mono hzc).trans (HP2.out.bel.mono (Nat.le_trans hzc hz5)))
            have e1 : wr.heap.size ≤ b1 := Nat.le_trans hzc HP.out.le1
            have g3 := ((g.setCell (p := ⟨b1, 0, none⟩) e1 (.int .u32 77)).setCell (p := ⟨b1, 1, none⟩) e1 (.int .i64 0)).setCell (p := ⟨b1, 2, none⟩) e1 (.int .i64 0)
            exact g3.alloc g3.size _)
          obtain ⟨i0, hi, hz0, hz1, hz2⟩ := info_parts infoB
          have HLb := Lib.hid hl0
          have HRb := Lib.hid hR0
          clear hl0 hR0
          go_upto_region 20 with (go_quiet (fail))
          obtain ⟨V, hV⟩ : ∃ V, V = ((((w6.setCell ⟨b1, 0, none⟩ (.int .u32 77)).setCell ⟨b1, 1, none⟩ (.int .i64 0)).setCell ⟨b1, 2, none⟩ (.int .i64 0)).alloc (.cells #[.int .u32 x.1.s, .int .i64 x.1.d, .int .i64 x.1.m] 42)) := ⟨_, rfl⟩
          rw [← hV] at HVV ⊢
          have HVe := Lib.hid hV
          clear hV
          have HO := Lib.hid (HRb.out.later HVV.out).own
          go_wp2_with (at_builtin; go_loud (refine wpList_append_own_at _ rfl (.tmp 104) (.tmp 107) 40 rfl w3.heap.size 30 i0 (.slice none 0 0) 1 24 Try.underlying40 hi hz0 hz1 hz2 rfl (by decide) u7 l0.length (l0.map sv) (by rfl) (own_drewN HO.out _ _) ⟨V.heap.size, 0, none⟩ 2 2 [sv (b2, 1), sv (b4, 1)] (by rfl) rfl (two_news _ _ _ _ _) (by simp [sv, Value.oneCell']) (by unfold maxLen; omega) (by omega) (by simp; have := HVV.out.size; omega) ?_; intro v' w' hown' hgr _ hvb))
          have hb2 := Nat.le_trans hzc HP.out.le2
          have hb4 : wr.heap.size ≤ b4 := by omega
          have kp : ∀ b, b < w6.heap.size → b ≠ b1 → blk V b = blk w6 b ∧ fre V b = fre w6 b := fun b h1 h2 => by
            rw [HVe.out]
            obtain ⟨e1, e2⟩ := keep_alloc (((w6.setCell ⟨b1, 0, none⟩ (.int .u32 77)).setCell ⟨b1, 1, none⟩ (.int .i64 0)).setCell ⟨b1, 2, none⟩ (.int .i64 0)) b (.cells #[.int .u32 x.1.s, .int .i64 x.1.d, .int .i64 x.1.m] 42) (by simpa using h1)
            rw [e1, e2, (keep_set _ b1 b 2 _ h2).1, (keep_set _ b1 b 2 _ h2).2, (keep_set _ b1 b 1 _ h2).1, (keep_set _ b1 b 1 _ h2).2]
            exact keep_set _ b1 b 0 _ h2
          have k2 := kp b2 (by omega) (Ne.symm N1)
          have k4 := kp b4 (by omega) (by omega)
          refine ⟨⟨k + 1, by omega, by go_num, HS.out.next HT3.out hBB3 (Nat.le_refl _) HLb.out HRb.out (bel_drewN HVV.out (q7 + nq)) (n := 1) (b2 := b2) (b4 := b4) (o := .cells #[sv (b2, 1), sv (b4, 1)] 30) ⟨by rw [fre_drewN, k2.2]; exact A4, by rw [blk_drewN, k2.1, A2]; rfl⟩ ⟨by rw [fre_drewN, k4.2]; exact A8, by rw [blk_drewN, k4.1, A6]; rfl⟩ ⟨Nat.le_refl _, by omega⟩ (by omega) hb2 hb4 hown' hgr hvb⟩, by simp [intOf]; omega⟩
        · rw [hx] at A1 A2 A5 A6 ⊢
          have CV2 := conv_bits (w6.drewN q7) b2 [x, y] 2 rfl A2
          have CV4 := conv_bits (w6.drewN q7) b4 [x, y] 2 rfl A6
          generalize strOfNums (List.map (fun x => (x.2 : Int)) [x, y]) = S at CV2 CV4
          have HX := Lib.hid hx
          clear hx
          replace A1 : blk w6 b1 = #[.int .u32 x.1.s, .int .i64 x.1.d, .int .i64 x.1.m, .int .u32 y.1.s, .int .i64 y.1.d, .int .i64 y.1.m] := A1
          replace A5 : blk w6 b3 = #[.int .u32 x.1.s, .int .i64 x.1.d, .int .i64 x.1.m, .int .u32 y.1.s, .int .i64 y.1.d, .int .i64 y.1.m] := A5
          have s0 : w6.cell? ⟨b1, 0, none⟩ = some (.int .u32 x.1.s) := by rw [cell_blk, A1]; rfl
          have s1 : w6.cell? ⟨b1, 1, none⟩ = some (.int .i64 x.1.d) := by rw [cell_blk, A1]; rfl
          have s2 : w6.cell? ⟨b1, 2, none⟩ = some (.int .i64 x.1.m) := by rw [cell_blk, A1]; rfl
          have s3 : w6.cell? ⟨b1, 3, none⟩ = some (.int .u32 y.1.s) := by rw [cell_blk, A1]; rfl
          have s4 : w6.cell? ⟨b1, 4, none⟩ = some (.int .i64 y.1.d) := by rw [cell_blk, A1]; rfl
          have s5 : w6.cell? ⟨b1, 5, none⟩ = some (.int .i64 y.1.m) := by rw [cell_blk, A1]; rfl
          have f0 := frozen_fre (j := 0) A3
          have f1 := frozen_fre (j := 1) A3
          have f2 := frozen_fre (j := 2) A3
          have f3 := frozen_fre (j := 3) A3
          have f4 := frozen_fre (j := 4) A3
          have f5 := frozen_fre (j := 5) A3
          have n31 : b3 ≠ b1 := by omega
          have n13 : b1 ≠ b3 := by omega
          have l16 : b1 < w6.heap.size := by omega
          have n61 : w6.heap.size ≠ b1 := by omega
          have n63 : w6.heap.size ≠ b3 := by omega
          go_wp2_with fail
          refine wp_loop_rounds 3 ?_
          rw [rounds_succ]
          go_wp2_with fail
          rw [rounds_succ]
          go_wp2_with fail
          rw [rounds_succ]
          obtain ⟨i0, hi, hz0, hz1, hz2⟩ := info_parts infoB
          have HLb := Lib.hid hl0
          have HRb := Lib.hid hR0
          clear hl0 hR0
          go_upto_region 20 with (go_quiet (fail))
          have HVV := Lib.hid (show Below wr.heap.size wr (((((((w6.setCell ⟨b1, 0, none⟩ (.int .u32 77)).setCell ⟨b1, 1, none⟩ (.int .i64 0)).setCell ⟨b1, 2, none⟩ (.int .i64 0)).setCell ⟨b1, 3, none⟩ (.int .u32 77)).setCell ⟨b1, 4, none⟩ (.int .i64 0)).setCell ⟨b1, 5, none⟩ (.int .i64 0)).alloc (.cells #[.int .u32 y.1.s, .int .i64 y.1.d, .int .i64 y.1.m] 42)) from by
            have g := HBc.out.trans ((HP.out.bel.mono hzc).trans (HP2.out.bel.mono (Nat.le_trans hzc hz5)))
            have e1 : wr.heap.size ≤ b1 := Nat.le_trans hzc HP.out.le1
            have g3 := ((g.setCell (p := ⟨b1, 0, none⟩) e1 (.int .u32 77)).setCell (p := ⟨b1, 1, none⟩) e1 (.int .i64 0)).setCell (p := ⟨b1, 2, none⟩) e1 (.int .i64 0)
            have g6 := ((g3.setCell (p := ⟨b1, 3, none⟩) e1 (.int .u32 77)).setCell (p := ⟨b1, 4, none⟩) e1 (.int .i64 0)).setCell (p := ⟨b1, 5, none⟩) e1 (.int .i64 0)
            exact g6.alloc g6.size _)
          obtain ⟨V, hV⟩ : ∃ V, V = ((((((w6.setCell ⟨b1, 0, none⟩ (.int .u32 77)).setCell ⟨b1, 1, none⟩ (.int .i64 0)).setCell ⟨b1, 2, none⟩ (.int .i64 0)).setCell ⟨b1, 3, none⟩ (.int .u32 77)).setCell ⟨b1, 4, none⟩ (.int .i64 0)).setCell ⟨b1, 5, none⟩ (.int .i64 0)).alloc (.cells #[.int .u32 y.1.s, .int .i64 y.1.d, .int .i64 y.1.m] 42) := ⟨_, rfl⟩
          rw [← hV] at HVV ⊢
          have HVe := Lib.hid hV
          clear hV
          have HO := Lib.hid (HRb.out.later HVV.out).own
          go_wp2_with (at_builtin; go_loud (refine wpList_append_own_at _ rfl (.tmp 104) (.tmp 107) 40 rfl w3.heap.size 30 i0 (.slice none 0 0) 1 24 Try.underlying40 hi hz0 hz1 hz2 rfl (by decide) u7 l0.length (l0.map sv) (by rfl) (own_drewN HO.out _ _) ⟨V.heap.size, 0, none⟩ 2 2 [sv (b2, 2), sv (b4, 2)] (by rfl) rfl (two_news _ _ _ _ _) (by simp [sv, Value.oneCell']) (by unfold maxLen; omega) (by omega) (by simp; have := HVV.out.size; omega) ?_; intro v' w' hown' hgr _ hvb))
          have hb2 := Nat.le_trans hzc HP.out.le2
          have hb4 : wr.heap.size ≤ b4 := by omega
          have kp : ∀ b, b < w6.heap.size → b ≠ b1 → blk V b = blk w6 b ∧ fre V b = fre w6 b := fun b h1 h2 => by
            rw [HVe.out]
            obtain ⟨e1, e2⟩ := keep_alloc ((((((w6.setCell ⟨b1, 0, none⟩ (.int .u32 77)).setCell ⟨b1, 1, none⟩ (.int .i64 0)).setCell ⟨b1, 2, none⟩ (.int .i64 0)).setCell ⟨b1, 3, none⟩ (.int .u32 77)).setCell ⟨b1, 4, none⟩ (.int .i64 0)).setCell ⟨b1, 5, none⟩ (.int .i64 0)) b (.cells #[.int .u32 y.1.s, .int .i64 y.1.d, .int .i64 y.1.m] 42) (by simpa using h1)
            rw [e1, e2, (keep_set _ b1 b 5 _ h2).1, (keep_set _ b1 b 5 _ h2).2, (keep_set _ b1 b 4 _ h2).1, (keep_set _ b1 b 4 _ h2).2, (keep_set _ b1 b 3 _ h2).1, (keep_set _ b1 b 3 _ h2).2, (keep_set _ b1 b 2 _ h2).1, (keep_set _ b1 b 2 _ h2).2, (keep_set _ b1 b 1 _ h2).1, (keep_set _ b1 b 1 _ h2).2]
            exact keep_set _ b1 b 0 _ h2
          have k2 := kp b2 (by omega) (Ne.symm N1)
          have k4 := kp b4 (by omega) (by omega)
          refine ⟨⟨k + 1, by omega, by go_num, HS.out.next HT3.out hBB3 (Nat.le_refl _) HLb.out HRb.out (bel_drewN HVV.out (q7 + nq)) (n := 2) (b2 := b2) (b4 := b4) (o := .cells #[sv (b2, 2), sv (b4, 2)] 30) ⟨by rw [fre_drewN, k2.2]; exact A4, by rw [blk_drewN, k2.1, A2]; rfl⟩ ⟨by rw [fre_drewN, k4.2]; exact A8, by rw [blk_drewN, k4.1, A6]; rfl⟩ ⟨by omega, Nat.le_refl _⟩ (by omega) hb2 hb4 hown' hgr hvb⟩, by simp [intOf]; omega⟩
    · have e : k = N := by omega
      subst e
      obtain ⟨l0, hl0, hR0⟩ := HS.out.rows
      have HLb := Lib.hid hl0
      have HRb := Lib.hid hR0
      clear hl0 hR0
      have hg := Opl.Prob.good_of HE.out
      have nb0 := Opl.Prob.N_bd hg
      have g0 := hg.l0
      have HG := Lib.hid hg
      clear hg
      have h1 := HS.out.bel.size
      go_wp2_with fail
      refine (apart_rows HRb.out (by rw [HLb.out]; omega) h1).mono ?_
      rintro e w5 ⟨rfl, hb5⟩
      have hz5 := hb5.size
      have HT5 := Lib.hid (HS.out.tree.below (hb5.mono hBB3))
      have HB5 := Lib.hid (HS.out.bel.trans hb5)
      clear hb5
      go_wp2_with fail
      refine (root_made _ _).mono ?_
      rintro e w6 ⟨rfl, hb6⟩
      have hz6 := hb6.size
      have HT6 := Lib.hid (HT5.out.below (hb6.mono (by omega)))
      have HB6 := Lib.hid (HB5.out.trans (hb6.mono (by omega)))
      clear hb6
      go_wp2_with fail
      refine (kids_made p hf HG.out Opl.root (Opl.Prob.root_ok _) (by show 0 < p.N; omega) _ B bt HT6.out (by omega)).mono ?_
      rintro e w7 ⟨b1, b2, rfl, hP⟩
      have hz7 := hP.bel.size
      have HB7 := Lib.hid (HB6.out.trans (hP.bel.mono (by omega)))
      clear hP
      have hkl : (p.kids Opl.root).length = 2 := by rw [kids_eq, if_neg (by show ¬ p.L ≤ ((0 : Nat) : Int); omega)]; exact two_len _ _
      rw [hkl]
      clear hkl
      go_wp2_with fail
      refine (root_made _ _).mono ?_
      rintro e w8 ⟨rfl, hb8⟩
      have HB8 := Lib.hid (HB7.out.trans (hb8.mono (by omega)))
      clear hb8
      go_wp2_with fail
      go_ret
      exact ⟨rfl, HB3.out.trans (HB8.out.mono HB3.out.size)⟩
end Go.Proofs.Ytdhpkoclnnoniaa
