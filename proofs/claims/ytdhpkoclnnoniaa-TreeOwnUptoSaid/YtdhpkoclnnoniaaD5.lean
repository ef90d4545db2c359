/- outpostlaw15.TreeOwn: it answers true. Conditions: a problem and nodes that lie in memory, no more than 1000000 nodes. -/
import Derived.Test.YtdhpkoclnnoniaaD4
namespace Go.Proofs.Ytdhpkoclnnoniaa
open Go.RowKit Go.Opk

set_option maxHeartbeats 1000000 in
set_option maxRecDepth 100000 in
/-- where the problem is none -/
theorem own_bad (p : Opl.Prob) (hf : p.Fits) (a : Option Addr) (cap : Nat) (w : World) (hw : WinAt w a p.n p.lv) (he : p.err ≠ 0) (ns : Value) :
    Calls Try.prog 3 #[probV p.c p.t p.L (.slice a p.n cap), ns] w fun e w' => e = .returned (.bool true) ∧ Below w.heap.size w w' := by
  have t1 : (p.err != (0 : Int)) = true := by simpa using he
  go_enter Try.func3, Try.ntmps3
  go_wp2_with fail
  refine (new_bad p hf a cap _ (hw.below (bel1 _ _)) he).mono ?_
  rintro e w1 ⟨rfl, hb1⟩
  have HB1 := Lib.hid ((bel1 _ _).trans (hb1.mono (by simp)))
  clear hb1
  go_wp2_with fail
  refine (num_any _ _).mono ?_
  rintro e w2 ⟨rfl, rfl⟩
  go_wp2_with fail
  refine (knows_any _).mono ?_
  rintro e w3 ⟨rfl, hb3⟩
  go_wp2_with fail
  go_ret
  exact ⟨rfl, HB1.out.trans (hb3.mono HB1.out.size)⟩

/-- a row of bytes as a value -/
def sv (x : Nat × Nat) : Value := .slice (some ⟨x.1, 0, none⟩) x.2 x.2
/-- rows that were collected: they lie apart, in blocks from H on -/
structure RowsOk (W : World) (H : Nat) (v : Value) (l : List (Nat × Nat)) : Prop where
  own : W.ownsRow H 30 1 v l.length (l.map sv)
  nd : (l.map Prod.fst).Nodup
  all : ∀ x ∈ l, H ≤ x.1 ∧ fre W x.1 = true ∧ (blk W x.1).size = x.2 ∧ 1 ≤ x.2 ∧ x.2 ≤ 2 ∧ v.ownBlock ≠ some x.1
theorem blk_lt {W : World} {b : Nat} (h : 1 ≤ (blk W b).size) : b < W.heap.size := by
  rcases Nat.lt_or_ge b W.heap.size with g | g
  · exact g
  · simp [blk, Array.getElem?_eq_none g] at h
theorem fre_lt {W : World} {b : Nat} (h : fre W b = true) : b < W.heap.size := by
  rcases Nat.lt_or_ge b W.heap.size with g | g
  · exact g
  · simp [fre, Array.getElem?_eq_none g] at h
theorem RowsOk.later {W W' : World} {H : Nat} {v : Value} {l : List (Nat × Nat)} (h : RowsOk W H v l) (hb : Below W.heap.size W W') : RowsOk W' H v l := by
  obtain ⟨c1, c2, c3, c4⟩ := bfacts hb
  refine ⟨h.own.kept (row := none) ⟨hb.os, hb.tape, hb.output, hb.size, fun k hk _ => hb.block k hk⟩ ?_, h.nd, fun x hx => ?_⟩
  · cases e : v.ownBlock <;> simp
  · obtain ⟨a1, a2, a3, a4⟩ := h.all x hx
    have := fre_lt a2
    exact ⟨a1, by rw [c4 _ this]; exact a2, by rw [c3 _ this]; exact a3, a4⟩
theorem RowsOk.lt {W : World} {H : Nat} {v : Value} {l : List (Nat × Nat)} (h : RowsOk W H v l) {x : Nat × Nat} (hx : x ∈ l) : x.1 < W.heap.size := fre_lt (h.all x hx).2.1
theorem RowsOk.add {W W' : World} {H : Nat} {v v' : Value} {l : List (Nat × Nat)} {x y : Nat × Nat} (h : RowsOk W H v l) (hxy : x.1 ≠ y.1) (hx : ∀ z ∈ l, z.1 < x.1 ∧ z.1 < y.1)
    (hX : H ≤ x.1 ∧ fre W x.1 = true ∧ (blk W x.1).size = x.2 ∧ 1 ≤ x.2 ∧ x.2 ≤ 2 ∧ v.ownBlock ≠ some x.1) (hY : H ≤ y.1 ∧ fre W y.1 = true ∧ (blk W y.1).size = y.2 ∧ 1 ≤ y.2 ∧ y.2 ≤ 2 ∧ v.ownBlock ≠ some y.1)
    (hown : W'.ownsRow H 30 1 v' (l.length + 2) (l.map sv ++ [sv x, sv y])) (hg : W.grownBy W' v.ownBlock) (hv : v'.ownBlock = v.ownBlock ∨ v'.ownBlock = some W.heap.size) : RowsOk W' H v' (l ++ [x, y]) := by
  have key : ∀ z : Nat × Nat, H ≤ z.1 ∧ fre W z.1 = true ∧ (blk W z.1).size = z.2 ∧ 1 ≤ z.2 ∧ z.2 ≤ 2 ∧ v.ownBlock ≠ some z.1 → H ≤ z.1 ∧ fre W' z.1 = true ∧ (blk W' z.1).size = z.2 ∧ 1 ≤ z.2 ∧ z.2 ≤ 2 ∧ v'.ownBlock ≠ some z.1 := by
    rintro z ⟨a1, a2, a3, a4, a5, a6⟩
    have hlt := fre_lt a2
    have hb := hg.block z.1 hlt (Ne.symm a6)
    refine ⟨a1, by simp only [fre, hb]; exact a2, by simp only [blk, hb]; exact a3, a4, a5, ?_⟩
    rcases hv with hv | hv
    · rw [hv]; exact a6
    · rw [hv]; intro e; simp only [Option.some.injEq] at e; omega
  refine ⟨by simpa using hown, ?_, ?_⟩
  · rw [List.map_append, List.nodup_append]
    refine ⟨h.nd, by simpa using hxy, ?_⟩
    intro a ha b hb
    simp only [List.mem_map] at ha
    obtain ⟨z, hz, rfl⟩ := ha
    have := hx z hz
    simp only [List.map_cons, List.map_nil, List.mem_cons, List.not_mem_nil, or_false] at hb
    rcases hb with rfl | rfl <;> omega
  · intro z hz
    simp only [List.mem_append, List.mem_cons, List.not_mem_nil, or_false] at hz
    rcases hz with hz | rfl | rfl
    · exact key z (h.all z hz)
    · exact key _ hX
    · exact key _ hY
/-- what ApartBytes asks for, where there is a row at all -/
theorem RowsOk.apart {W : World} {H : Nat} {v : Value} {l : List (Nat × Nat)} (h : RowsOk W H v l) : (v = .slice none 0 0 ∧ l = []) ∨ ∃ rb cap, v = .slice (some ⟨rb, 0, none⟩) l.length cap ∧ l.length ≤ cap ∧ H ≤ rb ∧ Apart W rb l.length (fun i => (l.getD i (0, 0)).1) (fun i => (l.getD i (0, 0)).2) := by
  rcases h.own.2 with ⟨rfl, h0⟩ | ⟨g, cap, cur, rfl, h1, h2, h3, h4, h5, h6⟩
  · exact .inl ⟨rfl, List.eq_nil_of_length_eq_zero h0⟩
  · refine .inr ⟨g, cap, rfl, h3, h1, ?_⟩
    have gd : ∀ i, i < l.length → l.getD i (0, 0) ∈ l := fun i hi => by
      rw [List.getD_eq_getElem?_getD, List.getElem?_eq_getElem hi]; exact List.getElem_mem hi
    refine ⟨fun i hi => ?_, fun i hi => (h.all _ (gd i hi)).2.1, fun i hi => (h.all _ (gd i hi)).2.2.1, ?_, fun i hi e => (h.all _ (gd i hi)).2.2.2.2.2 (by show some g = _; exact congrArg some e.symm), fun i hi => ⟨(h.all _ (gd i hi)).2.2.2.1, by have := (h.all _ (gd i hi)).2.2.2.2.1; omega⟩⟩
    · have h7 : (cur.toList.take (l.length * 1))[i]? = some (sv (l.getD i (0, 0))) := by
        rw [h6, List.getElem?_map, List.getD_eq_getElem?_getD, List.getElem?_eq_getElem hi]; rfl
      rw [List.getElem?_take_of_lt (by omega)] at h7
      rw [cell_blk]
      simp only [blk, h2]
      simpa [sv] using h7
    · intro i j hi hj e
      have hn := h.nd
      have e1 : (l.map Prod.fst)[i]'(by simpa using hi) = (l.map Prod.fst)[j]'(by simpa using hj) := by
        simp only [List.getElem_map]
        simpa [List.getD_eq_getElem?_getD, List.getElem?_eq_getElem hi, List.getElem?_eq_getElem hj] using e
      rw [List.Nodup, List.pairwise_iff_getElem] at hn
      rcases Nat.lt_trichotomy i j with hlt | hlt | hlt
      · exact absurd e1 (hn i j _ _ hlt)
      · exact hlt
      · exact absurd e1.symm (hn j i _ _ hlt)
end Go.Proofs.Ytdhpkoclnnoniaa
