/- A problem, opened: what its reading says of its cells. No condition. -/
import Derived.Test.YtdhpkoclnnoniaaL
import Derived.Test.YtdhpkoclnnoniaaB4
namespace Go.Proofs.Ytdhpkoclnnoniaa
open Go.RowKit Go.Opk Go.WideShapes Go.ChangeShapes

def ci (c : Option Value) : Int := match c with | some (.int _ n) => n | _ => 0
def probTs : List TypeId := [3, 3, 22, 22, 22, 3] ++ List.replicate 32 3 ++ [3, 30]
theorem probTs_eq : Try.prog.cellTypes Try.prog.depth 32 = some probTs := by kernel_rfl
theorem probTs_len : probTs.length = 40 := by rfl
theorem laidOut : laidOutB Try.prog = true := by kernel_rfl

theorem list_of_get {a b : List Value} (hl : a.length = b.length) (h : ∀ i, i < b.length → a[i]? = b[i]?) : a = b := by
  apply List.ext_getElem?
  intro i
  by_cases hi : i < b.length
  · exact h i hi
  · rw [List.getElem?_eq_none (by omega), List.getElem?_eq_none (by omega)]

set_option maxRecDepth 100000 in
/-- the cells of a problem -/
theorem open_cells {W : World} {r : Reach} {base : Nat} {v : Value} (hv : Value.okWide Try.prog W r base 32 v) :
    ∃ (c : Opl.Code) (t : Opl.Tab) (L : Int) (sv : Value), v = probV c t L sv ∧ c.Fits ∧ t.Fits ∧ -9223372036854775808 ≤ L ∧ L ≤ 9223372036854775807 ∧ (sv = .slice none 0 0 ∨ ∃ b off n cap, sv = .slice (some ⟨b, off, none⟩) n cap ∧ n ≤ cap ∧ (cap : Int) ≤ IntKind.i64.max) := by
  obtain ⟨cs, rfl, hs, hc⟩ := opk_cells hv (by kernel_rfl) probTs_eq (by kernel_rfl)
  rw [probTs_len] at hs
  have hint : ∀ i, probTs[i]? = some 3 → ∃ n : Int, cs[i]? = some (Value.int .i64 n) ∧ -9223372036854775808 ≤ n ∧ n ≤ 9223372036854775807 := fun i hi => by
    obtain ⟨c, h1, h2⟩ := hc i _ hi
    obtain ⟨n, rfl, h3, h4⟩ := cell_int Try.underlying3 h2
    exact ⟨n, h1, h3, h4⟩
  have hu32 : ∀ i, probTs[i]? = some 22 → ∃ n : Nat, cs[i]? = some (Value.int .u32 n) ∧ n < 4294967296 := fun i hi => by
    obtain ⟨c, h1, h2⟩ := hc i _ hi
    obtain ⟨n, rfl, h3, h4⟩ := cell_int Try.underlying22 h2
    have h3' : (0 : Int) ≤ n := h3
    have h4' : n ≤ (4294967295 : Int) := h4
    obtain ⟨m, rfl⟩ := Int.eq_ofNat_of_zero_le h3'
    exact ⟨m, h1, by omega⟩
  obtain ⟨K, e0, k0, k1⟩ := hint 0 rfl
  obtain ⟨R, e1, r0, r1⟩ := hint 1 rfl
  obtain ⟨g0, e2, f0⟩ := hu32 2 rfl
  obtain ⟨g1, e3, f1⟩ := hu32 3 rfl
  obtain ⟨g2, e4, f2⟩ := hu32 4 rfl
  obtain ⟨lev, e5, l0, l1⟩ := hint 5 rfl
  obtain ⟨L, e38, q0, q1⟩ := hint 38 rfl
  obtain ⟨sv, e39, hsv⟩ := hc 39 _ (show probTs[39]? = some 30 from rfl)
  have hm : ∀ i, i < 32 → probTs[6 + i]? = some 3 := by decide
  let t : Opl.Tab := ⟨lev, fun b r => if b < 2 ∧ r < 16 then ci cs[6 + (b * 16 + r)]? else 0⟩
  have tm : ∀ b r, b < 2 → r < 16 → cs[6 + (b * 16 + r)]? = some (.int .i64 (t.m b r)) ∧ -9223372036854775808 ≤ t.m b r ∧ t.m b r ≤ 9223372036854775807 := fun b r hb hr => by
    obtain ⟨n, h1, h2, h3⟩ := hint (6 + (b * 16 + r)) (hm _ (by omega))
    have e : t.m b r = n := by
      show (if b < 2 ∧ r < 16 then ci cs[6 + (b * 16 + r)]? else 0) = n
      rw [if_pos ⟨hb, hr⟩, h1]; rfl
    rw [e]; exact ⟨h1, h2, h3⟩
  refine ⟨⟨K, R, g0, g1, g2⟩, t, L, sv, ?_, ⟨k0, k1, r0, r1, f0, f1, f2⟩, ⟨l0, l1, fun b r => ?_, fun b r => ?_⟩, q0, q1, cell_slice Try.underlying30 hsv⟩
  · show Value.agg cs = Value.agg _
    congr 1
    apply Array.ext'
    have hl : (probC ⟨K, R, g0, g1, g2⟩ t L sv).toList.length = 40 := by rw [Array.length_toList, probC_size]
    refine list_of_get (by rw [hl]; simpa using hs) fun i hi => ?_
    rw [hl] at hi
    rw [Array.getElem?_toList, Array.getElem?_toList]
    by_cases h6 : i < 6
    · rcases (by omega : i = 0 ∨ i = 1 ∨ i = 2 ∨ i = 3 ∨ i = 4 ∨ i = 5) with rfl | rfl | rfl | rfl | rfl | rfl
      · exact e0
      · exact e1
      · exact e2
      · exact e3
      · exact e4
      · exact e5
    · by_cases h38 : i < 38
      · have hb : (i - 6) / 16 < 2 := by omega
        have hr : (i - 6) % 16 < 16 := Nat.mod_lt _ (by omega)
        have hi2 : i = 6 + ((i - 6) / 16 * 16 + (i - 6) % 16) := by omega
        have h1 := (tm _ _ hb hr).1
        rw [← hi2] at h1
        rw [h1]
        have h2 := tabC_get t ((i - 6) / 16) ((i - 6) % 16) hb hr
        rw [← h2, ← probC_tab ⟨K, R, g0, g1, g2⟩ t L sv, Array.getElem?_extract]
        rw [if_pos (by rw [probC_size]; omega)]
        congr 1
        omega
      · rcases (by omega : i = 38 ∨ i = 39) with rfl | rfl
        · rw [e38, probC_38]
        · rw [e39, probC_39]
  · show -9223372036854775808 ≤ t.m b r
    by_cases h : b < 2 ∧ r < 16
    · exact (tm b r h.1 h.2).2.1
    · show -9223372036854775808 ≤ (if b < 2 ∧ r < 16 then ci cs[6 + (b * 16 + r)]? else 0)
      rw [if_neg h]; omega
  · show t.m b r ≤ 9223372036854775807
    by_cases h : b < 2 ∧ r < 16
    · exact (tm b r h.1 h.2).2.2
    · show (if b < 2 ∧ r < 16 then ci cs[6 + (b * 16 + r)]? else 0) ≤ 9223372036854775807
      rw [if_neg h]; omega

theorem drop_one {α : Type} {l : List α} {i : Nat} {v : α} (h : l[i]? = some v) : (l.drop i).take 1 = [v] := by
  obtain ⟨hi, rfl⟩ := List.getElem?_eq_some_iff.1 h
  rw [List.drop_eq_getElem_cons hi]
  rfl
/-- bytes, opened -/
theorem open_bytes {H : Type} {enc : TypeId × Value → H} {W : World} {n : Nat} {sv : Value} {x : DataW H × List MemPlace} (hsv : sv = .slice none 0 0 ∨ ∃ b off n cap, sv = .slice (some ⟨b, off, none⟩) n cap ∧ n ≤ cap ∧ (cap : Int) ≤ IntKind.i64.max)
    (h : DataW.trod enc Try.prog W 0 (fun _ => true) true n 30 [sv] = some x) :
    ∃ (a : Option Addr) (n cap : Nat) (lv : Nat → Nat), sv = .slice a n cap ∧ n ≤ cap ∧ WinAt W a n lv ∧ (∀ i, i < n → lv i < 256) ∧ (a = none → n = 0 ∧ cap = 0) ∧ (∀ b off s, a = some ⟨b, off, s⟩ → s = none) ∧
      ((n = 0 ∧ cap = 0 ∧ x.1 = .nil) ∨ ∃ elems spare, x.1 = .slice elems spare ∧ elems.length = n ∧ spare.length = cap - n) := by
  rcases Deep.open_slice1 Try.underlying30 (by kernel_rfl) h with ⟨h1, rfl⟩ | ⟨a, len, cap, m, k, V, D, Pl, h1, -, h3, h4, h5, rfl, h7⟩
  · simp only [List.cons.injEq, and_true] at h1
    subst h1
    exact ⟨none, 0, 0, fun _ => 0, rfl, Nat.le_refl _, .inl rfl, fun i hi => absurd hi (Nat.not_lt_zero _), fun _ => ⟨rfl, rfl⟩, (fun _ _ _ e => by cases e), .inl ⟨rfl, rfl, rfl⟩⟩
  · simp only [List.cons.injEq, and_true] at h1
    subst h1
    have hb : ∃ b off, a = ⟨b, off, none⟩ := by
      rcases hsv with e | ⟨b, off, n, cap, e, -, -⟩
      · cases e
      · cases e; exact ⟨b, off, rfl⟩
    obtain ⟨b, off, rfl⟩ := hb
    simp only [if_true] at h5
    subst h5
    have hV : ∀ i, i < m → ∃ q : Nat, V i = .int .u8 q ∧ q < 256 := fun i hi => by
      obtain ⟨_, g2⟩ := h7 i hi
      obtain ⟨q, g3, _, g4⟩ := DataW.trod_int Try.underlying5 g2
      simp only [List.cons.injEq, and_true] at g3
      simp only [Lit.wf, Bool.and_eq_true, decide_eq_true_eq] at g4
      have g5 : (0 : Int) ≤ q := g4.1
      have g6 : q ≤ (255 : Int) := g4.2
      obtain ⟨j, rfl⟩ := Int.eq_ofNat_of_zero_le g5
      exact ⟨j, g3, by omega⟩
    refine ⟨some ⟨b, off, none⟩, len, m, fun i => (ci (some (V i))).toNat, rfl, h3, ?_, ?_, (fun e => by cases e), (fun _ _ _ e => by cases e; rfl), .inr ⟨_, _, rfl, by simp, by simp⟩⟩
    · by_cases h0 : len = 0
      · exact .inl h0
      · refine .inr ⟨b, off, rfl, ?_, fun i hi => ?_⟩
        · have := (h7 0 (by omega)).1
          exact World.block_lt_of_cell? _ _ this
        · obtain ⟨q, g1, g2⟩ := hV i (by omega)
          have g3 := (h7 i (by omega)).1
          rw [Addr.add_lit] at g3
          rw [g3]
          simp only [g1]
          rfl
    · intro i hi
      obtain ⟨q, g1, g2⟩ := hV i (by omega)
      simp only [g1]
      exact g2

set_option maxRecDepth 100000 in
/-- A PROBLEM, OPENED. -/
theorem open_problem {H : Type} {enc : TypeId × Value → H} {W : World} {r : Reach} {base : Nat} {v : Value} {d : DataW H} {ps : List MemPlace} (hv : Value.okWide Try.prog W r base 32 v) (hd : DataW.Trod enc Try.prog W 0 (fun _ => true) true 32 v d ps) :
    ∃ (p : Opl.Prob) (a : Option Addr) (cap : Nat), v = probV p.c p.t p.L (.slice a p.n cap) ∧ p.n ≤ cap ∧ WinAt W a p.n p.lv ∧ (p.n ≤ 140737488351232 → p.Fits) ∧
      ∃ d0 d1 d2 dw, d = .agg [d0, d1, d2, dw] ∧ ((p.n = 0 ∧ cap = 0 ∧ dw = .nil) ∨ ∃ elems spare, dw = .slice elems spare ∧ elems.length = p.n ∧ spare.length = cap - p.n) := by
  obtain ⟨c, t, L, sv, rfl, f1, f2, l0, l1, hsv⟩ := open_cells hv
  obtain ⟨fuel, hd⟩ := hd
  obtain ⟨xs, m, _, hx, _, hlen, hf⟩ := DataW.trod_struct Try.underlying32 hd
  have h3 := hf 3 _ rfl
  have e3 : (((probV c t L sv).cells.toList.drop 39).take (Try.prog.cellsOf 30)) = [sv] := by
    rw [show Try.prog.cellsOf 30 = 1 from by kernel_rfl]
    refine drop_one ?_
    rw [Array.getElem?_toList]
    exact probC_39 c t L sv
  rw [show Try.prog.cellsOf 30 = 1 from by kernel_rfl] at e3
  match xs, hlen with
  | [y0, y1, y2, y3], _ =>
    simp only [List.map_cons, List.map_nil, Prod.mk.injEq] at hx
    obtain ⟨rfl, -⟩ := hx
    have h4 : DataW.trod enc Try.prog W 0 (fun _ => true) true m 30 [sv] = some y3 := by
      have h5 : DataW.trod enc Try.prog W 0 (fun _ => true) true m 30 (((probV c t L sv).cells.toList.drop 39).take (Try.prog.cellsOf 30)) = some y3 := h3
      rw [show Try.prog.cellsOf 30 = 1 from by kernel_rfl, e3] at h5
      exact h5
    obtain ⟨a, n, cap, lv, rfl, hn, hw, hlv, -, -, hdw⟩ := open_bytes hsv h4
    refine ⟨⟨c, t, L, n, lv⟩, a, cap, rfl, hn, hw, fun hn2 => ⟨f1, f2, l0, l1, hn2, hlv⟩, y0.1, y1.1, y2.1, y3.1, rfl, ?_⟩
    exact hdw
end Go.Proofs.Ytdhpkoclnnoniaa
