/- outpostlaw15.TreeOwn, where what it reads is of bulk at most 1048576: it answers true, and leaves its arguments as they were. -/
import Derived.Test.YtdhpkoclnnoniaaD6
import Derived.Test.YtdhpkoclnnoniaaL2
import Derived.Test.YtdhpkoclnnoniaaRows
import Derived.ProofKit
import Derived.JoinedCond
namespace Go.Proofs.Ytdhpkoclnnoniaa
open Go.RowKit Go.Opk Go.WideShapes Go.ChangeShapes Go.ChangeAt
set_option linter.unusedVariables false

theorem bulk_pos {H : Type} (d : DataW H) : 1 ≤ Rows.uptoBulk d := by
  cases d with
  | lit l => cases l <;> simp [Rows.uptoBulk]
  | nil => simp [Rows.uptoBulk]
  | ptr d => simp [Rows.uptoBulk]
  | slice elems spare => simp [Rows.uptoBulk]
  | agg parts => simp [Rows.uptoBulk]
  | iface t d => simp [Rows.uptoBulk]
  | map entries => simp [Rows.uptoBulk]
  | held h => simp [Rows.uptoBulk]
theorem bulk_len {H : Type} (l : List (DataW H)) : l.length ≤ Rows.uptoBulkAll l := by
  induction l with
  | nil => simp [Rows.uptoBulkAll]
  | cons x r ih => have := bulk_pos x; simp only [Rows.uptoBulkAll, List.length_cons]; omega
theorem bulk_slice {H : Type} (elems spare : List (DataW H)) : elems.length + 1 ≤ Rows.uptoBulk (.slice elems spare) := by
  have h1 := bulk_len elems
  simp only [Rows.uptoBulk]
  omega

/-- nodes, opened: their depths -/
theorem open_nodes {H : Type} {enc : TypeId × Value → H} {W : World} {r : Reach} {base : Nat} {v : Value} {d : DataW H} {ps : List MemPlace} (hv : Value.okWide Try.prog W r base 33 v) (hd : DataW.Trod enc Try.prog W 0 (fun _ => true) true 33 v d ps) :
    ∃ (a : Option Addr) (n cap : Nat) (dp : Nat → Int), v = .slice a n cap ∧ n ≤ cap ∧ NodesAt W a n dp ∧ (∀ i, i < n → -9223372036854775808 ≤ dp i ∧ dp i ≤ 9223372036854775807) ∧ n ≤ Rows.uptoBulk d := by
  have hsv : v = .slice none 0 0 ∨ ∃ b off n cap, v = .slice (some ⟨b, off, none⟩) n cap ∧ n ≤ cap ∧ (cap : Int) ≤ IntKind.i64.max := by
    unfold Value.okWide at hv
    rw [Try.underlying33] at hv
    exact cell_slice Try.underlying33 hv
  obtain ⟨fuel, hd⟩ := hd
  have hd' : DataW.trod enc Try.prog W 0 (fun _ => true) true fuel 33 [v] = some (d, ps) := by
    rcases hsv with rfl | ⟨b, off, n, cap, rfl, -, -⟩ <;> exact hd
  rcases Deep.open_slice Try.underlying33 hd' with ⟨h1, h2⟩ | ⟨a, len, cap, m, k, D, Pl, h1, -, h3, h4, h5, h6, h7⟩
  · simp only [List.cons.injEq, and_true] at h1
    subst h1
    exact ⟨none, 0, 0, fun _ => 0, rfl, Nat.le_refl _, .inl rfl, fun i hi => absurd hi (Nat.not_lt_zero _), Nat.zero_le _⟩
  · simp only [List.cons.injEq, and_true] at h1
    subst h1
    have hb : ∃ b off, a = ⟨b, off, none⟩ := by
      rcases hsv with e | ⟨b, off, n, cap, e, -, -⟩
      · cases e
      · cases e; exact ⟨b, off, rfl⟩
    obtain ⟨b, off, rfl⟩ := hb
    simp only [if_true] at h5
    subst h5
    have hc : Try.prog.cellsOf 42 = 3 := by kernel_rfl
    rw [hc] at h7
    have hV : ∀ i, i < m → ∃ q : Int, W.cell? ⟨b, off + (i * 3 + 1), none⟩ = some (.int .i64 q) ∧ -9223372036854775808 ≤ q ∧ q ≤ 9223372036854775807 := fun i hi => by
      obtain ⟨cs', g1, g2⟩ := h7 i hi
      obtain ⟨-, g3, g4⟩ := World.cells?_some g1
      obtain ⟨xs, n', -, -, -, g5, g6⟩ := DataW.trod_struct Try.underlying42 g2
      have g7 : DataW.trod enc Try.prog W 0 (fun _ => true) true n' 3 ((cs'.drop 1).take (Try.prog.cellsOf 3)) = xs[1]? := g6 1 _ rfl
      rw [show Try.prog.cellsOf 3 = 1 from by kernel_rfl] at g7
      have hx1 : ∃ y, xs[1]? = some y := ⟨_, List.getElem?_eq_getElem (by rw [g5]; decide)⟩
      obtain ⟨y, hy⟩ := hx1
      rw [hy] at g7
      obtain ⟨q, g8, -, g9⟩ := DataW.trod_int Try.underlying3 g7
      simp only [Lit.wf, Bool.and_eq_true, decide_eq_true_eq] at g9
      refine ⟨q, ?_, g9.1, g9.2⟩
      have e1 := g4 1 (by omega)
      have e2 : cs'[1]? = some (.int .i64 q) := by
        have := congrArg (fun l => l[0]?) g8
        simpa [List.getElem?_take, List.getElem?_drop] using this
      rw [e2] at e1
      rw [Addr.add_lit, Addr.add_lit] at e1
      rw [← e1]
      congr 2
    refine ⟨some ⟨b, off, none⟩, len, m, fun i => ci (W.cell? ⟨b, off + (i * 3 + 1), none⟩), rfl, h3, ?_, ?_, ?_⟩
    · by_cases h0 : len = 0
      · exact .inl h0
      · refine .inr ⟨b, off, rfl, ?_, fun i hi => ?_⟩
        · obtain ⟨q, g1, -⟩ := hV 0 (by omega)
          exact World.block_lt_of_cell? _ _ g1
        · obtain ⟨q, g1, -⟩ := hV i (by omega)
          simp only [g1]
          rfl
    · intro i hi
      obtain ⟨q, g1, g2⟩ := hV i (by omega)
      show -9223372036854775808 ≤ ci (W.cell? ⟨b, off + (i * 3 + 1), none⟩) ∧ ci (W.cell? ⟨b, off + (i * 3 + 1), none⟩) ≤ 9223372036854775807
      rw [g1]
      exact g2
    · simp only [Prod.mk.injEq] at h6
      rw [h6.1]
      have := bulk_slice ((List.range len).map D) ((List.range (m - len)).map fun j => D (len + j))
      simp only [List.length_map, List.length_range] at this
      omega

theorem own : ownKnob Try.prog.godebug = none := by kernel_rfl
set_option maxRecDepth 100000 in
theorem contract (H : Type) (enc : TypeId × Value → H) (W : World) (base : Nat) (args : Array Value) (ds gs : List (DataW H)) (before : List MemPlace)
    (hval : ∀ (j : Nat) t v, Try.f3.params[j]? = some t → args[j]? = some v → Value.okWide Try.prog W .any base t v)
    (hW : DataW.Whole enc Try.prog Try.f3.params.toList Rows.treeOwnSpec.vars false W args.toList ds gs before) (hk : Rows.uptoSmall H (ds ++ gs) = true) :
    Calls Try.prog 3 args W fun e W' => ∃ v, e = .returned v ∧ Rows.treeOwnSpec.post enc Try.prog Try.f3 false true false false W args v W' := by
  have hW' := hW
  obtain ⟨p, q, hA0, hV, rfl, hfz, hnd⟩ := hW
  have hA : DataW.TrodAll enc Try.prog W 0 (fun _ => true) true Try.f3.params.toList args.toList ds p := hA0
  rw [Try.params3] at hA hval
  obtain ⟨v0, v1, d0, d1, p0, p1, hargs, rfl, rfl, h0, h1⟩ := trodAll_two hA
  obtain rfl : args = #[v0, v1] := by cases args; simp_all
  obtain ⟨rfl, rfl⟩ := trodVars_none hV
  obtain ⟨pr, a, cap, rfl, hn, hw, hf, e0, e1, e2, dw, rfl, hdw⟩ := open_problem (hval 0 _ _ rfl rfl) h0
  obtain ⟨na, N, nc, dp, rfl, hnc, hnodes, hdp, hNb⟩ := open_nodes (hval 1 _ _ rfl rfl) h1
  have hk1 : Rows.uptoBulkAll [DataW.agg [e0, e1, e2, dw], d1] ≤ 1048576 := by
    have := of_decide_eq_true hk
    simpa using this
  have hN : N ≤ 1048576 := by
    simp only [Rows.uptoBulkAll] at hk1
    omega
  have hpn : pr.n ≤ 140737488351232 := by
    rcases hdw with ⟨h, -, -⟩ | ⟨elems, spare, rfl, h, -⟩
    · omega
    · have := bulk_slice elems spare
      simp only [Rows.uptoBulkAll, Rows.uptoBulk] at hk1 this
      omega
  have hfits := hf hpn
  have key : Calls Try.prog 3 #[probV pr.c pr.t pr.L (.slice a pr.n cap), .slice na N nc] W fun e W' => e = .returned (.bool true) ∧ Below W.heap.size W W' := by
    by_cases he : pr.err = 0
    · have hg := Opl.Prob.good_of he
      have hpos : pr.n ≠ 0 := by
        have h1 := Opl.Prob.n_eq hg
        have h2 := Opl.Prob.N_bd hg
        rcases (Opl.Prob.R_eq hg).2 with h3 | h3 <;> rw [h3] at h1 <;> omega
      rcases hw with h | ⟨b, off, rfl, hb, hl⟩
      · exact absurd h hpos
      · exact own_good pr hfits he b off cap W hb hl na N nc dp hN hnc hnodes hdp
    · exact own_bad pr hfits a cap W hw he _
  refine key.mono fun e W' ⟨he, hb⟩ => ⟨_, he, ?_⟩
  refine law_post laidOut hW' ?_ rfl rfl Try.underlying4 ⟨rfl, rfl, rfl⟩ hb
  intro t ht
  rw [Try.params3] at ht
  simp only [List.mem_cons, List.not_mem_nil, or_false] at ht
  rcases ht with rfl | rfl
  · exact ⟨by kernel_rfl, of_decide_eq_true (by kernel_rfl)⟩
  · exact ⟨by kernel_rfl, of_decide_eq_true (by kernel_rfl)⟩

def zI : Value := .int .i64 0
def zU : Value := .int .u32 0
/-- the zero problem's value, and its reading -/
def zeroProb : Value := .agg #[zI, zI, zU, zU, zU, zI, zI, zI, zI, zI, zI, zI, zI, zI, zI, zI, zI, zI, zI, zI, zI, zI, zI, zI, zI, zI, zI, zI, zI, zI, zI, zI, zI, zI, zI, zI, zI, zI, zI, .slice none 0 0]
def dI (H : Type) : DataW H := .lit (.int .i64 0)
def dU (H : Type) : DataW H := .lit (.int .u32 0)
def zeroRow (H : Type) : DataW H := .agg [dI H, dI H, dI H, dI H, dI H, dI H, dI H, dI H, dI H, dI H, dI H, dI H, dI H, dI H, dI H, dI H]
def zeroData (H : Type) : DataW H := .agg [.agg [dI H, dI H, .agg [dU H, dU H, dU H]], .agg [dI H, .agg [zeroRow H, zeroRow H]], dI H, .nil]
set_option maxRecDepth 100000 in
theorem lifted (os : Os) (started : os.Started) (H : Type) (enc : TypeId × Value → H) (F : Stop.Interp) :
    ReturnsInHanded {} Try.checked os 3 .any ((Rows.OpenSpec.upto Rows.treeOwnSpec).pre6 enc Try.prog Try.f3 Rows.treeOwnUptoRow.domain false) (((Rows.OpenSpec.upto Rows.treeOwnSpec).at F).post enc Try.prog Try.f3 false true false false) := by
  refine returnsInHanded_of_cond (C := Try.checked) (s := Rows.OpenSpec.upto Rows.treeOwnSpec) (k := Rows.uptoSmall) rfl own started (by kernel_rfl) Try.func3
    (OpenSpec.witness (enc := enc) (C := Try.checked) (s := Rows.OpenSpec.upto Rows.treeOwnSpec) (k := Rows.uptoSmall) rfl false ⟨#[], #[zeroProb, .slice none 0 0], []⟩ 16 (by kernel_rfl) (by kernel_rfl) (by kernel_rfl)
      (x := ([zeroData H, .nil], [], [])) (by kernel_rfl) rfl (by kernel_rfl)) ?_
  intro W base args ds gs before hval hW _ hk _
  exact contract H enc W base args ds gs before hval hW hk

theorem own_holds : Rows.TreeOwnUptoSaid :=
  OpenClaim.holds_of_cond 3 Try.f3 rfl rfl rfl rfl rfl rfl rfl ⟨rfl, rfl, rfl, rfl, rfl⟩ rfl rfl rfl rfl rfl (by kernel_rfl) Try.func3 (by kernel_rfl)
    (of_decide_eq_true (by kernel_rfl)) (by unfold Func.isWrapper; first | (rw [if_pos (by decide +kernel)]; kernel_rfl) | (rw [if_neg (by decide +kernel)]; exact ⟨rfl, rfl⟩))
    (fun os started H enc _ F => lifted os started H enc F)
#print axioms own_holds
end Go.Proofs.Ytdhpkoclnnoniaa
