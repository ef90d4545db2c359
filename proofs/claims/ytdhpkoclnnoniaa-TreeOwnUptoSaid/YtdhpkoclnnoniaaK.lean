/- Small laws for blocks of cells, over any program: what a block holds ('blk'), reading and writing several cells at once, worlds behind 'Below'. No condition. -/
import Derived.WalkKit
import Derived.Deep.QuietTactic
import Derived.BigQuiet
import Derived.Deep.MidRow
import Derived.Deep.WholeRow
import Derived.Laws.CopyRow
import Derived.Lib.Hide
namespace Go.Opk
open Go.RowKit
variable {P : Program} {W w : World}

/-- the cells of a block -/
def blk (W : World) (b : Nat) : Array Value := match W.heap[b]? with | some (.cells c _ _) => c | _ => #[]
/-- a block of cells none of which is frozen -/
def fre (W : World) (b : Nat) : Bool := match W.heap[b]? with | some (.cells _ _ f) => f == (0, 0) | _ => false

@[go_sem] theorem blk_alloc_at (c : Array Value) (t : TypeId) (n : Nat) (hn : n = w.heap.size) : blk (w.alloc (.cells c t)) n = c := by
  subst hn; simp only [blk]; rw [show (w.alloc (.cells c t)).heap[w.heap.size]? = _ from heap_alloc_last w _]
@[go_sem] theorem blk_alloc_past (o : Obj) (n : Nat) (hn : n < w.heap.size) : blk (w.alloc o) n = blk w n := by
  simp only [blk, Below.heap_alloc w o n hn]
@[go_sem] theorem blk_drew (n : Nat) : blk w.drew n = blk w n := rfl
@[go_sem] theorem blk_drewN (k n : Nat) : blk (w.drewN k) n = blk w n := rfl
@[go_sem] theorem fre_alloc_at (c : Array Value) (t : TypeId) (n : Nat) (hn : n = w.heap.size) : fre (w.alloc (.cells c t)) n = true := by
  subst hn; simp only [fre]; rw [show (w.alloc (.cells c t)).heap[w.heap.size]? = _ from heap_alloc_last w _]; rfl
@[go_sem] theorem fre_alloc_past (o : Obj) (n : Nat) (hn : n < w.heap.size) : fre (w.alloc o) n = fre w n := by
  simp only [fre, Below.heap_alloc w o n hn]
@[go_sem] theorem fre_drew (n : Nat) : fre w.drew n = fre w n := rfl
@[go_sem] theorem fre_drewN (k n : Nat) : fre (w.drewN k) n = fre w n := rfl
def setObj (i : Nat) (v : Value) : Obj → Obj | .cells c e f => .cells (c.setIfInBounds i v) e f | o => o
theorem heap_setCell_self (b i : Nat) (v : Value) : (w.setCell ⟨b, i, none⟩ v).heap[b]? = (w.heap[b]?).map (setObj i v) := by
  simp only [World.setCell, Array.getElem?_modify, if_true]
  congr 1
@[go_sem] theorem blk_setCell (b i n : Nat) (v : Value) : blk (w.setCell ⟨b, i, none⟩ v) n = if n = b then (blk w b).setIfInBounds i v else blk w n := by
  by_cases h : n = b
  · subst h
    simp only [blk, heap_setCell_self, if_true]
    cases h2 : w.heap[n]? with
    | none => simp
    | some o => cases o <;> simp [setObj]
  · rw [if_neg h]
    simp [blk, heap_setCell_other w ⟨b, i, none⟩ n v h]
@[go_sem] theorem fre_setCell (b i n : Nat) (v : Value) : fre (w.setCell ⟨b, i, none⟩ v) n = fre w n := by
  by_cases h : n = b
  · subst h
    simp only [fre, heap_setCell_self]
    cases h2 : w.heap[n]? with
    | none => simp
    | some o => cases o <;> simp [setObj]
  · simp [fre, heap_setCell_other w ⟨b, i, none⟩ n v h]
theorem cell_blk (W : World) (b j : Nat) : W.cell? ⟨b, j, none⟩ = (blk W b)[j]? := by
  unfold World.cell? blk
  simp only
  split <;> simp_all
theorem frozen_fre {W : World} {b j : Nat} (h : fre W b = true) : W.frozen? ⟨b, j, none⟩ = false := by
  unfold World.frozen?
  unfold fre at h
  simp only
  split
  · rename_i c e lo hi hh
    rw [hh] at h
    simp at h
    simp [h.1, h.2]
  · rfl

@[go_sem] theorem setCell_drewN (k : Nat) (a : Addr) (v : Value) : (w.drewN k).setCell a v = (w.setCell a v).drewN k := rfl
@[go_sem] theorem alloc_drewN (k : Nat) (o : Obj) : (w.drewN k).alloc o = (w.alloc o).drewN k := rfl
/-- where a rule does not serve -/
def ldElse (P : Program) (W : World) (b off n : Nat) : Result (Array Value) := (loadCellsFrom ⟨b, off, none⟩ 0 n #[]).run P W
@[go_sem ↓] theorem ld_rule (P : Program) (W : World) (b off n : Nat) :
    (loadCellsFrom ⟨b, off, none⟩ 0 n #[]).run P W = if off + n ≤ (blk W b).size then .ok ((blk W b).extract off (off + n)) W else ldElse P W b off n := by
  split
  · rename_i h
    have := run_loadCells_list (P := P) W ⟨b, off, none⟩ ((blk W b).extract off (off + n)).toList (fun j v hv => by
      rw [Addr.add_mid, cell_blk]
      rw [Array.getElem?_toList] at hv
      rw [Array.getElem?_extract] at hv
      split at hv
      · exact hv
      · cases hv)
    have hl : ((blk W b).extract off (off + n)).toList.length = n := by simp; omega
    rw [hl, Array.toArray_toList] at this
    exact this
  · rfl

/-- cells written over from a place on -/
def splice (c : Array Value) (off : Nat) (l : List Value) : Array Value := (c.toList.take off ++ l ++ c.toList.drop (off + l.length)).toArray
def ones (l : List Value) : Bool := l.all (·.oneCell')
def stElse (P : Program) (W : World) (b off : Nat) (l : List Value) : Result Unit := (storeCells ⟨b, off, none⟩ l 0).run P W
theorem fre_block {W : World} {b : Nat} (h : fre W b = true) : ∃ t, W.heap[b]? = some (.cells (blk W b) t (0, 0)) := by
  unfold fre at h
  unfold blk
  split at h
  · rename_i c e f hh
    rw [hh]
    simp only [beq_iff_eq] at h
    subst h
    exact ⟨e, rfl⟩
  · cases h
@[go_sem ↓] theorem st_rule (P : Program) (W : World) (b off : Nat) (l : List Value) :
    (storeCells ⟨b, off, none⟩ l 0).run P W = if fre W b = true ∧ off + l.length ≤ (blk W b).size ∧ ones l = true then .ok () (W.setRow b (splice (blk W b) off l)) else stElse P W b off l := by
  split
  · rename_i h
    obtain ⟨h1, h2, h3⟩ := h
    obtain ⟨t, ht⟩ := fre_block h1
    exact Go.run_storeCells_at (P := P) b off t l 0 _ W ht (by simpa using h2) (by simpa [ones] using h3)
  · rfl
@[go_sem] theorem setRow_alloc_at (c c' : Array Value) (t : TypeId) (n : Nat) (hn : n = w.heap.size) : (w.alloc (.cells c t)).setRow n c' = w.alloc (.cells c' t) := by
  subst hn; exact World.setRow_alloc_new w c c' t
@[go_sem] theorem setRow_alloc_past (o : Obj) (n : Nat) (c' : Array Value) (hn : n < w.heap.size) : (w.alloc o).setRow n c' = (w.setRow n c').alloc o := by
  unfold World.setRow World.alloc
  congr 1
  apply Array.ext_getElem?
  intro k
  simp only [Array.getElem?_modify, Array.getElem?_push, Array.size_modify]
  by_cases hk : k = w.heap.size
  · subst hk
    simp [Nat.ne_of_lt hn]
  · simp [hk]
@[go_sem] theorem setRow_drew (n : Nat) (c' : Array Value) : w.drew.setRow n c' = (w.setRow n c').drew := rfl
@[go_sem] theorem setRow_drewN (k n : Nat) (c' : Array Value) : (w.drewN k).setRow n c' = (w.setRow n c').drewN k := rfl
theorem blk_setRow_other (b n : Nat) (c : Array Value) (h : n ≠ b) : blk (w.setRow b c) n = blk w n := by
  simp only [blk, setRow_other w b n c h]
theorem blk_setRow_same (b : Nat) (c : Array Value) (h : fre w b = true) : blk (w.setRow b c) b = c := by
  obtain ⟨t, ht⟩ := fre_block h
  simp only [blk, setRow_heap w b _ c t _ ht]
@[go_sem] theorem blk_setRow (b n : Nat) (c : Array Value) (h : fre w b = true) : blk (w.setRow b c) n = if n = b then c else blk w n := by
  by_cases e : n = b
  · rw [if_pos e, e, blk_setRow_same b c h]
  · rw [if_neg e, blk_setRow_other b n c e]
@[go_sem] theorem fre_setRow (b n : Nat) (c : Array Value) : fre (w.setRow b c) n = fre w n := by
  by_cases e : n = b
  · subst e
    simp only [fre, World.setRow, Array.getElem?_modify, if_true]
    cases h2 : w.heap[n]? with
    | none => rfl
    | some o => cases o <;> rfl
  · simp only [fre, setRow_other w b n c e]
@[go_sem] theorem cell_setRow (b n i : Nat) (c : Array Value) (h : fre w b = true) : (w.setRow b c).cell? ⟨n, i, none⟩ = if n = b then c[i]? else w.cell? ⟨n, i, none⟩ := by
  rw [cell_blk, blk_setRow b n c h, cell_blk]
  split <;> rfl
theorem splice_all (c : Array Value) (l : List Value) (h : l.length = c.size) : splice c 0 l = l.toArray := by
  simp [splice, h]
theorem below_setRow {B b : Nat} {a w : World} (h : Below B a w) (hb : B ≤ b) (c : Array Value) : Below B a (w.setRow b c) :=
  h.trans ⟨rfl, rfl, rfl, by simp, fun k hk => setRow_other w b k c (by omega)⟩

theorem run_isAgg {ty : TypeId} {d : TypeDesc} (hu : P.underlying ty = some d) (W : World) : (isAgg ty).run P W = .ok d.isRow W := by
  unfold isAgg
  rw [Sem.run_bind, run_underlying hu W]
  cases d <;> rfl
theorem run_sizeOf {ty : TypeId} {n : Nat} (hi : (P.info? ty).map (·.size) = some n) (W : World) : (sizeOf ty).run P W = .ok n W := by
  cases hq : P.info? ty with
  | none => simp [hq] at hi
  | some i =>
    have : i.size = n := by simpa [hq] using hi
    simp [sizeOf, typeInfo, hq, this]
/-- an array's element that is itself of several cells -/
theorem run_index_agg {ty elem len n : Nat} {d : TypeDesc} (hu : P.underlying ty = some (.array len elem)) (hd : P.underlying elem = some d) (hr : d.isRow = true) (hi : (P.info? elem).map (·.size) = some n)
    (cs : Array Value) (k : IntKind) (i : Int) (h0 : 0 ≤ i) (h1 : i < len) (W : World) :
    (Instr.index ty (.agg cs) (.int k i)).run P W = .ok (.agg (cs.extract (i.toNat * n) (i.toNat * n + n))) W := by
  have h : 0 ≤ i ∧ i < (len : Int) := ⟨h0, h1⟩
  simp [Instr.index, asIntOf, run_underlying hu, h, run_sizeOf hi, part, run_isAgg hd, hr]
/-- an array's element of one cell -/
theorem run_index_one {ty elem len : Nat} {d : TypeDesc} (hu : P.underlying ty = some (.array len elem)) (hd : P.underlying elem = some d) (hr : d.isRow = false) (hi : (P.info? elem).map (·.size) = some 1)
    (cs : Array Value) (k : IntKind) (i : Int) (v : Value) (h0 : 0 ≤ i) (h1 : i < len) (hv : cs[i.toNat]? = some v) (W : World) :
    (Instr.index ty (.agg cs) (.int k i)).run P W = .ok v W := by
  have h : 0 ≤ i ∧ i < (len : Int) := ⟨h0, h1⟩
  simp [Instr.index, asIntOf, run_underlying hu, h, run_sizeOf hi, part, run_isAgg hd, hr, hv]

theorem bel1 (w : World) (a : Obj) : Below w.heap.size w (w.alloc a) := (Below.refl _ _).alloc (Nat.le_refl _) _
theorem bel2 (w : World) (a b : Obj) : Below w.heap.size w ((w.alloc a).alloc b) := (bel1 w a).alloc (by simp) _
theorem bel3 (w : World) (a b c : Obj) : Below w.heap.size w (((w.alloc a).alloc b).alloc c) := (bel2 w a b).alloc (by simp; omega) _
theorem bel4 (w : World) (a b c d : Obj) : Below w.heap.size w ((((w.alloc a).alloc b).alloc c).alloc d) := (bel3 w a b c).alloc (by simp; omega) _
theorem bel_drewN {B : Nat} {a w : World} (h : Below B a w) (n : Nat) : Below B a (w.drewN n) := ⟨h.os, h.tape, h.output, h.size, h.block⟩

/-- the first so many elements of an array variable -/
theorem run_sliceAt_to {ty elem n sz : Nat} (hu : P.underlying ty = some (.array n elem)) (hi : (P.info? elem).map (·.size) = some sz) (k : IntKind) (b off h : Nat) (hh : h ≤ n) (W : World) :
    (Instr.sliceAt ty (.pointer (some ⟨b, off, none⟩)) none (some (.int k (h : Int))) none).run P W = .ok (.slice (some ⟨b, off, none⟩) h n) W := by
  have h1 : 0 ≤ (h : Int) ∧ (h : Int) ≤ (n : Int) := by omega
  simp [Instr.sliceAt, run_underlying hu, Instr.sureAddr, Instr.sliceBounds, Instr.sliceBound, asIntOf, h1, hh, run_sizeOf hi, Addr.add]

/-- s[lo:hi] of a slice of one-cell elements, below its capacity's end -/
theorem run_slice_lohi {ty elem : TypeId} (hu : P.underlying ty = some (.slice elem)) (hi : (P.info? elem).map (·.size) = some 1) (k1 k2 : IntKind) (b off len cap l h : Nat) (lo hi' : Int) (e1 : lo = l) (e2 : hi' = h) (h1 : l ≤ h) (h2 : h ≤ cap) (h3 : l < cap) (W : World) :
    (Instr.slice ty (.slice (some ⟨b, off, none⟩) len cap) (some (.int k1 lo)) (some (.int k2 hi')) none).run P W = .ok (.slice (some ⟨b, off + l, none⟩) (h - l) (cap - l)) W := by
  subst e1; subst e2
  have a1 : 0 ≤ (h : Int) ∧ (h : Int) ≤ (cap : Int) := by omega
  have a2 : 0 ≤ (l : Int) ∧ (l : Int) ≤ (h : Int) := by omega
  have a3 : ¬ cap = l := by omega
  simp [Instr.slice, run_underlying hu, Instr.sliceBounds, Instr.sliceBound, asIntOf, a1, a2, a3, h1, h2, run_sizeOf hi]
  simp [Addr.add]

/-- Below, as the walk uses it -/
theorem bfacts {w W : World} (hb : Below W.heap.size W w) : (∀ b o, b < W.heap.size → w.cell? ⟨b, o, none⟩ = W.cell? ⟨b, o, none⟩) ∧ (∀ b o, b < W.heap.size → w.frozen? ⟨b, o, none⟩ = W.frozen? ⟨b, o, none⟩) ∧ (∀ b, b < W.heap.size → blk w b = blk W b) ∧ (∀ b, b < W.heap.size → fre w b = fre W b) :=
  ⟨fun b o h => hb.cell (p := ⟨b, o, none⟩) h, fun b o h => hb.frozen (p := ⟨b, o, none⟩) h, fun b h => by simp only [blk, hb.block b h], fun b h => by simp only [fre, hb.block b h]⟩
end Go.Opk
