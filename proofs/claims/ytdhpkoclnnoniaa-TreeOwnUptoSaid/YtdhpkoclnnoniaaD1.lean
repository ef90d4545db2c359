/- Small functions of the statements' own package: num, mark, Plain, SameNodes. -/
import Derived.Test.YtdhpkoclnnoniaaC6
import Derived.Deep.Cut
namespace Go.Proofs.Ytdhpkoclnnoniaa
open Go.RowKit Go.Opk

/-- a whole struct into the block that was made last -/
theorem wpList_store_new {P : Program} {ops : Array Oper} {rest : List Oper} {o : Oper} {a : Act} {w : World} {Q : Exit → Act → World → Prop} (hg : o.guard = none) (hd : o.dst = none) (t : TypeId) (x y : Operand) (ho : o.op = Op.store t x y)
    (c c' : Array Value) (b : Nat) (hx : a.eval x = .pointer (some ⟨b, 0, none⟩)) (hb : b = w.heap.size) (hy : a.eval y = .agg c') (hi : (P.info? t).map (·.size) = some c'.size) (hs : c.size = c'.size) (h1 : c'.all (·.oneCell') = true)
    (h : wpList P ops Q rest a (w.alloc (.cells c' t))) : wpList P ops Q (o :: rest) a (w.alloc (.cells c t)) := by
  subst hb
  refine wpList_plain hg fun K hK => ?_
  have hrun := run_storeAt_new (P := P) w t c c' hi hs h1
  unfold Oper.wp
  simp only [execOp, ho, hx, hy]
  simp [hrun, Result.andThen, Oper.upon, hd]
  exact hK _ _ h
theorem setRow3 (w : World) (c c' : Array Value) (t : TypeId) (o1 o2 : Obj) : (((w.alloc (.cells c t)).alloc o1).alloc o2).setRow w.heap.size c' = ((w.alloc (.cells c' t)).alloc o1).alloc o2 := by
  rw [setRow_alloc_past _ _ _ (by simp; omega), setRow_alloc_past _ _ _ (by simp), World.setRow_alloc_new]
/-- a whole struct into a block of which nothing is frozen -/
theorem wpList_store_row {P : Program} {ops : Array Oper} {rest : List Oper} {o : Oper} {a : Act} {w w' : World} {Q : Exit → Act → World → Prop} (hg : o.guard = none) (hd : o.dst = none) (t : TypeId) (x y : Operand) (ho : o.op = Op.store t x y)
    (c c' : Array Value) (b : Nat) (hx : a.eval x = .pointer (some ⟨b, 0, none⟩)) (hb : w.heap[b]? = some (.cells c t (0, 0))) (hy : a.eval y = .agg c') (hi : (P.info? t).map (·.size) = some c'.size) (hs : c.size = c'.size) (h1 : c'.all (·.oneCell') = true)
    (hw : w.setRow b c' = w') (h : wpList P ops Q rest a w') : wpList P ops Q (o :: rest) a w := by
  subst hw
  refine wpList_plain hg fun K hK => ?_
  have hrun : (Instr.storeAt t (.pointer (some ⟨b, 0, none⟩)) (.agg c')).run P w = .ok () (w.setRow b c') := by
    simp only [Instr.storeAt, Instr.sureAddr, Sem.run_bind, Sem.run_pure, Result.andThen]
    exact run_storeVar_row _ _ t t c c' hb hi hs h1
  unfold Oper.wp
  simp only [execOp, ho, hx, hy]
  simp [hrun, Result.andThen, Oper.upon, hd]
  exact hK _ _ h
theorem num_any (n : Int) (w : World) : Calls Try.prog 5 #[.int .i64 n] w fun e w' => e = .returned (.int .i64 n) ∧ w' = w := by
  go_enter Try.func5, Try.ntmps5
  go_wp2_with fail
  go_ret
  exact ⟨rfl, rfl⟩

/-- the problem that all chapters' examples have -/
def plainP : Opl.Prob := { c := ⟨3, 2, 7, 5, 0⟩, t := ⟨2, fun b r => if b < 2 ∧ r < 2 then (if b = r then 1 else -5) else 0⟩, L := 1, n := 6, lv := fun i => if i = 3 then 0 else 1 }

set_option maxRecDepth 100000 in
theorem plain_cells (sv : Value) : (#[.int .i64 3, .int .i64 2, .int .u32 7, .int .u32 5, .int .u32 0, .int .i64 2, .int .i64 1, .int .i64 (-5), .int .i64 0, .int .i64 0, .int .i64 0, .int .i64 0, .int .i64 0, .int .i64 0, .int .i64 0, .int .i64 0, .int .i64 0, .int .i64 0, .int .i64 0, .int .i64 0, .int .i64 0, .int .i64 0, .int .i64 (-5), .int .i64 1, .int .i64 0, .int .i64 0, .int .i64 0, .int .i64 0, .int .i64 0, .int .i64 0, .int .i64 0, .int .i64 0, .int .i64 0, .int .i64 0, .int .i64 0, .int .i64 0, .int .i64 0, .int .i64 0, .int .i64 1, sv] : Array Value) = probC plainP.c plainP.t plainP.L sv := by rfl
theorem plain_one (a : Option Addr) (n c : Nat) : (probC plainP.c plainP.t plainP.L (.slice a n c)).all (·.oneCell') = true := by
  rw [← plain_cells]
  simp only [List.all_toArray, List.all_cons, List.all_nil, Value.oneCell', Bool.and_self]
set_option maxHeartbeats 1000000 in
set_option maxRecDepth 100000 in
theorem plain_any (w : World) : Calls Try.prog 17 #[] w fun e w' => e = .returned (probV plainP.c plainP.t plainP.L (.slice (some ⟨w.heap.size + 1, 0, none⟩) 6 6)) ∧ w.heap.size + 1 < w'.heap.size ∧ LevAt w' (w.heap.size + 1) 0 6 plainP.lv ∧ Below w.heap.size w w' := by
  go_enter Try.func17, Try.ntmps17
  go_upto_region 2 with (refine wpList_store_new rfl rfl 32 (.tmp 1) (.tmp 5) rfl _ _ (w.heap.size + 1 + 1) rfl (by simp) rfl (by kernel_rfl) (by simp only [List.size_toArray, List.length_cons, List.length_nil]) (by simp only [List.all_toArray, List.all_cons, List.all_nil, Value.oneCell', Bool.and_self]) ?_)
  go_upto_region 7 with fail
  rw [plain_cells]
  go_wp2_with (refine wpList_store_row rfl rfl 32 (.tmp 0) (.tmp 24) rfl _ (probC plainP.c plainP.t plainP.L (.slice (some ⟨w.heap.size + 1, 0, none⟩) 6 6)) w.heap.size rfl ?hb rfl (by rw [probC_size]; kernel_rfl) ?hs (plain_one _ _ _) (setRow3 w _ _ _ _ _) ?_)
  refine bodyPost_ret (v := probV plainP.c plainP.t plainP.L (.slice (some ⟨w.heap.size + 1, 0, none⟩) 6 6)) (by simp [results, Try.results17, go_sem]) rfl ⟨rfl, ?_, ?_, bel3 _ _ _ _⟩
  · simp
  · intro i hi
    rcases (by omega : i = 0 ∨ i = 1 ∨ i = 2 ∨ i = 3 ∨ i = 4 ∨ i = 5) with rfl | rfl | rfl | rfl | rfl | rfl <;> simp [go_sem, plainP]
end Go.Proofs.Ytdhpkoclnnoniaa
