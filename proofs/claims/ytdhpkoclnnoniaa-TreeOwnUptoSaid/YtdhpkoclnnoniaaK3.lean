/- Appends that make a new row, with the row told. No condition. -/
import Derived.Test.YtdhpkoclnnoniaaK2
import Derived.Laws.AppendOwnNone
namespace Go.Opk
open Go.RowKit
variable {P : Program}
@[go_sem] theorem run_store_func (w : World) (p : Addr) (f : Fn) (x y : Array Value) (m : Mode) : (store p (.func f x y) m).run P w = stored P w p (.func f x y) m := run_store P w p _ m rfl
@[go_sem] theorem ones_nil : ones [] = true := rfl
@[go_sem] theorem ones_int (k : IntKind) (n : Int) (l : List Value) : ones (.int k n :: l) = ones l := by simp [ones, Value.oneCell']
@[go_sem] theorem ones_bool (b : Bool) (l : List Value) : ones (.bool b :: l) = ones l := by simp [ones, Value.oneCell']
@[go_sem] theorem ones_slice (a : Option Addr) (n c : Nat) (l : List Value) : ones (.slice a n c :: l) = ones l := by simp [ones, Value.oneCell']
@[go_sem] theorem ones_pointer (a : Option Addr) (l : List Value) : ones (.pointer a :: l) = ones l := by simp [ones, Value.oneCell']
theorem grown_ge (w : World) (n : Nat) (e : TypeId) : n ≤ grownCap w n 0 e := grownCap_ge w n 0 e
/-- 'append([]T(nil), s...)' of a slice that has elements -/
theorem wpList_append_fresh {ops : Array Oper} {rest : List Oper} {o : Oper} {a : Act} {w : World} {Q : Exit → Act → World → Prop} (hg : o.guard = none) (s x : Operand) (t : TypeId)
    (ho : o.op = Op.call { callee := Callee.builtin Builtin.append, args := #[s, x], argTypes := #[t, t] }) (e : TypeId) (by' : Nat) (z : Value) (ht : P.underlying t = some (.slice e))
    (hi : (P.info? e).map (fun i => (i.size, i.bytes, i.zero)) = some (1, by', some z)) (hs : a.eval s = .slice none 0 0) (b off n c : Nat) (hx : a.eval x = .slice (some ⟨b, off, none⟩) n c) (f : Nat → Value)
    (hc : ∀ i, i < n → w.cell? ⟨b, off + i, none⟩ = some (f i)) (h0 : 0 < n) (h63 : (n : Int) ≤ 9223372036854775807) (h48 : n * by' ≤ 281474976710656)
    (h : ∀ cap, n ≤ cap → ∀ cells : Array Value, (∀ i, i < n → cells[i]? = some (f i)) → wpList P ops Q rest (a.put o.dst (.slice (some ⟨w.heap.size, 0, none⟩) n cap)) (w.drew.alloc (.cells cells e))) : wpList P ops Q (o :: rest) a w := by
  refine wpList_plain hg fun K hK => ?_
  cases hq : P.info? e with
  | none => rw [hq] at hi; cases hi
  | some i =>
    rw [hq] at hi
    simp only [Option.map_some, Option.some.injEq, Prod.mk.injEq] at hi
    obtain ⟨i1, i2, i3⟩ := hi
    have hrun := run_append_nil (P := P) (w := w) t o.type e i z ht hq i3 ⟨b, off, none⟩ n c ((List.range n).map f) (by simp [i1])
      (fun j v hj => by
        rw [List.getElem?_map] at hj
        by_cases hjn : j < n
        · rw [List.getElem?_range hjn] at hj
          simp only [Option.map_some, Option.some.injEq] at hj
          rw [Addr.add_lit, hc j hjn, hj]
        · rw [List.getElem?_eq_none (by simpa using hjn)] at hj; cases hj) h0 h63 (by rw [i2]; exact h48)
    unfold Oper.wp
    simp [execOp, ho, resolve, invoke, builtin, hs, hx, hrun, Result.andThen]
    refine hK _ _ (h _ (grown_ge w n e) _ fun j hj => ?_)
    rw [Array.getElem?_append_left (by simpa using hj)]
    simp [hj]
end Go.Opk
