/- A region that draws its order and whose operations read, compute, or call functions that keep a class of worlds: one walk of the text's order. No condition. -/
import Derived.Test.YtdhpkoclnnoniaaK
namespace Go.Opk
open Go.RowKit
variable {P : Program}
theorem wp_quietC {id : Nat} {Q : Exit → Act → World → Prop} {a : Act} {w : World} {l : List Oper} (C : World → Prop) (hm : P.follows .mixedOrders = true) (hB : Region.lexB .any l.toArray = true) (hC : C w.drew)
    (h : wpQuiet P l.toArray C (fun a' => ∀ w', C w' → Q .normal a' w') l a) : (Code.region id l.toArray true).wp P Q a w :=
  wp_region_quiet (C := C) hm hB hC (by simpa using h)
theorem cell3 {W : World} {b : Nat} {x y z : Value} (h : blk W b = #[x, y, z]) : W.cell? ⟨b, 0, none⟩ = some x ∧ W.cell? ⟨b, 1, none⟩ = some y ∧ W.cell? ⟨b, 2, none⟩ = some z := by
  refine ⟨?_, ?_, ?_⟩ <;> rw [cell_blk, h] <;> rfl
@[go_sem] theorem splice_whole (c : Array Value) (l : List Value) (h : l.length = c.size) : splice c 0 l = l.toArray := splice_all c l h
end Go.Opk
