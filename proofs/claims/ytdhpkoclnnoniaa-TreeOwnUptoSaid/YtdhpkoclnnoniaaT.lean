/- How codes, tables and problems lie in memory: their cells, and what the walk asks of them. No condition. -/
import Derived.Test.YtdhpkoclnnoniaaPl3
import Derived.Test.YtdhpkoclnnoniaaK
import Derived.Test.YtdhpkoclnnoniaaChecked
namespace Go.Proofs.Ytdhpkoclnnoniaa
open Go.RowKit Go.Opk

/-- a stretch of a row of cells -/
theorem ext_mid (a b c : List Value) (i j : Nat) (hi : a.length = i) (hj : i + b.length = j) : (a ++ (b ++ c)).toArray.extract i j = b.toArray := by
  subst hi; subst hj
  simp [List.extract, List.drop_append, List.take_append]
/-- a row of a table -/
def rowL (t : Opl.Tab) (b : Nat) : List Value := (List.range 16).map fun r => Value.int .i64 (t.m b r)
theorem rowL_len (t : Opl.Tab) (b : Nat) : (rowL t b).length = 16 := by simp [rowL]
def rowC (t : Opl.Tab) (b : Nat) : Array Value := (rowL t b).toArray
/-- both rows -/
def metC (t : Opl.Tab) : Array Value := (rowL t 0 ++ rowL t 1).toArray
def tabC (t : Opl.Tab) : Array Value := (Value.int .i64 t.lev :: (rowL t 0 ++ rowL t 1)).toArray
abbrev tabV (t : Opl.Tab) : Value := .agg (tabC t)

@[go_sem] theorem rowC_size (t : Opl.Tab) (b : Nat) : (rowC t b).size = 16 := by simp [rowC, rowL_len]
@[go_sem] theorem metC_size (t : Opl.Tab) : (metC t).size = 32 := by simp [metC, rowL_len]
@[go_sem] theorem tabC_size (t : Opl.Tab) : (tabC t).size = 33 := by simp [tabC, rowL_len]
theorem rowL_get (t : Opl.Tab) (b r : Nat) (h : r < 16) : (rowL t b)[r]? = some (.int .i64 (t.m b r)) := by
  simp [rowL, h]
theorem rowC_get (t : Opl.Tab) (b r : Nat) (h : r < 16) : (rowC t b)[r]? = some (.int .i64 (t.m b r)) := by
  simp [rowC, rowL, h]
@[go_sem] theorem tabC_lev (t : Opl.Tab) : (tabC t)[0]? = some (.int .i64 t.lev) := by simp [tabC]
@[go_sem] theorem tabC_lev' (t : Opl.Tab) (h : 0 < (tabC t).size) : (tabC t)[0]'h = .int .i64 t.lev := by simp [tabC]
@[go_sem] theorem tabC_one' (t : Opl.Tab) (h : 1 < (tabC t).size) : (tabC t)[1]'h = .int .i64 (t.m 0 0) := by simp [tabC, rowL, List.range, List.range.loop]
@[go_sem] theorem rowC_get' (t : Opl.Tab) (b r : Nat) (h : r < (rowC t b).size) : (rowC t b)[r]'h = .int .i64 (t.m b r) := by simp [rowC, rowL]
@[go_sem] theorem rowC_ones (t : Opl.Tab) (b : Nat) : ones (rowC t b).toList = true := by simp [ones, rowC, rowL, Value.oneCell']
@[go_sem] theorem splice16 (t : Opl.Tab) (b : Nat) (c : Array Value) (h : c.size = 16) : splice c 0 (rowC t b).toList = rowC t b := by
  rw [splice_all _ _ (by simp [rowC, rowL_len, h])]
@[go_sem] theorem tabC_met (t : Opl.Tab) : (tabC t).extract 1 33 = metC t := by
  have := ext_mid [Value.int .i64 t.lev] (rowL t 0 ++ rowL t 1) [] 1 33 rfl (by simp [rowL_len])
  simpa [tabC, metC] using this
@[go_sem] theorem tabC_all (t : Opl.Tab) : (tabC t).extract 0 33 = tabC t := by
  have := ext_mid [] (Value.int .i64 t.lev :: (rowL t 0 ++ rowL t 1)) [] 0 33 rfl (by simp [rowL_len])
  simpa [tabC, metC] using this
@[go_sem] theorem metC_row0 (t : Opl.Tab) : (metC t).extract 0 16 = rowC t 0 := by
  have := ext_mid [] (rowL t 0) (rowL t 1) 0 16 rfl (by simp [rowL_len])
  simpa [rowC, metC] using this
@[go_sem] theorem metC_row1 (t : Opl.Tab) : (metC t).extract 16 32 = rowC t 1 := by
  have := ext_mid (rowL t 0) (rowL t 1) [] 16 32 (by simp [rowL_len]) (by simp [rowL_len])
  simpa [rowC, metC] using this
@[go_sem] theorem rowC_all (t : Opl.Tab) (b : Nat) : (rowC t b).extract 0 16 = rowC t b := by
  have := ext_mid [] (rowL t b) [] 0 16 rfl (by simp [rowL_len])
  simpa [rowC] using this
@[go_sem] theorem metC_all (t : Opl.Tab) : (metC t).extract 0 32 = metC t := by
  have := ext_mid [] (rowL t 0 ++ rowL t 1) [] 0 32 rfl (by simp [rowL_len])
  simpa [metC] using this
theorem rowC_one (t : Opl.Tab) (b : Nat) : (rowC t b).all (·.oneCell') = true := by simp [rowC, rowL, Value.oneCell']
/-- a row out of both -/
@[go_sem] theorem index_met (t : Opl.Tab) (k : IntKind) (i : Int) (h0 : 0 ≤ i) (h1 : i < 2) (W : World) :
    (Instr.index 27 (.agg (metC t)) (.int k i)).run Try.prog W = .ok (.agg (rowC t i.toNat)) W := by
  rw [run_index_agg Try.underlying27 Try.underlying26 rfl (n := 16) (by kernel_rfl) _ _ _ h0 (by simpa using h1)]
  have : i.toNat = 0 ∨ i.toNat = 1 := by omega
  rcases this with h | h <;> rw [h]
  · rw [show (metC t).extract (0 * 16) (0 * 16 + 16) = rowC t 0 from metC_row0 t]
  · rw [show (metC t).extract (1 * 16) (1 * 16 + 16) = rowC t 1 from metC_row1 t]
@[go_sem] theorem index_row (t : Opl.Tab) (b : Nat) (k : IntKind) (i : Int) (h0 : 0 ≤ i) (h1 : i < 16) (W : World) :
    (Instr.index 26 (.agg (rowC t b)) (.int k i)).run Try.prog W = .ok (.int .i64 (t.m b i.toNat)) W :=
  run_index_one Try.underlying26 Try.underlying3 rfl (by kernel_rfl) _ _ _ _ h0 (by simpa using h1) (rowC_get t b _ (by omega)) W
/-- a step's symbols -/
def symC (y : Nat → Nat) : Array Value := #[.int .u8 (y 0), .int .u8 (y 1), .int .u8 (y 2)]
@[go_sem] theorem symC_size (y : Nat → Nat) : (symC y).size = 3 := rfl
@[go_sem] theorem symC_all (y : Nat → Nat) : (symC y).extract 0 3 = symC y := rfl
theorem symC_get (y : Nat → Nat) (i : Nat) (h : i < 3) : (symC y)[i]? = some (.int .u8 (y i)) := by
  match i, h with
  | 0, _ => rfl
  | 1, _ => rfl
  | 2, _ => rfl
@[go_sem] theorem symC_get' (y : Nat → Nat) (i : Nat) (h : i < (symC y).size) : (symC y)[i]'h = .int .u8 (y i) := by
  have := symC_get y i h
  rw [Array.getElem?_eq_getElem h] at this
  simpa using this
@[go_sem] theorem symC_ones (y : Nat → Nat) : ones (symC y).toList = true := rfl
@[go_sem] theorem splice3 (y : Nat → Nat) (c : Array Value) (h : c.size = 3) : splice c 0 (symC y).toList = symC y := by
  rw [splice_all _ _ (by simp [symC, h])]
/-- a code's cells -/
abbrev codeC (c : Opl.Code) : Array Value := #[.int .i64 c.K, .int .i64 c.R, .int .u32 c.g0, .int .u32 c.g1, .int .u32 c.g2]
def codeL (c : Opl.Code) : List Value := [.int .i64 c.K, .int .i64 c.R, .int .u32 c.g0, .int .u32 c.g1, .int .u32 c.g2]
def tabL (t : Opl.Tab) : List Value := Value.int .i64 t.lev :: (rowL t 0 ++ rowL t 1)
theorem tabL_len (t : Opl.Tab) : (tabL t).length = 33 := by simp [tabL, rowL_len]
/-- a problem's cells -/
def probC (c : Opl.Code) (t : Opl.Tab) (L : Int) (sv : Value) : Array Value := (codeL c ++ (tabL t ++ [.int .i64 L, sv])).toArray
section
variable (c : Opl.Code) (t : Opl.Tab) (L : Int) (sv : Value)
@[go_sem] theorem probC_size : (probC c t L sv).size = 40 := by simp [probC, tabL_len, codeL]
theorem probC_0 : (probC c t L sv)[0]? = some (.int .i64 c.K) := rfl
theorem probC_1 : (probC c t L sv)[1]? = some (.int .i64 c.R) := rfl
theorem probC_5 : (probC c t L sv)[5]? = some (.int .i64 t.lev) := rfl
theorem probC_38 : (probC c t L sv)[38]? = some (.int .i64 L) := by
  simp [probC, codeL, List.getElem?_append, tabL_len]
theorem probC_39 : (probC c t L sv)[39]? = some sv := by
  simp [probC, codeL, List.getElem?_append, tabL_len]
theorem get_of {a : Array Value} {i : Nat} {v : Value} (h : a[i]? = some v) (hi : i < a.size) : a[i]'hi = v := by
  rw [Array.getElem?_eq_getElem hi] at h
  simpa using h
@[go_sem] theorem probC_0' (h : 0 < (probC c t L sv).size) : (probC c t L sv)[0]'h = .int .i64 c.K := get_of (probC_0 c t L sv) h
@[go_sem] theorem probC_1' (h : 1 < (probC c t L sv).size) : (probC c t L sv)[1]'h = .int .i64 c.R := get_of (probC_1 c t L sv) h
@[go_sem] theorem probC_5' (h : 5 < (probC c t L sv).size) : (probC c t L sv)[5]'h = .int .i64 t.lev := get_of (probC_5 c t L sv) h
@[go_sem] theorem probC_38' (h : 38 < (probC c t L sv).size) : (probC c t L sv)[38]'h = .int .i64 L := get_of (probC_38 c t L sv) h
@[go_sem] theorem probC_39' (h : 39 < (probC c t L sv).size) : (probC c t L sv)[39]'h = sv := get_of (probC_39 c t L sv) h
@[go_sem] theorem probC_code : (probC c t L sv).extract 0 5 = codeC c := by
  have := ext_mid [] (codeL c) (tabL t ++ [.int .i64 L, sv]) 0 5 rfl (by simp [codeL])
  exact this
@[go_sem] theorem probC_tab : (probC c t L sv).extract 5 38 = tabC t := by
  have := ext_mid (codeL c) (tabL t) [.int .i64 L, sv] 5 38 rfl (by simp [tabL_len])
  simpa [probC, tabC, tabL] using this
@[go_sem] theorem probC_all : (probC c t L sv).extract 0 40 = probC c t L sv := by
  have := ext_mid [] (codeL c ++ (tabL t ++ [.int .i64 L, sv])) [] 0 40 rfl (by simp [tabL_len, codeL])
  simpa [probC] using this
@[go_sem] theorem probC_set (v : Value) : (probC c t L sv).setIfInBounds 39 v = probC c t L v := by
  simp [probC, codeL, List.set_append, tabL_len]
end
theorem tabC_get (t : Opl.Tab) (b r : Nat) (hb : b < 2) (hr : r < 16) : (tabC t)[1 + b * 16 + r]? = some (.int .i64 (t.m b r)) := by
  have h2 : b = 0 ∨ b = 1 := by omega
  rcases h2 with rfl | rfl
  · simp only [tabC, List.getElem?_toArray]
    rw [show 1 + 0 * 16 + r = r + 1 from by omega, List.getElem?_cons_succ, List.getElem?_append_left (by rw [rowL_len]; exact hr), rowL_get t 0 r hr]
  · simp only [tabC, List.getElem?_toArray]
    rw [show 1 + 1 * 16 + r = (16 + r) + 1 from by omega, List.getElem?_cons_succ, List.getElem?_append_right (by rw [rowL_len]; omega), rowL_len, show 16 + r - 16 = r from by omega, rowL_get t 1 r hr]
end Go.Proofs.Ytdhpkoclnnoniaa
