/- Rows of laws: what a call that answers true and leaves all old memory as it was gives; how arguments open. Over any program. No condition. -/
import Derived.Test.YtdhpkoclnnoniaaK
import Derived.Below
import Derived.ChangeSame
import Derived.WideKeyArgs
import Derived.OpenShut
import Derived.Deep.Slices
import Derived.WideShapes
namespace Go.Opk
open Go.RowKit Go.WideShapes Go.ChangeShapes
section
variable {H : Type} {enc : TypeId × Value → H} {P : Program}

theorem trodAll_stays (hl : laidOutB P = true) {W W' : World} {sp : Nat → Bool} : ∀ {ts : List TypeId} {vs : List Value} {ds : List (DataW H)} {ps : List MemPlace}, (∀ t ∈ ts, P.readableRec t = true ∧ t < P.types.size) →
    DataW.TrodAll enc P W 0 (fun _ => true) true ts vs ds ps → (∀ x ∈ ps, W.sameAt W' x) → (∀ x ∈ ps, sp x.block = true) → DataW.TrodAll enc P W' 0 sp true ts vs ds ps
  | [], [], [], ps, _, h, _, _ => h
  | t :: ts, v :: vs, d :: ds, ps, ht, h, hs, hsp => by
    obtain ⟨p, q, h1, h2, rfl⟩ := h
    obtain ⟨r1, r2⟩ := ht t (List.mem_cons_self ..)
    exact ⟨p, q, WideElems.Trod_stays hl r1 r2 h1 (fun x hx => hs x (List.mem_append_left _ hx)) (fun x hx => hsp x (List.mem_append_left _ hx)),
      trodAll_stays hl (fun t h => ht t (List.mem_cons_of_mem _ h)) h2 (fun x hx => hs x (List.mem_append_right _ hx)) (fun x hx => hsp x (List.mem_append_right _ hx)), rfl⟩
  | [], [], _ :: _, _, _, h, _, _ => h.elim
  | [], _ :: _, _, _, _, h, _, _ => h.elim
  | _ :: _, [], _, _, _, h, _, _ => h.elim
  | _ :: _, _ :: _, [], _, _, h, _, _ => h.elim

/-- A LAW's END: it answered true; below the old heap's size nothing has turned. -/
theorem law_post (hl : laidOutB P = true) {f : Func} {s : ChangeSpec} {apart fresh handsOn again : Bool} {W W' : World} {args : Array Value} {ds gs : List (DataW H)} {before : List MemPlace} {tb : TypeId}
    (hW : DataW.Whole enc P f.params.toList s.vars apart W args.toList ds gs before) (hread : ∀ t ∈ f.params.toList, P.readableRec t = true ∧ t < P.types.size) (hvars : s.vars = []) (hrt : f.resultTypes = #[tb]) (htb : P.underlying tb = some .bool)
    (hfn : (s.fn H ds).results = [.lit (.bool true)] ∧ (s.fn H ds).args = ds ∧ (s.fn H ds).vars = []) (hb : Below W.heap.size W W') : s.post enc P f apart fresh handsOn again W args (.bool true) W' := by
  have hW' := hW
  obtain ⟨p, q, hA, hV, rfl, hz, hnd⟩ := hW
  rw [hvars] at hV
  obtain ⟨rfl, rfl⟩ := trodVars_none hV
  have hlt : ∀ x ∈ p, x.block < W.heap.size := fun x hx => hW'.lt x (by simpa using hx)
  have args_at : ∀ sp : Nat → Bool, (∀ x ∈ p, sp x.block = true) → DataW.TrodAll enc P W' 0 sp true f.params.toList args.toList ds p := fun sp hsp =>
    trodAll_stays hl hread hA (fun x hx => hb.same (hlt x hx)) hsp
  have res : ∀ (b : Nat) (sp : Nat → Bool) (hd : Bool), DataW.TrodAll enc P W' b sp hd f.resultTypes.toList ((Value.bool true).resultList f.resultTypes.size) (s.fn H (ds ++ [])).results [] := fun b sp hd => by
    rw [hrt, List.append_nil, hfn.1]
    exact trodAll_cons_mk (shut_bool htb _) trodAll_mk0
  have hok : ∀ (j : Nat) (t : TypeId) (r : Value), f.resultTypes[j]? = some t → ((Value.bool true).resultList f.resultTypes.size)[j]? = some r → Value.okWide P W' .any 0 t r := ok_one hrt rfl (okWide_bool_mk htb _)
  refine ⟨ds, [], p ++ [], [], p, [], hW', res _ _ _, ?_, ?_, World.keptBut_mono (fun x hx => ⟨hx, .inr (.inl (by simpa using hx))⟩) (hb.frame (· ∈ p ++ [])), fun _ => ⟨hok, [.lit (.bool true)] ++ ds, [], [] ++ p, ⟨[] ++ p, [], ?_, ?_, by simp, ?_, ?_⟩, ?_⟩⟩
  · rw [List.append_nil, hfn.2.1]
    exact args_at _ fun x hx => by simpa using hlt x hx
  · rw [List.append_nil, hvars, hfn.2.2]; exact hV
  · have r1 := res 0 (fun _ => true) true
    rw [List.append_nil, hfn.1] at r1
    exact trodAll_append (args_at (fun _ => true) fun _ _ => rfl) r1
  · rw [hvars]; exact hV
  · intro b off hp
    rw [hb.frozen (hlt _ hp)]
    exact hz b off (by simpa using hp)
  · intro ha
    simpa using hnd ha
  · intro x hx _
    simpa using hx

theorem opk_cells {W : World} {r : Reach} {base : Nat} {t : TypeId} {v : Value} {ts : List TypeId} (hv : Value.okWide P W r base t v) (hrow : (match P.underlying t with | some (.struct _) | some (.array _ _) => true | _ => false) = true) (hts : P.cellTypes P.depth t = some ts) (hn : P.cellsOf t = ts.length) :
    ∃ cs : Array Value, v = .agg cs ∧ cs.size = ts.length ∧ ∀ (i : Nat) (u : TypeId), ts[i]? = some u → ∃ c, cs[i]? = some c ∧ Cell.okWide P W r base u c := by
  unfold Value.okWide at hv
  have key : (∃ cs, v = .agg cs ∧ cs.size = P.cellsOf t ∧ Row.okWide P W r base t cs) := by
    split at hv
    · exact hv
    · exact hv
    · split at hrow <;> simp_all
  obtain ⟨cs, rfl, hs, ts', h1, h2, h3⟩ := key
  rw [hts] at h1
  cases h1
  refine ⟨cs, rfl, hs.trans hn, fun i u hu => ?_⟩
  have hi : i < ts.length := (List.getElem?_eq_some_iff.1 hu).1
  have hi2 : i < cs.size := by omega
  obtain ⟨u', hu', hc⟩ := h3 i cs[i] (Array.getElem?_eq_getElem hi2)
  rw [Nat.mod_eq_of_lt hi, hu] at hu'
  cases hu'
  exact ⟨_, Array.getElem?_eq_getElem hi2, hc⟩
theorem cell_int {W : World} {r : Reach} {base : Nat} {u : TypeId} {k : IntKind} {c : Value} (hu : P.underlying u = some (.int k)) (h : Cell.okWide P W r base u c) : ∃ n, c = .int k n ∧ k.min ≤ n ∧ n ≤ k.max := by
  simp only [Cell.okWide, hu] at h
  cases c <;> simp_all [Cell.ok, IntKind.has]
theorem cell_slice {W : World} {r : Reach} {base : Nat} {u e : TypeId} {c : Value} (hu : P.underlying u = some (.slice e)) (h : Cell.okWide P W r base u c) :
    c = .slice none 0 0 ∨ ∃ b off n cap, c = .slice (some ⟨b, off, none⟩) n cap ∧ n ≤ cap ∧ (cap : Int) ≤ IntKind.i64.max := by
  simp only [Cell.okWide, hu] at h
  cases c with
  | slice a n cap =>
    cases a with
    | none =>
      simp only [Cell.ok, hu] at h
      match n, cap, h with
      | 0, 0, _ => exact .inl rfl
    | some a =>
      simp only [Cell.ok, hu] at h
      obtain ⟨b, off, spot⟩ := a
      obtain ⟨h1, h2, h3⟩ := h
      have : spot = none := h3.2.1
      subst this
      exact .inr ⟨b, off, n, cap, rfl, h1, h2⟩
  | _ => simp_all [Cell.ok]
end
end Go.Opk
