/- outpostlaw15.knows: the kids of the example's root are what must come. No condition. -/
import Derived.Test.YtdhpkoclnnoniaaD3
import Derived.Laws.IdiomStrings
namespace Go.Proofs.Ytdhpkoclnnoniaa
open Go.RowKit Go.Opk

theorem plain_fits : plainP.Fits := by
  refine ⟨⟨?_, ?_, ?_, ?_, ?_, ?_, ?_⟩, ⟨?_, ?_, ?_, ?_⟩, ?_, ?_, ?_, ?_⟩
  case refine_10 => intro b r; simp only [plainP]; split <;> (try split) <;> omega
  case refine_11 => intro b r; simp only [plainP]; split <;> (try split) <;> omega
  case refine_15 => intro i _; simp only [plainP]; split <;> omega
  all_goals simp [plainP]
theorem plain_err : plainP.err = 0 := by decide +kernel
theorem plain_kids : plainP.kids Opl.root = [(⟨0, 1, -10⟩, 0), (⟨1, 1, 2⟩, 1)] := by rfl
theorem plain_N : plainP.N = 3 := by rfl

set_option maxHeartbeats 1000000 in
set_option maxRecDepth 100000 in
theorem knows_any (w : World) : Calls Try.prog 6 #[] w fun e w' => e = .returned (.bool true) ∧ Below w.heap.size w w' := by
  go_enter Try.func6, Try.ntmps6
  go_wp2_with fail
  refine (plain_any _).mono ?_
  rintro e w1 ⟨rfl, hz1, hl1, hb1⟩
  have HL1 := Lib.hid hl1
  have HB1 := Lib.hid hb1
  clear hl1 hb1
  go_wp2_with fail
  refine (new_good plainP plain_fits plain_err _ _ _ _ hz1 HL1.out).mono ?_
  rintro e w2 ⟨bt, B, bp, br, bw, c, rfl, hb2, hk2, hbt, hT⟩
  have HT := Lib.hid (show TreeAt w2 B bt plainP from ⟨bp, br, bw, c, hk2, hbt, hT⟩)
  have HBB := Lib.hid hk2.le
  have HB2 := Lib.hid (HB1.out.trans (hb2.mono HB1.out.size))
  clear hb2 hk2 hT HL1 HB1
  go_wp2_with (go_at_call 5; refine (num_any _ _).mono ?_; rintro e w3 ⟨rfl, rfl⟩)
  refine (root_made _ _).mono ?_
  rintro e w4 ⟨rfl, hb4⟩
  have HT4 := Lib.hid (HT.out.below (hb4.mono HBB.out))
  have HB4 := Lib.hid (HB2.out.trans (hb4.mono HB2.out.size))
  have HBB4 := Lib.hid (Nat.le_trans HBB.out hb4.size)
  clear hb4 HT HB2 HBB
  go_wp2_with fail
  refine (kids_made plainP plain_fits (Opl.Prob.good_of plain_err) Opl.root (Opl.Prob.root_ok _) (by rw [plain_N]; decide) _ B bt HT4.out HBB4.out).mono ?_
  rintro e w5 ⟨b1, b2, rfl, hP⟩
  rw [plain_kids] at hP ⊢
  have hz5 := hP.bel.size
  have P1 := hP.lt1
  have P2 := hP.lt2
  have P3 := hP.c1
  have P4 := hP.c2
  have P5 := hP.ne
  have HT5 := Lib.hid (HT4.out.below (hP.bel.mono HBB4.out))
  have HB5 := Lib.hid (HB4.out.trans (hP.bel.mono HB4.out.size))
  have HP := Lib.hid hP
  clear hP
  go_wp2_with fail
  refine (same_two b1 2 w5.heap.size 2 (Nat.le_refl _) (Nat.le_refl _) ⟨0, 1, -10⟩ ⟨1, 1, 2⟩ _ ?s1 ?s2).mono ?s3
  case s1 => rw [blk_alloc_past _ _ P1, P3]; rfl
  case s2 => rw [blk_alloc_at _ _ _ rfl]; rfl
  case s3 =>
    rintro e w6 ⟨rfl, k6, rfl⟩
    have Q0 : w5.cell? ⟨b2, 0, none⟩ = some (.int .u8 0) := by rw [cell_blk, P4]; rfl
    have Q1 : w5.cell? ⟨b2, 1, none⟩ = some (.int .u8 1) := by rw [cell_blk, P4]; rfl
    clear P3 P4
    have CV : ∀ o : Obj, (convert 30 9 (.slice (some ⟨b2, 0, none⟩) 2 2)).run Try.prog ((w5.alloc o).drewN k6) = .ok (.string ⟨#[0, 1]⟩) ((w5.alloc o).drewN k6) := fun o => by
      refine run_convert_bytes_back (P := Try.prog) _ 30 9 5 ⟨b2, 0, none⟩ 2 [0, 1] Try.underlying30 Try.underlying5 Try.underlying9 ?_
      intro j hj
      simp only [List.length_cons, List.length_nil] at hj
      have e0 : ((w5.alloc o).drewN k6).cell? ⟨b2, j, none⟩ = w5.cell? ⟨b2, j, none⟩ := by
        show (w5.alloc o).cell? _ = _
        exact (bel1 w5 o).cell (p := ⟨b2, j, none⟩) P2
      rw [Addr.add_lit, Nat.zero_add, e0]
      rcases (by omega : j = 0 ∨ j = 1) with rfl | rfl
      · exact Q0
      · exact Q1
    have HBB5 := Lib.hid (Nat.le_trans HBB4.out hz5)
    go_wp2_with fail
    refine (steps_made plainP _ B bt ((HT5.out.below ((bel1 _ _).mono HBB5.out)).drewN _)).mono ?_
    rintro e w7 ⟨rfl, k7, rfl⟩
    rw [plain_N]
    go_wp2_with fail
    go_ret
    exact ⟨rfl, bel_drewN (HB5.out.alloc HB5.out.size _) _⟩
end Go.Proofs.Ytdhpkoclnnoniaa
