/- BookTells and BookRead: the walks. -/
import Derived.Test.YtggfdkkhlokmlaaBooks
import Derived.Test.YtggfdkkhlokmlaaCalm
import Derived.Deep.DeepCutAuto
import Derived.Outline
namespace Go.Proofs.Ytggfdkkhlokmlaa
open Go.RowKit
attribute [local go_sem] dc_size
set_option maxRecDepth 100000 in
set_option maxHeartbeats 4000000 in
theorem bookTells_any (x : Deed) (s : ByteArray) (w : World) (hs : s.size ≤ 16777216) :
    Calls Try.prog 6 #[.agg (dc x), .string s] w fun e w' => e = .returned (.bool true) ∧ Below w.heap.size w w' := by
  obtain ⟨sf, hsf⟩ : ∃ sf, str (framed x).1 = sf := ⟨_, rfl⟩
  obtain ⟨E, hE⟩ : ∃ E, (framed x).2 = E := ⟨_, rfl⟩
  have cF := fun w => frame_any x w
  have cG := fun w => frameOf_any x w
  rw [hsf, hE] at cF cG
  have cR := fun w => read_any s w hs
  have cB := fun w => readBook_any s w hs
  unfold ReadPost at cR cB
  obtain ⟨L, hL⟩ : ∃ L, (rd s.data.toList).1 = L := ⟨_, rfl⟩
  obtain ⟨k, hk⟩ : ∃ k, (rd s.data.toList).2 = k := ⟨_, rfl⟩
  rw [hL, hk] at cR cB
  obtain ⟨nb, hnb⟩ : ∃ nb, noted x = nb := ⟨_, rfl⟩
  have cN := fun w => goodAct_any x w
  have cM := fun w => isNoted_any x w
  rw [hnb] at cN cM
  replace cF := Lib.hid cF
  replace cG := Lib.hid cG
  replace cR := Lib.hid cR
  replace cB := Lib.hid cB
  replace cN := Lib.hid cN
  replace cM := Lib.hid cM
  clear hsf hE hL hk hnb
  have hg := hnew w (.cells (dc x) 44)
  go_enter Try.func6, Try.ntmps6
  go_upto_region 5 with (first | go_skip | (go_at_call 33; refine (cF.out _).mono ?_; rintro e w1 ⟨rfl, hb1⟩; replace hg := hkeep hb1 hg) | (go_at_call 34; refine (cG.out _).mono ?_; rintro e w2 ⟨rfl, hb2⟩; replace hg := hkeep hb2 hg) | (go_at_call 35; refine (cR.out _).mono ?_; rintro e w3 ⟨⟨v3, rfl, hown3⟩, hb3⟩; replace hg := hkeep hb3 hg) | (go_at_call 36; refine (cB.out _).mono ?_; rintro e w4 ⟨⟨v4, rfl, hown4⟩, hb4⟩; replace hg := hkeep hb4 hg) | (refine ld_row 44 _ rfl rfl _ rfl _ _ _ _ hg Try.underlying44 rfl info44 ?_))
  obtain ⟨a3, cap3, rfl, hat3, _⟩ := (hown3.below hb4).at_
  obtain ⟨a4, cap4, rfl, hat4, _⟩ := hown4.at_
  have hB : Below w.heap.size w w4 := bstep (bstep (bstep (bstep ((Below.refl w.heap.size w).alloc (Nat.le_refl _) (.cells (dc x) 44)) ((Below.refl w.heap.size w).alloc (Nat.le_refl _) (.cells (dc x) 44)).size hb1) (Nat.le_trans ((Below.refl w.heap.size w).alloc (Nat.le_refl _) (.cells (dc x) 44)).size hb1.size) hb2) (Nat.le_trans (Nat.le_trans ((Below.refl w.heap.size w).alloc (Nat.le_refl _) (.cells (dc x) 44)).size hb1.size) hb2.size) hb3) (Nat.le_trans (Nat.le_trans (Nat.le_trans ((Below.refl w.heap.size w).alloc (Nat.le_refl _) (.cells (dc x) 44)).size hb1.size) hb2.size) hb3.size) hb4
  clear hb1 hb2 hb3 hb4 hown3 hown4
  cases nb
  all_goals
    refine calm_region (Below w4.heap.size w4) (by kernel_rfl) (by kernel_rfl) (calm_start w4) ?_
    repeat (first | go_big_quiet_skip | (go_big_quiet_want; first | (refine calm_row 44 _ rfl _ rfl _ _ _ _ (calm_heap hg) Try.underlying44 rfl info44 ?_; simp only [Act.put, List.setIfInBounds_toArray, List.set_cons_succ, List.set_cons_zero]; go_big_quiet_on) | (go_big_quiet_op; first | go_big_quiet_on | go_big_quiet_call (first | (go_at_call 37; rename_i x; exact calm_call (calm_below _) (cN.out _)) | (go_at_call 38; rename_i x; exact calm_call (calm_below _) (cM.out _)) | (go_at_call 39; rename_i x; exact calm_call (calm_below _) (sameActs_eq L a3 a4 cap3 cap4 _ (hat3.below x.ok) (hat4.below x.ok))) | (go_at_call 40; rename_i x; exact calm_call (calm_below _) (booksL_any _))))))
    refine wpQuiet_nil ?_
    intro w8 hI
    have hB2 := bstep hB hB.size hI
    go_wp2_with fail
    go_ret
    exact ⟨rfl, hB2⟩
end Go.Proofs.Ytggfdkkhlokmlaa
