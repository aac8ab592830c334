/- A bank that is nil: House, Book, Do; quittancelaw.BankNil: the walk. -/
import Derived.Test.YtggfdkkhlokmlabBankFns
import Derived.Test.YtggfdkkhlokmlabCBk1
namespace Go.Proofs.Ytggfdkkhlokmlab
open Go.RowKit
attribute [local go_sem] hc_pays hc_next hc_size rc_size
set_option maxRecDepth 100000 in
set_option maxHeartbeats 1000000 in
theorem houseNil_any (w : World) : Calls Try.prog 21 #[.pointer none] w fun e w' => e = .returned (.agg (hc Hs.zero (.slice none 0 0))) ∧ Below w.heap.size w w' := by
  go_enter Try.func21, Try.ntmps21
  go_upto_region 1 with fail
  generalize hW : World.alloc w _ = W0
  have hgZ : W0.heap[w.heap.size]? = some (.cells (hc Hs.zero (.slice none 0 0)) 29 (0, 0)) := by rw [← hW]; exact hnew w _
  have hB0 : Below w.heap.size w W0 := by rw [← hW]; exact (Below.refl w.heap.size w).alloc (Nat.le_refl _) _
  clear hW
  go_wp2_with (first | go_skip | (refine st_row 29 _ _ rfl rfl _ rfl (hc Hs.zero (.slice none 0 0)) rfl _ _ hgZ info30 rfl (hc_one _ _ rfl) ?_; intro w2 hr2 hgr2 hsz2))
  exact bodyPost_ret (results_house rfl _ _ _ _ _ rfl hr2) rfl ⟨rfl, hB0.grown hgr2 hB0.size fun k hk => by cases hk; omega⟩
set_option maxRecDepth 100000 in
theorem bookNil_any (w : World) : Calls Try.prog 24 #[.pointer none] w fun e w' => e = .returned (.tuple #[.string { data := #[] }, .bool false]) ∧ w = w' := by
  go_enter Try.func24, Try.ntmps24
  go_wp2
  go_ret2
  exact ⟨rfl, rfl⟩
set_option maxRecDepth 100000 in
set_option maxHeartbeats 1000000 in
theorem doNil_any (d : Deed) (w : World) : Calls Try.prog 26 #[.pointer none, .agg (dc d)] w fun e w' => e = .returned (.agg (rc 4 0 (.slice none 0 0))) ∧ Below w.heap.size w w' := by
  go_enter Try.func26, Try.ntmps26
  go_upto_region 1 with fail
  generalize hW : World.alloc (World.alloc w _) _ = W0
  have hR : W0.heap[w.heap.size + 1]? = some (.cells (rc 0 0 (.slice none 0 0)) 44 (0, 0)) := by rw [← hW]; exact heap_alloc2_new w _ _
  have hB0 : Below w.heap.size w W0 := by rw [← hW]; exact ((Below.refl w.heap.size w).alloc (Nat.le_refl _) _).alloc (by simp) _
  clear hW
  go_wp2_with (first | go_skip | (go_at_call 52; refine (doNo_any 4 _).mono ?_; rintro e wn ⟨rfl, hbn⟩) | (refine st_row 44 _ _ rfl rfl _ rfl (rc 4 0 (.slice none 0 0)) rfl _ _ (hkeep hbn hR) infoRp rfl (rc_one _ _ _ rfl) ?_; intro wb hrb hgrb hszb))
  have hBn := bstep hB0 hB0.size hbn
  exact bodyPost_ret (results_cell_row rfl _ _ _ 44 _ (0, 0) _ rfl hrb Try.underlying44 rfl infoRp) rfl ⟨rfl, hBn.grown hgrb hBn.size fun k hk => by cases hk; omega⟩
set_option maxRecDepth 100000 in
set_option maxHeartbeats 1000000 in
theorem bankNil_any (d : Deed) (w : World) : Calls Try.prog 6 #[.agg (dc d)] w fun e w' => e = .returned (.bool true) ∧ Below w.heap.size w w' := by
  have hI : ∀ w : World, IntsAt w none 0 (nats []) := fun w => ⟨by simp [nats], by simp [maxLen], by simp [nats], fun _ => rfl, fun h => by simp [nats] at h⟩
  have hP : ∀ w : World, PaysAt w none 0 [] := fun w => ⟨by simp, by simp [maxLen], by simp, fun _ => rfl, fun h => by simp at h⟩
  have cR := fun w => sameReply_eq 4 0 [] none none 0 0 w (hI w) (hI w)
  have cH := fun w => sameHouse_eq Hs.zero [] none none 0 0 w (hP w) (hP w)
  simp only [List.length_nil] at cR cH
  replace cR := Lib.hid cR
  replace cH := Lib.hid cH
  clear hI hP
  go_enter Try.func6, Try.ntmps6
  go_upto_region 1 with fail
  have hA := hnew w (.cells (dc d) 40)
  have hB0 : Below w.heap.size w (w.alloc (.cells (dc d) 40)) := (Below.refl w.heap.size w).alloc (Nat.le_refl _) _
  generalize w.alloc (.cells (dc d) 40) = W0 at *
  go_wp2_with (first | go_skip | (go_at_call 24; refine (bookNil_any _).mono ?_; rintro e w1 ⟨rfl, rfl⟩) | (refine ld_row 40 _ rfl rfl _ rfl _ _ _ _ hA Try.underlying40 rfl info44 ?_) | (go_at_call 26; refine (doNil_any d _).mono ?_; rintro e w2 ⟨rfl, hb2⟩) | (go_at_call 25; refine (cR.out _).mono ?_; rintro e w3 ⟨rfl, hb3⟩) | (go_at_call 21; refine (houseNil_any _).mono ?_; rintro e w4 ⟨rfl, hb4⟩) | (go_at_call 27; refine (cH.out _).mono ?_; rintro e w5 ⟨rfl, hb5⟩))
  go_ret
  have h2 := bstep hB0 hB0.size hb2
  have h3 := bstep h2 h2.size hb3
  have h4 := bstep h3 h3.size hb4
  exact ⟨rfl, bstep h4 h4.size hb5⟩
end Go.Proofs.Ytggfdkkhlokmlab

