/- bank.Do: refused, a failure set, an opening. -/
import Derived.Test.YtggfdkkhlokmlabBankMore
import Derived.Test.YtggfdkkhlokmlabReplay
namespace Go.Proofs.Ytggfdkkhlokmlab
open Go.RowKit
attribute [local go_sem] hc_pays hc_next hc_size rc_0 rc_1 rc_2 rc_size dc_0 dc_1 dc_2 dc_3 dc_4 dc_size bc_42 bc_43 bc_44 bc_45
set_option maxRecDepth 100000 in
set_option maxHeartbeats 4000000 in
theorem do_full (p : Nat) (av : Nat → Prop) (h : Hs) (l : List Pay) (t : List UInt8) (dn : Bool) (f : Int) (n : Nat) (k a b c x : Int) (w : World) (hB : BankAt w p av ⟨h, l, t, dn, f, n⟩) (hn : 200 ≤ n) :
  Calls Try.prog 26 #[.pointer (some ⟨p, 0, none⟩), .agg (dc ⟨k, a, b, c, x⟩)] w (DoPost p av (⟨h, l, t, dn, f, n⟩, ⟨5, 0, []⟩) w) := by
 obtain ⟨a0, cap0, hg, hp, hap⟩ := hB.box
 have hgl := hlt hg
 replace hp := Lib.hid hp
 replace hap := Lib.hid hap
 go_enter Try.func26, Try.ntmps26
 go_upto_region 1 with fail
 generalize hW : World.alloc (World.alloc w _) _ = W0
 have hD : W0.heap[w.heap.size]? = some (.cells (dc ⟨k, a, b, c, x⟩) 40 (0, 0)) := by rw [← hW]; exact heap_alloc2_old w _ _
 have hR : W0.heap[w.heap.size + 1]? = some (.cells (rc 0 0 (.slice none 0 0)) 44 (0, 0)) := by rw [← hW]; exact heap_alloc2_new w _ _
 have hP : W0.heap[p]? = some (.cells (bc h (.slice a0 l.length cap0) t dn f n) 83 (0, 0)) := by rw [← hW]; exact hold (hold hg _) _
 have hB0 : Below w.heap.size w W0 := by rw [← hW]; exact ((Below.refl w.heap.size w).alloc (Nat.le_refl _) _).alloc (by simp) _
 clear hW hg hB
 have cP := cells_at hP
 have en : decide ((200 : Int) ≤ (n : Int)) = true := decide_eq_true (by omega)
 have hO0 : Only (fun b => b = p) w W0 := only_new hB0
 have hs1 := hlt hR
 go_wp2_with (first | go_skip | (go_at_call 52; refine (doNo_any 5 _).mono ?_; rintro e wn ⟨rfl, hbn⟩) | (refine st_row 44 _ _ rfl rfl _ rfl (rc 5 0 (.slice none 0 0)) rfl _ _ (hkeep hbn hR) infoRp rfl (rc_one _ _ _ rfl) ?_; intro wb hrb hgrb hszb))
 exact bodyPost_ret (results_cell_row rfl _ _ _ 44 _ (0, 0) _ rfl hrb Try.underlying44 rfl infoRp) rfl (do_end_no (K := ⟨h, l, t, dn, f, n⟩) rfl ((hgrb.block p (hlt (hkeep hbn hP)) (by simp; omega)).trans (hkeep hbn hP)) hp.out hap.out ((hO0.more hbn).step (only_grown hgrb) fun b e => by cases e; right; omega))
set_option maxRecDepth 100000 in
set_option maxHeartbeats 4000000 in
theorem do_openUp (p : Nat) (av : Nat → Prop) (h : Hs) (l : List Pay) (t : List UInt8) (f : Int) (n : Nat) (a b c x : Int) (w : World) (hB : BankAt w p av ⟨h, l, t, false, f, n⟩) (hn : n < 200) :
  Calls Try.prog 26 #[.pointer (some ⟨p, 0, none⟩), .agg (dc ⟨11, a, b, c, x⟩)] w (DoPost p av (⟨h, l, t, false, f, n + 1⟩, ⟨2, 0, []⟩) w) := by
 obtain ⟨a0, cap0, hg, hp, hap⟩ := hB.box
 have hgl := hlt hg
 replace hp := Lib.hid hp
 replace hap := Lib.hid hap
 go_enter Try.func26, Try.ntmps26
 go_upto_region 1 with fail
 generalize hW : World.alloc (World.alloc w _) _ = W0
 have hD : W0.heap[w.heap.size]? = some (.cells (dc ⟨11, a, b, c, x⟩) 40 (0, 0)) := by rw [← hW]; exact heap_alloc2_old w _ _
 have hR : W0.heap[w.heap.size + 1]? = some (.cells (rc 0 0 (.slice none 0 0)) 44 (0, 0)) := by rw [← hW]; exact heap_alloc2_new w _ _
 have hP : W0.heap[p]? = some (.cells (bc h (.slice a0 l.length cap0) t false f n) 83 (0, 0)) := by rw [← hW]; exact hold (hold hg _) _
 have hB0 : Below w.heap.size w W0 := by rw [← hW]; exact ((Below.refl w.heap.size w).alloc (Nat.le_refl _) _).alloc (by simp) _
 clear hW hg hB
 have cP := cells_at hP
 have fP := frozenAt hP
 have hni : (n : Int) < 200 := by omega
 have en : decide ((200 : Int) ≤ (n : Int)) = false := decide_eq_false (by omega)
 have hset := hsetSame (i := 45) hP (.int .i64 ((n : Int) + 1))
 rw [bc_setActs] at hset
 replace hset := Lib.hid hset
 go_upto_region 7 with fail
 generalize hW1 : World.setCell W0 _ _ = W1
 have hP1 : W1.heap[p]? = some (.cells (bc h (.slice a0 l.length cap0) t false f ((n + 1 : Nat) : Int)) 83 (0, 0)) := by rw [← hW1]; exact hset.out
 have hD1 : W1.heap[w.heap.size]? = some (.cells (dc ⟨11, a, b, c, x⟩) 40 (0, 0)) := by rw [← hW1]; exact hsetOther hD (by omega) _
 have hR1 : W1.heap[w.heap.size + 1]? = some (.cells (rc 0 0 (.slice none 0 0)) 44 (0, 0)) := by rw [← hW1]; exact hsetOther hR (by omega) _
 have hO1 : Only (fun b => b = p) w W1 := by rw [← hW1]; exact (only_new hB0).trans (only_set p 45 _ W0)
 clear hW1 hset fP cP hP hD hR hB0 en
 have cP := cells_at hP1
 have fP := frozenAt hP1
 have cD := cells_at hD1
 have hs1 := hlt hR1
 go_wp2_with (first | go_skip | (go_at_call 52; refine (doNo_any 2 _).mono ?_; rintro e wn ⟨rfl, hbn⟩) | (refine st_row 44 _ _ rfl rfl _ rfl (rc 2 0 (.slice none 0 0)) rfl _ _ (hkeep hbn hR1) infoRp rfl (rc_one _ _ _ rfl) ?_; intro wb hrb hgrb hszb))
 exact bodyPost_ret (results_cell_row rfl _ _ _ 44 _ (0, 0) _ rfl hrb Try.underlying44 rfl infoRp) rfl (do_end_no (K := ⟨h, l, t, false, f, n + 1⟩) rfl ((hgrb.block p (hlt (hkeep hbn hP1)) (by simp; omega)).trans (hkeep hbn hP1)) hp.out hap.out ((hO1.more hbn).step (only_grown hgrb) fun b e => by cases e; right; omega))
set_option maxRecDepth 100000 in
set_option maxHeartbeats 4000000 in
theorem do_down (p : Nat) (av : Nat → Prop) (h : Hs) (l : List Pay) (t : List UInt8) (f : Int) (n : Nat) (k a b c x : Int) (w : World) (hB : BankAt w p av ⟨h, l, t, true, f, n⟩) (hn : n < 200) (h11 : k ≠ 11) :
  Calls Try.prog 26 #[.pointer (some ⟨p, 0, none⟩), .agg (dc ⟨k, a, b, c, x⟩)] w (DoPost p av (⟨h, l, t, true, f, n + 1⟩, ⟨7, 0, []⟩) w) := by
 obtain ⟨a0, cap0, hg, hp, hap⟩ := hB.box
 have hgl := hlt hg
 replace hp := Lib.hid hp
 replace hap := Lib.hid hap
 have q11 : (k == 11) = false := by rw [beq_eq_false_iff_ne]; exact h11
 clear h11
 go_enter Try.func26, Try.ntmps26
 go_upto_region 1 with fail
 generalize hW : World.alloc (World.alloc w _) _ = W0
 have hD : W0.heap[w.heap.size]? = some (.cells (dc ⟨k, a, b, c, x⟩) 40 (0, 0)) := by rw [← hW]; exact heap_alloc2_old w _ _
 have hR : W0.heap[w.heap.size + 1]? = some (.cells (rc 0 0 (.slice none 0 0)) 44 (0, 0)) := by rw [← hW]; exact heap_alloc2_new w _ _
 have hP : W0.heap[p]? = some (.cells (bc h (.slice a0 l.length cap0) t true f n) 83 (0, 0)) := by rw [← hW]; exact hold (hold hg _) _
 have hB0 : Below w.heap.size w W0 := by rw [← hW]; exact ((Below.refl w.heap.size w).alloc (Nat.le_refl _) _).alloc (by simp) _
 clear hW hg hB
 have cP := cells_at hP
 have fP := frozenAt hP
 have hni : (n : Int) < 200 := by omega
 have en : decide ((200 : Int) ≤ (n : Int)) = false := decide_eq_false (by omega)
 have hset := hsetSame (i := 45) hP (.int .i64 ((n : Int) + 1))
 rw [bc_setActs] at hset
 replace hset := Lib.hid hset
 go_upto_region 7 with fail
 generalize hW1 : World.setCell W0 _ _ = W1
 have hP1 : W1.heap[p]? = some (.cells (bc h (.slice a0 l.length cap0) t true f ((n + 1 : Nat) : Int)) 83 (0, 0)) := by rw [← hW1]; exact hset.out
 have hD1 : W1.heap[w.heap.size]? = some (.cells (dc ⟨k, a, b, c, x⟩) 40 (0, 0)) := by rw [← hW1]; exact hsetOther hD (by omega) _
 have hR1 : W1.heap[w.heap.size + 1]? = some (.cells (rc 0 0 (.slice none 0 0)) 44 (0, 0)) := by rw [← hW1]; exact hsetOther hR (by omega) _
 have hO1 : Only (fun b => b = p) w W1 := by rw [← hW1]; exact (only_new hB0).trans (only_set p 45 _ W0)
 clear hW1 hset fP cP hP hD hR hB0 en
 have cP := cells_at hP1
 have fP := frozenAt hP1
 have cD := cells_at hD1
 have hs1 := hlt hR1
 go_wp2_with (first | go_skip | (go_at_call 52; refine (doNo_any 7 _).mono ?_; rintro e wn ⟨rfl, hbn⟩) | (refine st_row 44 _ _ rfl rfl _ rfl (rc 7 0 (.slice none 0 0)) rfl _ _ (hkeep hbn hR1) infoRp rfl (rc_one _ _ _ rfl) ?_; intro wb hrb hgrb hszb))
 exact bodyPost_ret (results_cell_row rfl _ _ _ 44 _ (0, 0) _ rfl hrb Try.underlying44 rfl infoRp) rfl (do_end_no (K := ⟨h, l, t, true, f, n + 1⟩) rfl ((hgrb.block p (hlt (hkeep hbn hP1)) (by simp; omega)).trans (hkeep hbn hP1)) hp.out hap.out ((hO1.more hbn).step (only_grown hgrb) fun b e => by cases e; right; omega))
set_option maxRecDepth 100000 in
set_option maxHeartbeats 4000000 in
theorem do_failBad (p : Nat) (av : Nat → Prop) (h : Hs) (l : List Pay) (t : List UInt8) (f : Int) (n : Nat) (a b c x : Int) (w : World) (hB : BankAt w p av ⟨h, l, t, false, f, n⟩) (hn : n < 200) (e1 : sm 0 x 4000 = false) :
  Calls Try.prog 26 #[.pointer (some ⟨p, 0, none⟩), .agg (dc ⟨10, a, b, c, x⟩)] w (DoPost p av (⟨h, l, t, false, f, n + 1⟩, ⟨3, 0, []⟩) w) := by
 obtain ⟨a0, cap0, hg, hp, hap⟩ := hB.box
 have hgl := hlt hg
 replace hp := Lib.hid hp
 replace hap := Lib.hid hap
 have cI := fun w => in_val e1 w
 replace cI := Lib.hid cI
 replace e1 := Lib.hid e1
 go_enter Try.func26, Try.ntmps26
 go_upto_region 1 with fail
 generalize hW : World.alloc (World.alloc w _) _ = W0
 have hD : W0.heap[w.heap.size]? = some (.cells (dc ⟨10, a, b, c, x⟩) 40 (0, 0)) := by rw [← hW]; exact heap_alloc2_old w _ _
 have hR : W0.heap[w.heap.size + 1]? = some (.cells (rc 0 0 (.slice none 0 0)) 44 (0, 0)) := by rw [← hW]; exact heap_alloc2_new w _ _
 have hP : W0.heap[p]? = some (.cells (bc h (.slice a0 l.length cap0) t false f n) 83 (0, 0)) := by rw [← hW]; exact hold (hold hg _) _
 have hB0 : Below w.heap.size w W0 := by rw [← hW]; exact ((Below.refl w.heap.size w).alloc (Nat.le_refl _) _).alloc (by simp) _
 clear hW hg hB
 have cP := cells_at hP
 have fP := frozenAt hP
 have hni : (n : Int) < 200 := by omega
 have en : decide ((200 : Int) ≤ (n : Int)) = false := decide_eq_false (by omega)
 have hset := hsetSame (i := 45) hP (.int .i64 ((n : Int) + 1))
 rw [bc_setActs] at hset
 replace hset := Lib.hid hset
 go_upto_region 7 with fail
 generalize hW1 : World.setCell W0 _ _ = W1
 have hP1 : W1.heap[p]? = some (.cells (bc h (.slice a0 l.length cap0) t false f ((n + 1 : Nat) : Int)) 83 (0, 0)) := by rw [← hW1]; exact hset.out
 have hD1 : W1.heap[w.heap.size]? = some (.cells (dc ⟨10, a, b, c, x⟩) 40 (0, 0)) := by rw [← hW1]; exact hsetOther hD (by omega) _
 have hR1 : W1.heap[w.heap.size + 1]? = some (.cells (rc 0 0 (.slice none 0 0)) 44 (0, 0)) := by rw [← hW1]; exact hsetOther hR (by omega) _
 have hO1 : Only (fun b => b = p) w W1 := by rw [← hW1]; exact (only_new hB0).trans (only_set p 45 _ W0)
 clear hW1 hset fP cP hP hD hR hB0 en
 have cP := cells_at hP1
 have fP := frozenAt hP1
 have cD := cells_at hD1
 have hs1 := hlt hR1
 go_upto_region 17 with (first | go_skip | (go_at_call 54; refine (cI.out _).mono ?_; rintro e w2 ⟨rfl, rfl⟩))
 go_wp2_with (first | go_skip | (go_at_call 52; refine (doNo_any 3 _).mono ?_; rintro e wn ⟨rfl, hbn⟩) | (refine st_row 44 _ _ rfl rfl _ rfl (rc 3 0 (.slice none 0 0)) rfl _ _ (hkeep hbn hR1) infoRp rfl (rc_one _ _ _ rfl) ?_; intro wb hrb hgrb hszb))
 exact bodyPost_ret (results_cell_row rfl _ _ _ 44 _ (0, 0) _ rfl hrb Try.underlying44 rfl infoRp) rfl (do_end_no (K := ⟨h, l, t, false, f, n + 1⟩) rfl ((hgrb.block p (hlt (hkeep hbn hP1)) (by simp; omega)).trans (hkeep hbn hP1)) hp.out hap.out ((hO1.more hbn).step (only_grown hgrb) fun b e => by cases e; right; omega))
set_option maxRecDepth 100000 in
set_option maxHeartbeats 4000000 in
theorem do_failSet (p : Nat) (av : Nat → Prop) (h : Hs) (l : List Pay) (t : List UInt8) (f : Int) (n : Nat) (a b c x : Int) (w : World) (hB : BankAt w p av ⟨h, l, t, false, f, n⟩) (hn : n < 200) (e1 : sm 0 x 4000 = true) :
  Calls Try.prog 26 #[.pointer (some ⟨p, 0, none⟩), .agg (dc ⟨10, a, b, c, x⟩)] w (DoPost p av (⟨h, l, t, false, x, n + 1⟩, ⟨0, 0, []⟩) w) := by
 obtain ⟨a0, cap0, hg, hp, hap⟩ := hB.box
 have hgl := hlt hg
 replace hp := Lib.hid hp
 replace hap := Lib.hid hap
 have cI := fun w => in_val e1 w
 replace cI := Lib.hid cI
 replace e1 := Lib.hid e1
 go_enter Try.func26, Try.ntmps26
 go_upto_region 1 with fail
 generalize hW : World.alloc (World.alloc w _) _ = W0
 have hD : W0.heap[w.heap.size]? = some (.cells (dc ⟨10, a, b, c, x⟩) 40 (0, 0)) := by rw [← hW]; exact heap_alloc2_old w _ _
 have hR : W0.heap[w.heap.size + 1]? = some (.cells (rc 0 0 (.slice none 0 0)) 44 (0, 0)) := by rw [← hW]; exact heap_alloc2_new w _ _
 have hP : W0.heap[p]? = some (.cells (bc h (.slice a0 l.length cap0) t false f n) 83 (0, 0)) := by rw [← hW]; exact hold (hold hg _) _
 have hB0 : Below w.heap.size w W0 := by rw [← hW]; exact ((Below.refl w.heap.size w).alloc (Nat.le_refl _) _).alloc (by simp) _
 clear hW hg hB
 have cP := cells_at hP
 have fP := frozenAt hP
 have hni : (n : Int) < 200 := by omega
 have en : decide ((200 : Int) ≤ (n : Int)) = false := decide_eq_false (by omega)
 have hset := hsetSame (i := 45) hP (.int .i64 ((n : Int) + 1))
 rw [bc_setActs] at hset
 replace hset := Lib.hid hset
 go_upto_region 7 with fail
 generalize hW1 : World.setCell W0 _ _ = W1
 have hP1 : W1.heap[p]? = some (.cells (bc h (.slice a0 l.length cap0) t false f ((n + 1 : Nat) : Int)) 83 (0, 0)) := by rw [← hW1]; exact hset.out
 have hD1 : W1.heap[w.heap.size]? = some (.cells (dc ⟨10, a, b, c, x⟩) 40 (0, 0)) := by rw [← hW1]; exact hsetOther hD (by omega) _
 have hR1 : W1.heap[w.heap.size + 1]? = some (.cells (rc 0 0 (.slice none 0 0)) 44 (0, 0)) := by rw [← hW1]; exact hsetOther hR (by omega) _
 have hO1 : Only (fun b => b = p) w W1 := by rw [← hW1]; exact (only_new hB0).trans (only_set p 45 _ W0)
 clear hW1 hset fP cP hP hD hR hB0 en
 have cP := cells_at hP1
 have fP := frozenAt hP1
 have cD := cells_at hD1
 have hs1 := hlt hR1
 have hset := hsetSame (i := 44) hP1 (.int .i64 x)
 rw [bc_setFail] at hset
 replace hset := Lib.hid hset
 go_upto_region 19 with (first | go_skip | (go_at_call 54; refine (cI.out _).mono ?_; rintro e w2 ⟨rfl, rfl⟩))
 generalize hW2 : World.setCell W1 _ _ = W2
 have hP2 : W2.heap[p]? = some (.cells (bc h (.slice a0 l.length cap0) t false x ((n + 1 : Nat) : Int)) 83 (0, 0)) := by rw [← hW2]; exact hset.out
 have hR2 : W2.heap[w.heap.size + 1]? = some (.cells (rc 0 0 (.slice none 0 0)) 44 (0, 0)) := by rw [← hW2]; exact hsetOther hR1 (by omega) _
 have hO2 : Only (fun b => b = p) w W2 := by rw [← hW2]; exact hO1.trans (only_set p 44 _ W1)
 clear hW2 hset fP cP cD hP1 hD1 hR1 hO1
 go_wp2_with (first | go_skip | (go_at_call 52; refine (doNo_any 0 _).mono ?_; rintro e wn ⟨rfl, hbn⟩) | (refine st_row 44 _ _ rfl rfl _ rfl (rc 0 0 (.slice none 0 0)) rfl _ _ (hkeep hbn hR2) infoRp rfl (rc_one _ _ _ rfl) ?_; intro wb hrb hgrb hszb))
 exact bodyPost_ret (results_cell_row rfl _ _ _ 44 _ (0, 0) _ rfl hrb Try.underlying44 rfl infoRp) rfl (do_end_no (K := ⟨h, l, t, false, x, n + 1⟩) rfl ((hgrb.block p (hlt (hkeep hbn hP2)) (by simp; omega)).trans (hkeep hbn hP2)) hp.out hap.out ((hO2.more hbn).step (only_grown hgrb) fun b e => by cases e; right; omega))
end Go.Proofs.Ytggfdkkhlokmlab


