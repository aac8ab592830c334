/- bank.next: fund and spend. -/
import Derived.Test.YtggfdkkhlokmlabNextC
import Derived.Test.YtggfdkkhlokmlabCMem
set_option linter.unusedSimpArgs false
namespace Go.Proofs.Ytggfdkkhlokmlab
open Go.RowKit
attribute [local go_sem] hc_pays hc_next hc_size rc_0 rc_1 rc_2 rc_size dc_0 dc_1 dc_2 dc_3 dc_4 dc_size hc_cr hc_lim hc_has
theorem dc_setN (k a b c n m : Int) : (dc ⟨k, a, b, c, n⟩).setIfInBounds 4 (.int .i64 m) = dc ⟨k, a, b, c, m⟩ := rfl
set_option maxRecDepth 100000 in
set_option maxHeartbeats 400000 in
theorem next_fund_no1 (h : Hs) (l : List Pay) (v0 : Value) (a b c n : Int) (w : World) (hown : OwnPays w 0 v0 l) (g : GoodP h l) (e1 : sm 0 a 3 = false) :
  Calls Try.prog 61 #[.agg (hc h v0), .agg (dc ⟨6, a, b, c, n⟩)] w (NextPost v0 (.err h l 3) w) := by
 replace e1 := Lib.hid e1
 obtain ⟨a0, cap0, rfl, hp, hpb⟩ := hown.at_
 have hpl : 0 < l.length → ∀ b off s, a0 = some ⟨b, off, s⟩ → b < w.heap.size := fun hl b off s e => by
  obtain ⟨b', off', e', hbl, _⟩ := hp.row hl
  rw [e] at e'; cases e'; exact hbl
 have hlen := g.len
 have hroom := g.room
 replace hp := Lib.hid hp
 replace hpb := Lib.hid hpb
 replace hpl := Lib.hid hpl
 replace hown := Lib.hid hown
 go_enter Try.func61, Try.ntmps61
 go_upto_region 1 with fail
 generalize hW : World.alloc (World.alloc (World.alloc (World.alloc w _) _) _) _ = W0
 obtain ⟨hA, hD, hH, hR, hB⟩ : W0.heap[w.heap.size]? = some (.cells (hc h (.slice a0 l.length cap0)) 29 (0, 0)) ∧ W0.heap[w.heap.size + 1]? = some (.cells (dc ⟨6, a, b, c, n⟩) 40 (0, 0)) ∧ W0.heap[w.heap.size + 2]? = some (.cells (hc Hs.zero (.slice none 0 0)) 29 (0, 0)) ∧ W0.heap[w.heap.size + 3]? = some (.cells (rc 0 0 (.slice none 0 0)) 44 (0, 0)) ∧ Below w.heap.size w W0 := by rw [← hW]; exact four4 w _ _ _ _
 have hp0 := hp.out.below hB
 have cA := cells_at hA
 have cD := cells_at hD
 clear hW
 go_wp2_with (first | go_skip | (go_at_call 54; refine (in_any _ _ _ _).mono ?_; rintro e w' ⟨rfl, rfl⟩; first | rw [e1.out]) | (go_at_call 78; refine (nextNo_any h _ rfl 3 w.heap.size _ hA).mono ?_; rintro e wn ⟨rfl, hbn⟩) | (refine st_row 29 _ _ rfl rfl _ rfl _ rfl _ _ (hkeep hbn hH) info30 rfl (hc_one _ _ rfl) ?_; intro wa hra hgra hsza) | (refine st_row 44 _ _ rfl rfl _ rfl (rc 3 0 (.slice none 0 0)) rfl _ _ ((hgra.block _ (hlt (hkeep hbn hR)) (by simp)).trans (hkeep hbn hR)) infoRp rfl (rc_one _ _ _ rfl) ?_; intro wb hrb hgrb hszb))
 have hBn := bstep hB hB.size hbn
 have hzn := Nat.le_trans (hlt hR) hbn.size
 exact bodyPost_ret (results_hr rfl _ _ _ _ _ _ _ _ _ rfl rfl ((hgrb.block _ (hlt hra) (by simp)).trans hra) hrb) rfl (next_end (X := .err h l 3) rfl (only_new hBn) hzn hgra hgrb ((hp0).below hbn) (fun hl b off s e => ⟨.inl (by rw [e]; rfl), by have := hpl.out hl b off s e; omega, by have := hpl.out hl b off s e; omega, by simp [Value.ownBlock]⟩) (OwnInts.nil _ _) (fun x hx => by simp [Value.ownBlock] at hx))
set_option maxRecDepth 100000 in
set_option maxHeartbeats 400000 in
theorem next_fund_no2 (h : Hs) (l : List Pay) (v0 : Value) (a b c n : Int) (w : World) (hown : OwnPays w 0 v0 l) (g : GoodP h l) (e1 : sm 0 a 3 = true) (e2 : sm 1 n 1000000 = false) :
  Calls Try.prog 61 #[.agg (hc h v0), .agg (dc ⟨6, a, b, c, n⟩)] w (NextPost v0 (.err h l 3) w) := by
 replace e1 := Lib.hid e1
 replace e2 := Lib.hid e2
 obtain ⟨a0, cap0, rfl, hp, hpb⟩ := hown.at_
 have hpl : 0 < l.length → ∀ b off s, a0 = some ⟨b, off, s⟩ → b < w.heap.size := fun hl b off s e => by
  obtain ⟨b', off', e', hbl, _⟩ := hp.row hl
  rw [e] at e'; cases e'; exact hbl
 have hlen := g.len
 have hroom := g.room
 replace hp := Lib.hid hp
 replace hpb := Lib.hid hpb
 replace hpl := Lib.hid hpl
 replace hown := Lib.hid hown
 go_enter Try.func61, Try.ntmps61
 go_upto_region 1 with fail
 generalize hW : World.alloc (World.alloc (World.alloc (World.alloc w _) _) _) _ = W0
 obtain ⟨hA, hD, hH, hR, hB⟩ : W0.heap[w.heap.size]? = some (.cells (hc h (.slice a0 l.length cap0)) 29 (0, 0)) ∧ W0.heap[w.heap.size + 1]? = some (.cells (dc ⟨6, a, b, c, n⟩) 40 (0, 0)) ∧ W0.heap[w.heap.size + 2]? = some (.cells (hc Hs.zero (.slice none 0 0)) 29 (0, 0)) ∧ W0.heap[w.heap.size + 3]? = some (.cells (rc 0 0 (.slice none 0 0)) 44 (0, 0)) ∧ Below w.heap.size w W0 := by rw [← hW]; exact four4 w _ _ _ _
 have hp0 := hp.out.below hB
 have cA := cells_at hA
 have cD := cells_at hD
 clear hW
 go_wp2_with (first | go_skip | (go_at_call 54; refine (in_any _ _ _ _).mono ?_; rintro e w' ⟨rfl, rfl⟩; first | rw [e1.out] | rw [e2.out]) | (go_at_call 78; refine (nextNo_any h _ rfl 3 w.heap.size _ hA).mono ?_; rintro e wn ⟨rfl, hbn⟩) | (refine st_row 29 _ _ rfl rfl _ rfl _ rfl _ _ (hkeep hbn hH) info30 rfl (hc_one _ _ rfl) ?_; intro wa hra hgra hsza) | (refine st_row 44 _ _ rfl rfl _ rfl (rc 3 0 (.slice none 0 0)) rfl _ _ ((hgra.block _ (hlt (hkeep hbn hR)) (by simp)).trans (hkeep hbn hR)) infoRp rfl (rc_one _ _ _ rfl) ?_; intro wb hrb hgrb hszb))
 have hBn := bstep hB hB.size hbn
 have hzn := Nat.le_trans (hlt hR) hbn.size
 exact bodyPost_ret (results_hr rfl _ _ _ _ _ _ _ _ _ rfl rfl ((hgrb.block _ (hlt hra) (by simp)).trans hra) hrb) rfl (next_end (X := .err h l 3) rfl (only_new hBn) hzn hgra hgrb ((hp0).below hbn) (fun hl b off s e => ⟨.inl (by rw [e]; rfl), by have := hpl.out hl b off s e; omega, by have := hpl.out hl b off s e; omega, by simp [Value.ownBlock]⟩) (OwnInts.nil _ _) (fun x hx => by simp [Value.ownBlock] at hx))
set_option maxRecDepth 100000 in
set_option maxHeartbeats 400000 in
theorem next_spend_no1 (h : Hs) (l : List Pay) (v0 : Value) (a b c n : Int) (w : World) (hown : OwnPays w 0 v0 l) (g : GoodP h l) (e1 : sm 0 a 3 = false) :
  Calls Try.prog 61 #[.agg (hc h v0), .agg (dc ⟨7, a, b, c, n⟩)] w (NextPost v0 (.err h l 3) w) := by
 replace e1 := Lib.hid e1
 obtain ⟨a0, cap0, rfl, hp, hpb⟩ := hown.at_
 have hpl : 0 < l.length → ∀ b off s, a0 = some ⟨b, off, s⟩ → b < w.heap.size := fun hl b off s e => by
  obtain ⟨b', off', e', hbl, _⟩ := hp.row hl
  rw [e] at e'; cases e'; exact hbl
 have hlen := g.len
 have hroom := g.room
 replace hp := Lib.hid hp
 replace hpb := Lib.hid hpb
 replace hpl := Lib.hid hpl
 replace hown := Lib.hid hown
 go_enter Try.func61, Try.ntmps61
 go_upto_region 1 with fail
 generalize hW : World.alloc (World.alloc (World.alloc (World.alloc w _) _) _) _ = W0
 obtain ⟨hA, hD, hH, hR, hB⟩ : W0.heap[w.heap.size]? = some (.cells (hc h (.slice a0 l.length cap0)) 29 (0, 0)) ∧ W0.heap[w.heap.size + 1]? = some (.cells (dc ⟨7, a, b, c, n⟩) 40 (0, 0)) ∧ W0.heap[w.heap.size + 2]? = some (.cells (hc Hs.zero (.slice none 0 0)) 29 (0, 0)) ∧ W0.heap[w.heap.size + 3]? = some (.cells (rc 0 0 (.slice none 0 0)) 44 (0, 0)) ∧ Below w.heap.size w W0 := by rw [← hW]; exact four4 w _ _ _ _
 have hp0 := hp.out.below hB
 have cA := cells_at hA
 have cD := cells_at hD
 clear hW
 go_wp2_with (first | go_skip | (go_at_call 54; refine (in_any _ _ _ _).mono ?_; rintro e w' ⟨rfl, rfl⟩; first | rw [e1.out]) | (go_at_call 78; refine (nextNo_any h _ rfl 3 w.heap.size _ hA).mono ?_; rintro e wn ⟨rfl, hbn⟩) | (refine st_row 29 _ _ rfl rfl _ rfl _ rfl _ _ (hkeep hbn hH) info30 rfl (hc_one _ _ rfl) ?_; intro wa hra hgra hsza) | (refine st_row 44 _ _ rfl rfl _ rfl (rc 3 0 (.slice none 0 0)) rfl _ _ ((hgra.block _ (hlt (hkeep hbn hR)) (by simp)).trans (hkeep hbn hR)) infoRp rfl (rc_one _ _ _ rfl) ?_; intro wb hrb hgrb hszb))
 have hBn := bstep hB hB.size hbn
 have hzn := Nat.le_trans (hlt hR) hbn.size
 exact bodyPost_ret (results_hr rfl _ _ _ _ _ _ _ _ _ rfl rfl ((hgrb.block _ (hlt hra) (by simp)).trans hra) hrb) rfl (next_end (X := .err h l 3) rfl (only_new hBn) hzn hgra hgrb ((hp0).below hbn) (fun hl b off s e => ⟨.inl (by rw [e]; rfl), by have := hpl.out hl b off s e; omega, by have := hpl.out hl b off s e; omega, by simp [Value.ownBlock]⟩) (OwnInts.nil _ _) (fun x hx => by simp [Value.ownBlock] at hx))
set_option maxRecDepth 100000 in
set_option maxHeartbeats 400000 in
theorem next_spend_no2 (h : Hs) (l : List Pay) (v0 : Value) (a b c n : Int) (w : World) (hown : OwnPays w 0 v0 l) (g : GoodP h l) (e1 : sm 0 a 3 = true) (e2 : sm 1 n 1000000 = false) :
  Calls Try.prog 61 #[.agg (hc h v0), .agg (dc ⟨7, a, b, c, n⟩)] w (NextPost v0 (.err h l 3) w) := by
 replace e1 := Lib.hid e1
 replace e2 := Lib.hid e2
 obtain ⟨a0, cap0, rfl, hp, hpb⟩ := hown.at_
 have hpl : 0 < l.length → ∀ b off s, a0 = some ⟨b, off, s⟩ → b < w.heap.size := fun hl b off s e => by
  obtain ⟨b', off', e', hbl, _⟩ := hp.row hl
  rw [e] at e'; cases e'; exact hbl
 have hlen := g.len
 have hroom := g.room
 replace hp := Lib.hid hp
 replace hpb := Lib.hid hpb
 replace hpl := Lib.hid hpl
 replace hown := Lib.hid hown
 go_enter Try.func61, Try.ntmps61
 go_upto_region 1 with fail
 generalize hW : World.alloc (World.alloc (World.alloc (World.alloc w _) _) _) _ = W0
 obtain ⟨hA, hD, hH, hR, hB⟩ : W0.heap[w.heap.size]? = some (.cells (hc h (.slice a0 l.length cap0)) 29 (0, 0)) ∧ W0.heap[w.heap.size + 1]? = some (.cells (dc ⟨7, a, b, c, n⟩) 40 (0, 0)) ∧ W0.heap[w.heap.size + 2]? = some (.cells (hc Hs.zero (.slice none 0 0)) 29 (0, 0)) ∧ W0.heap[w.heap.size + 3]? = some (.cells (rc 0 0 (.slice none 0 0)) 44 (0, 0)) ∧ Below w.heap.size w W0 := by rw [← hW]; exact four4 w _ _ _ _
 have hp0 := hp.out.below hB
 have cA := cells_at hA
 have cD := cells_at hD
 clear hW
 go_wp2_with (first | go_skip | (go_at_call 54; refine (in_any _ _ _ _).mono ?_; rintro e w' ⟨rfl, rfl⟩; first | rw [e1.out] | rw [e2.out]) | (go_at_call 78; refine (nextNo_any h _ rfl 3 w.heap.size _ hA).mono ?_; rintro e wn ⟨rfl, hbn⟩) | (refine st_row 29 _ _ rfl rfl _ rfl _ rfl _ _ (hkeep hbn hH) info30 rfl (hc_one _ _ rfl) ?_; intro wa hra hgra hsza) | (refine st_row 44 _ _ rfl rfl _ rfl (rc 3 0 (.slice none 0 0)) rfl _ _ ((hgra.block _ (hlt (hkeep hbn hR)) (by simp)).trans (hkeep hbn hR)) infoRp rfl (rc_one _ _ _ rfl) ?_; intro wb hrb hgrb hszb))
 have hBn := bstep hB hB.size hbn
 have hzn := Nat.le_trans (hlt hR) hbn.size
 exact bodyPost_ret (results_hr rfl _ _ _ _ _ _ _ _ _ rfl rfl ((hgrb.block _ (hlt hra) (by simp)).trans hra) hrb) rfl (next_end (X := .err h l 3) rfl (only_new hBn) hzn hgra hgrb ((hp0).below hbn) (fun hl b off s e => ⟨.inl (by rw [e]; rfl), by have := hpl.out hl b off s e; omega, by have := hpl.out hl b off s e; omega, by simp [Value.ownBlock]⟩) (OwnInts.nil _ _) (fun x hx => by simp [Value.ownBlock] at hx))
set_option maxRecDepth 100000 in
set_option maxHeartbeats 400000 in
theorem next_fund_no3 (h : Hs) (l : List Pay) (v0 : Value) (a b c n : Int) (w : World) (hown : OwnPays w 0 v0 l) (g : GoodP h l) (e1 : sm 0 a 3 = true) (e2 : sm 1 n 1000000 = true) (e3 : 549755813888 ≤ h.has a) :
  Calls Try.prog 61 #[.agg (hc h v0), .agg (dc ⟨6, a, b, c, n⟩)] w (NextPost v0 (.err h l 5) w) := by
 obtain ⟨q0, q1⟩ := sm_true e1
 have q2 : a < 4 := by omega
 obtain ⟨n0, n1⟩ := sm_true e2
 obtain ⟨r0, r1⟩ := sm_true (g.banks a q0 q2).has
 replace e1 := Lib.hid e1
 replace e2 := Lib.hid e2
 obtain ⟨a0, cap0, rfl, hp, hpb⟩ := hown.at_
 have hpl : 0 < l.length → ∀ b off s, a0 = some ⟨b, off, s⟩ → b < w.heap.size := fun hl b off s e => by
  obtain ⟨b', off', e', hbl, _⟩ := hp.row hl
  rw [e] at e'; cases e'; exact hbl
 have hlen := g.len
 have hroom := g.room
 replace hp := Lib.hid hp
 replace hpb := Lib.hid hpb
 replace hpl := Lib.hid hpl
 replace hown := Lib.hid hown
 go_enter Try.func61, Try.ntmps61
 go_upto_region 1 with fail
 generalize hW : World.alloc (World.alloc (World.alloc (World.alloc w _) _) _) _ = W0
 obtain ⟨hA, hD, hH, hR, hB⟩ : W0.heap[w.heap.size]? = some (.cells (hc h (.slice a0 l.length cap0)) 29 (0, 0)) ∧ W0.heap[w.heap.size + 1]? = some (.cells (dc ⟨6, a, b, c, n⟩) 40 (0, 0)) ∧ W0.heap[w.heap.size + 2]? = some (.cells (hc Hs.zero (.slice none 0 0)) 29 (0, 0)) ∧ W0.heap[w.heap.size + 3]? = some (.cells (rc 0 0 (.slice none 0 0)) 44 (0, 0)) ∧ Below w.heap.size w W0 := by rw [← hW]; exact four4 w _ _ _ _
 have hp0 := hp.out.below hB
 have cA := cells_at hA
 have cD := cells_at hD
 clear hW
 go_wp2_with (first | go_skip | (go_at_call 54; refine (in_any _ _ _ _).mono ?_; rintro e w' ⟨rfl, rfl⟩; first | rw [e1.out] | rw [e2.out]) | (go_at_call 78; refine (nextNo_any h _ rfl 5 w.heap.size _ hA).mono ?_; rintro e wn ⟨rfl, hbn⟩) | (refine st_row 29 _ _ rfl rfl _ rfl _ rfl _ _ (hkeep hbn hH) info30 rfl (hc_one _ _ rfl) ?_; intro wa hra hgra hsza) | (refine st_row 44 _ _ rfl rfl _ rfl (rc 5 0 (.slice none 0 0)) rfl _ _ ((hgra.block _ (hlt (hkeep hbn hR)) (by simp)).trans (hkeep hbn hR)) infoRp rfl (rc_one _ _ _ rfl) ?_; intro wb hrb hgrb hszb))
 have hBn := bstep hB hB.size hbn
 have hzn := Nat.le_trans (hlt hR) hbn.size
 exact bodyPost_ret (results_hr rfl _ _ _ _ _ _ _ _ _ rfl rfl ((hgrb.block _ (hlt hra) (by simp)).trans hra) hrb) rfl (next_end (X := .err h l 5) rfl (only_new hBn) hzn hgra hgrb ((hp0).below hbn) (fun hl b off s e => ⟨.inl (by rw [e]; rfl), by have := hpl.out hl b off s e; omega, by have := hpl.out hl b off s e; omega, by simp [Value.ownBlock]⟩) (OwnInts.nil _ _) (fun x hx => by simp [Value.ownBlock] at hx))
set_option maxRecDepth 100000 in
set_option maxHeartbeats 400000 in
theorem next_fund_yes (h : Hs) (l : List Pay) (v0 : Value) (a b c n : Int) (w : World) (hown : OwnPays w 0 v0 l) (g : GoodP h l) (e1 : sm 0 a 3 = true) (e2 : sm 1 n 1000000 = true) (e3 : h.has a < 549755813888) :
  Calls Try.prog 61 #[.agg (hc h v0), .agg (dc ⟨6, a, b, c, n⟩)] w (NextPost v0 (⟨h.setHas a (h.has a + n), l, 0, 0, []⟩) w) := by
 obtain ⟨q0, q1⟩ := sm_true e1
 have q2 : a < 4 := by omega
 obtain ⟨n0, n1⟩ := sm_true e2
 obtain ⟨r0, r1⟩ := sm_true (g.banks a q0 q2).has
 replace e1 := Lib.hid e1
 replace e2 := Lib.hid e2
 obtain ⟨a0, cap0, rfl, hp, hpb⟩ := hown.at_
 have hpl : 0 < l.length → ∀ b off s, a0 = some ⟨b, off, s⟩ → b < w.heap.size := fun hl b off s e => by
  obtain ⟨b', off', e', hbl, _⟩ := hp.row hl
  rw [e] at e'; cases e'; exact hbl
 have hlen := g.len
 have hroom := g.room
 replace hp := Lib.hid hp
 replace hpb := Lib.hid hpb
 replace hpl := Lib.hid hpl
 replace hown := Lib.hid hown
 go_enter Try.func61, Try.ntmps61
 go_upto_region 1 with fail
 generalize hW : World.alloc (World.alloc (World.alloc (World.alloc w _) _) _) _ = W0
 obtain ⟨hA, hD, hH, hR, hB⟩ : W0.heap[w.heap.size]? = some (.cells (hc h (.slice a0 l.length cap0)) 29 (0, 0)) ∧ W0.heap[w.heap.size + 1]? = some (.cells (dc ⟨6, a, b, c, n⟩) 40 (0, 0)) ∧ W0.heap[w.heap.size + 2]? = some (.cells (hc Hs.zero (.slice none 0 0)) 29 (0, 0)) ∧ W0.heap[w.heap.size + 3]? = some (.cells (rc 0 0 (.slice none 0 0)) 44 (0, 0)) ∧ Below w.heap.size w W0 := by rw [← hW]; exact four4 w _ _ _ _
 have hp0 := hp.out.below hB
 have cA := cells_at hA
 have cD := cells_at hD
 clear hW
 go_upto_region 46 with (first | go_skip | (go_at_call 54; refine (in_any _ _ _ _).mono ?_; rintro e w' ⟨rfl, rfl⟩; first | rw [e1.out] | rw [e2.out]))
 clear cA cD
 have hcI : ∀ w', Below W0.heap.size W0 w' → w'.cell? ⟨w.heap.size + 1, 1, none⟩ = some (.int .i64 a) ∧ w'.cell? ⟨w.heap.size + 1, 4, none⟩ = some (.int .i64 (n)) ∧ w'.cell? ⟨w.heap.size, a.toNat * 2, none⟩ = some (.int .i64 (h.has a)) := fun w' hb =>
  have h1 := cells_at (hkeep hb hD)
  ⟨h1 1, h1 4, (cells_at (hkeep hb hA) _).trans (hc_has _ _ _ q0 q2)⟩
 replace hcI := Lib.hid hcI
 refine wpG_start (Below W0.heap.size W0) 12 (by kernel_rfl) ?_
 have hI0 : Below W0.heap.size W0 W0.drew := (Below.refl _ _).drew
 refine wpG_put 244 (i := 0) (oi := _) (v := (.pointer (some ⟨w.heap.size + 1, 1, none⟩))) [0] rfl rfl (by kernel_rfl) (by kernel_rfl) (by kernel_rfl) (by kernel_rfl) (fun _ _ _ h => h) hI0 ?hy0 ?rs0
 case hy0 => exact Or.inl ⟨by rfl, by intro w' hb; obtain ⟨c1, c2, c3⟩ := hcI.out w' hb; go_simp; first | done | exact IntWalk.i64_in _ (by omega)⟩
 (try simp only [Act.put, List.setIfInBounds_toArray, List.set_cons_succ, List.set_cons_zero])
 refine wpG_put 245 (i := 1) (oi := _) (v := (.int .i64 a)) [1] rfl rfl (by kernel_rfl) (by kernel_rfl) (by kernel_rfl) (by kernel_rfl) (fun _ _ _ h => h) hI0 ?hy1 ?rs1
 case hy1 => exact Or.inl ⟨by rfl, by intro w' hb; obtain ⟨c1, c2, c3⟩ := hcI.out w' hb; go_simp; first | done | exact IntWalk.i64_in _ (by omega)⟩
 (try simp only [Act.put, List.setIfInBounds_toArray, List.set_cons_succ, List.set_cons_zero])
 refine wpG_put 246 (i := 2) (oi := _) (v := (.pointer (some ⟨w.heap.size, 0, none⟩))) [5, 4, 3, 2] rfl rfl (by kernel_rfl) (by kernel_rfl) (by kernel_rfl) (by kernel_rfl) (fun _ _ _ h => h) hI0 ?hy2 ?rs2
 case hy2 => exact Or.inl ⟨by rfl, by intro w' hb; obtain ⟨c1, c2, c3⟩ := hcI.out w' hb; go_simp; first | done | exact IntWalk.i64_in _ (by omega)⟩
 (try simp only [Act.put, List.setIfInBounds_toArray, List.set_cons_succ, List.set_cons_zero])
 refine wpG_put 247 (i := 3) (oi := _) (v := (.pointer (some ⟨w.heap.size, a.toNat * 2, none⟩))) [5, 4, 3] rfl rfl (by kernel_rfl) (by kernel_rfl) (by kernel_rfl) (by kernel_rfl) (fun _ _ _ h => h) hI0 ?hy3 ?rs3
 case hy3 => exact Or.inl ⟨by rfl, by intro w' hb; obtain ⟨c1, c2, c3⟩ := hcI.out w' hb; go_simp; first | done | exact IntWalk.i64_in _ (by omega)⟩
 (try simp only [Act.put, List.setIfInBounds_toArray, List.set_cons_succ, List.set_cons_zero])
 refine wpG_put 248 (i := 4) (oi := _) (v := (.pointer (some ⟨w.heap.size, a.toNat * 2, none⟩))) [5, 4] rfl rfl (by kernel_rfl) (by kernel_rfl) (by kernel_rfl) (by kernel_rfl) (fun _ _ _ h => h) hI0 ?hy4 ?rs4
 case hy4 => exact Or.inl ⟨by rfl, by intro w' hb; obtain ⟨c1, c2, c3⟩ := hcI.out w' hb; go_simp; first | done | exact IntWalk.i64_in _ (by omega)⟩
 (try simp only [Act.put, List.setIfInBounds_toArray, List.set_cons_succ, List.set_cons_zero])
 refine wpG_put 249 (i := 5) (oi := _) (v := (.int .i64 (h.has a))) [5] rfl rfl (by kernel_rfl) (by kernel_rfl) (by kernel_rfl) (by kernel_rfl) (fun _ _ _ h => h) hI0 ?hy5 ?rs5
 case hy5 => exact Or.inl ⟨by rfl, by intro w' hb; obtain ⟨c1, c2, c3⟩ := hcI.out w' hb; go_simp; first | done | exact IntWalk.i64_in _ (by omega)⟩
 (try simp only [Act.put, List.setIfInBounds_toArray, List.set_cons_succ, List.set_cons_zero])
 refine wpG_put 250 (i := 6) (oi := _) (v := (.pointer (some ⟨w.heap.size + 1, 4, none⟩))) [6] rfl rfl (by kernel_rfl) (by kernel_rfl) (by kernel_rfl) (by kernel_rfl) (fun _ _ _ h => h) hI0 ?hy6 ?rs6
 case hy6 => exact Or.inl ⟨by rfl, by intro w' hb; obtain ⟨c1, c2, c3⟩ := hcI.out w' hb; go_simp; first | done | exact IntWalk.i64_in _ (by omega)⟩
 (try simp only [Act.put, List.setIfInBounds_toArray, List.set_cons_succ, List.set_cons_zero])
 refine wpG_put 251 (i := 7) (oi := _) (v := (.int .i64 (n))) [7] rfl rfl (by kernel_rfl) (by kernel_rfl) (by kernel_rfl) (by kernel_rfl) (fun _ _ _ h => h) hI0 ?hy7 ?rs7
 case hy7 => exact Or.inl ⟨by rfl, by intro w' hb; obtain ⟨c1, c2, c3⟩ := hcI.out w' hb; go_simp; first | done | exact IntWalk.i64_in _ (by omega)⟩
 (try simp only [Act.put, List.setIfInBounds_toArray, List.set_cons_succ, List.set_cons_zero])
 refine wpG_put 252 (i := 8) (oi := _) (v := (.int .i64 (h.has a + n))) [8] rfl rfl (by kernel_rfl) (by kernel_rfl) (by kernel_rfl) (by kernel_rfl) (fun _ _ _ h => h) hI0 ?hy8 ?rs8
 case hy8 => exact Or.inl ⟨by rfl, by intro w' hb; obtain ⟨c1, c2, c3⟩ := hcI.out w' hb; go_simp; first | done | exact IntWalk.i64_in _ (by omega)⟩
 (try simp only [Act.put, List.setIfInBounds_toArray, List.set_cons_succ, List.set_cons_zero])
 refine wpG_put 253 (i := 9) (oi := _) (v := (.pointer (some ⟨w.heap.size, 0, none⟩))) [11, 10, 9] rfl rfl (by kernel_rfl) (by kernel_rfl) (by kernel_rfl) (by kernel_rfl) (fun _ _ _ h => h) hI0 ?hy9 ?rs9
 case hy9 => exact Or.inl ⟨by rfl, by intro w' hb; obtain ⟨c1, c2, c3⟩ := hcI.out w' hb; go_simp; first | done | exact IntWalk.i64_in _ (by omega)⟩
 (try simp only [Act.put, List.setIfInBounds_toArray, List.set_cons_succ, List.set_cons_zero])
 refine wpG_put 254 (i := 10) (oi := _) (v := (.pointer (some ⟨w.heap.size, a.toNat * 2, none⟩))) [11, 10] rfl rfl (by kernel_rfl) (by kernel_rfl) (by kernel_rfl) (by kernel_rfl) (fun _ _ _ h => h) hI0 ?hy10 ?rs10
 case hy10 => exact Or.inl ⟨by rfl, by intro w' hb; obtain ⟨c1, c2, c3⟩ := hcI.out w' hb; go_simp; first | done | exact IntWalk.i64_in _ (by omega)⟩
 (try simp only [Act.put, List.setIfInBounds_toArray, List.set_cons_succ, List.set_cons_zero])
 refine wpG_put 255 (i := 11) (oi := _) (v := (.pointer (some ⟨w.heap.size, a.toNat * 2, none⟩))) [11] rfl rfl (by kernel_rfl) (by kernel_rfl) (by kernel_rfl) (by kernel_rfl) (fun _ _ _ h => h) hI0 ?hy11 ?rs11
 case hy11 => exact Or.inl ⟨by rfl, by intro w' hb; obtain ⟨c1, c2, c3⟩ := hcI.out w' hb; go_simp; first | done | exact IntWalk.i64_in _ (by omega)⟩
 (try simp only [Act.put, List.setIfInBounds_toArray, List.set_cons_succ, List.set_cons_zero])
 refine wpG_drop 12 rfl (by kernel_rfl) ?_
 simp only [List.drop_succ_cons, List.drop_zero]
 have hA9 := hkeep hI0 hA
 have fA := frozenAt hA9
 have cX : W0.drew.cell? ⟨w.heap.size, a.toNat * 2, none⟩ = some (.int .i64 (h.has a)) := (hcI.out _ hI0).2.2
 have hset := hsetSame (i := a.toNat * 2) hA (.int .i64 (h.has a + n))
 rw [hc_setHas _ _ _ _ q0 q2] at hset
 replace hset := Lib.hid hset
 go_upto_region 60 with fail
 generalize hWs : World.drew (World.setCell W0 _ _) = Ws
 have hA2 : Ws.heap[w.heap.size]? = some (.cells (hc (h.setHas a (h.has a + n)) (.slice a0 l.length cap0)) 29 (0, 0)) := by rw [← hWs]; exact hset.out
 have hH2 : Ws.heap[w.heap.size + 2]? = some (.cells (hc Hs.zero (.slice none 0 0)) 29 (0, 0)) := by rw [← hWs]; exact hsetOther hH (by omega) _
 have hR2 : Ws.heap[w.heap.size + 3]? = some (.cells (rc 0 0 (.slice none 0 0)) 44 (0, 0)) := by rw [← hWs]; exact hsetOther hR (by omega) _
 have hB2 : Below w.heap.size w Ws := by rw [← hWs]; exact (hB.setCell (by show w.heap.size ≤ w.heap.size; exact Nat.le_refl _) _).drew
 have hp2 : PaysAt Ws a0 cap0 l := by rw [← hWs]; exact (pay_set hp0 _ _ _ (fun hl b off s e => by have := hpl.out hl b off s e; omega)).below (Below.refl _ _).drew
 clear hWs hset fA hA hD hH hR hB hp0 hA9 cX
 go_wp2_with (first | go_skip | (refine ld_row 29 _ rfl rfl _ rfl _ _ _ _ hA2 Try.underlying29 rfl info30 ?_) | (refine st_row 29 _ _ rfl rfl _ rfl _ rfl _ _ hH2 info30 rfl (hc_one _ _ rfl) ?_; intro wa hra hgra hsza) | (refine st_row 44 _ _ rfl rfl _ rfl (rc 0 0 (.slice none 0 0)) rfl _ _ ((hgra.block _ (hlt hR2) (by simp)).trans hR2) infoRp rfl (rc_one _ _ _ rfl) ?_; intro wb hrb hgrb hszb))
 exact bodyPost_ret (results_hr rfl _ _ _ _ _ _ _ _ _ rfl rfl ((hgrb.block _ (hlt hra) (by simp)).trans hra) hrb) rfl (next_end (X := ⟨h.setHas a (h.has a + n), l, 0, 0, []⟩) rfl (only_new hB2) (hlt hR2) hgra hgrb hp2 (fun hl b off s e => ⟨.inl (by rw [e]; rfl), by have := hpl.out hl b off s e; omega, by have := hpl.out hl b off s e; omega, by simp [Value.ownBlock]⟩) (OwnInts.nil _ _) (fun x hx => by simp [Value.ownBlock] at hx))
set_option maxRecDepth 100000 in
set_option maxHeartbeats 400000 in
theorem next_spend_no3 (h : Hs) (l : List Pay) (v0 : Value) (a b c n : Int) (w : World) (hown : OwnPays w 0 v0 l) (g : GoodP h l) (e1 : sm 0 a 3 = true) (e2 : sm 1 n 1000000 = true) (e3 : h.has a + h.cr a < n) :
  Calls Try.prog 61 #[.agg (hc h v0), .agg (dc ⟨7, a, b, c, n⟩)] w (NextPost v0 (.err h l 6) w) := by
 obtain ⟨q0, q1⟩ := sm_true e1
 have q2 : a < 4 := by omega
 obtain ⟨n0, n1⟩ := sm_true e2
 obtain ⟨r0, r1⟩ := sm_true (g.banks a q0 q2).has
 replace e1 := Lib.hid e1
 replace e2 := Lib.hid e2
 obtain ⟨lf, hlf⟩ : ∃ lf, h.has a + h.cr a = lf := ⟨_, rfl⟩
 have e3d : decide (lf < n) = true := decide_eq_true (by rw [← hlf]; exact e3)
 rw [hlf] at e3
 obtain ⟨a0, cap0, rfl, hp, hpb⟩ := hown.at_
 have hpl : 0 < l.length → ∀ b off s, a0 = some ⟨b, off, s⟩ → b < w.heap.size := fun hl b off s e => by
  obtain ⟨b', off', e', hbl, _⟩ := hp.row hl
  rw [e] at e'; cases e'; exact hbl
 have hlen := g.len
 have hroom := g.room
 replace hp := Lib.hid hp
 replace hpb := Lib.hid hpb
 replace hpl := Lib.hid hpl
 replace hown := Lib.hid hown
 go_enter Try.func61, Try.ntmps61
 go_upto_region 1 with fail
 generalize hW : World.alloc (World.alloc (World.alloc (World.alloc w _) _) _) _ = W0
 obtain ⟨hA, hD, hH, hR, hB⟩ : W0.heap[w.heap.size]? = some (.cells (hc h (.slice a0 l.length cap0)) 29 (0, 0)) ∧ W0.heap[w.heap.size + 1]? = some (.cells (dc ⟨7, a, b, c, n⟩) 40 (0, 0)) ∧ W0.heap[w.heap.size + 2]? = some (.cells (hc Hs.zero (.slice none 0 0)) 29 (0, 0)) ∧ W0.heap[w.heap.size + 3]? = some (.cells (rc 0 0 (.slice none 0 0)) 44 (0, 0)) ∧ Below w.heap.size w W0 := by rw [← hW]; exact four4 w _ _ _ _
 have hp0 := hp.out.below hB
 have cA := cells_at hA
 have cD := cells_at hD
 clear hW
 have hW0s := hlt hR
 have hcX := calm_cells hA
 have hcD := calm_cells hD
 have cL : ∀ x : Wd (Below W0.heap.size W0), Calls Try.prog 22 #[.agg (hc h (.slice a0 l.length cap0)), .int .i64 a] x.w fun e w' => e = .returned (.int .i64 lf) ∧ Below x.w.heap.size x.w w' := fun x => by rw [← hlf]; exact left_any h _ a x.w q0 q2 hroom
 replace cL := Lib.hid cL
 replace hlf := Lib.hid hlf
 go_upto_region 41 with (first | go_skip | (go_at_call 54; refine (in_any _ _ _ _).mono ?_; rintro e w' ⟨rfl, rfl⟩; first | rw [e1.out] | rw [e2.out]))
 refine calm_region (Below W0.heap.size W0) (by kernel_rfl) (by kernel_rfl) (calm_start W0) ?_
 repeat (first | go_big_quiet_skip | (go_big_quiet_want; first | (refine calm_row 29 _ rfl _ rfl _ _ _ _ (calm_heap hA) Try.underlying29 rfl info30 ?_; (try simp only [Act.put]); (try simp only [List.setIfInBounds_toArray]); (try simp only [List.set_cons_succ]); (try simp only [List.set_cons_zero]); go_big_quiet_on) | (go_big_quiet_op; first | go_big_quiet_on | go_big_quiet_call (first | (go_at_call 22; exact calm_call (calm_below _) (cL.out _))))))
 refine wpQuiet_nil ?_
 intro w1 hI
 have hA1 := hkeep hI hA
 have hD1 := hkeep hI hD
 have hH1 := hkeep hI hH
 have hR1 := hkeep hI hR
 have hp1 := hp0.below hI
 have hB1 := bstep hB hB.size hI
 clear hcX hcD cA cD hA hD hH hR hp0 hB hI hW0s
 go_wp2_with (first | go_skip | (go_at_call 78; refine (nextNo_any h _ rfl 6 w.heap.size _ hA1).mono ?_; rintro e wn ⟨rfl, hbn⟩) | (refine st_row 29 _ _ rfl rfl _ rfl _ rfl _ _ (hkeep hbn hH1) info30 rfl (hc_one _ _ rfl) ?_; intro wa hra hgra hsza) | (refine st_row 44 _ _ rfl rfl _ rfl (rc 6 0 (.slice none 0 0)) rfl _ _ ((hgra.block _ (hlt (hkeep hbn hR1)) (by simp)).trans (hkeep hbn hR1)) infoRp rfl (rc_one _ _ _ rfl) ?_; intro wb hrb hgrb hszb))
 have hBn := bstep hB1 hB1.size hbn
 have hzn := Nat.le_trans (hlt hR1) hbn.size
 exact bodyPost_ret (results_hr rfl _ _ _ _ _ _ _ _ _ rfl rfl ((hgrb.block _ (hlt hra) (by simp)).trans hra) hrb) rfl (next_end (X := .err h l 6) rfl (only_new hBn) hzn hgra hgrb ((hp1).below hbn) (fun hl b off s e => ⟨.inl (by rw [e]; rfl), by have := hpl.out hl b off s e; omega, by have := hpl.out hl b off s e; omega, by simp [Value.ownBlock]⟩) (OwnInts.nil _ _) (fun x hx => by simp [Value.ownBlock] at hx))
set_option maxRecDepth 100000 in
set_option maxHeartbeats 400000 in
theorem next_spend_yes (h : Hs) (l : List Pay) (v0 : Value) (a b c n : Int) (w : World) (hown : OwnPays w 0 v0 l) (g : GoodP h l) (e1 : sm 0 a 3 = true) (e2 : sm 1 n 1000000 = true) (e3 : n ≤ h.has a + h.cr a) :
  Calls Try.prog 61 #[.agg (hc h v0), .agg (dc ⟨7, a, b, c, n⟩)] w (NextPost v0 (⟨h.setHas a (h.has a - n), l, 0, 0, []⟩) w) := by
 obtain ⟨q0, q1⟩ := sm_true e1
 have q2 : a < 4 := by omega
 obtain ⟨n0, n1⟩ := sm_true e2
 obtain ⟨r0, r1⟩ := sm_true (g.banks a q0 q2).has
 replace e1 := Lib.hid e1
 replace e2 := Lib.hid e2
 obtain ⟨lf, hlf⟩ : ∃ lf, h.has a + h.cr a = lf := ⟨_, rfl⟩
 have e3d : decide (lf < n) = false := decide_eq_false (by rw [← hlf]; omega)
 rw [hlf] at e3
 have hsub : h.has a - n = h.has a + -n := by omega
 rw [hsub]
 replace hsub := Lib.hid hsub
 obtain ⟨a0, cap0, rfl, hp, hpb⟩ := hown.at_
 have hpl : 0 < l.length → ∀ b off s, a0 = some ⟨b, off, s⟩ → b < w.heap.size := fun hl b off s e => by
  obtain ⟨b', off', e', hbl, _⟩ := hp.row hl
  rw [e] at e'; cases e'; exact hbl
 have hlen := g.len
 have hroom := g.room
 replace hp := Lib.hid hp
 replace hpb := Lib.hid hpb
 replace hpl := Lib.hid hpl
 replace hown := Lib.hid hown
 go_enter Try.func61, Try.ntmps61
 go_upto_region 1 with fail
 generalize hW : World.alloc (World.alloc (World.alloc (World.alloc w _) _) _) _ = W0
 obtain ⟨hA, hD, hH, hR, hB⟩ : W0.heap[w.heap.size]? = some (.cells (hc h (.slice a0 l.length cap0)) 29 (0, 0)) ∧ W0.heap[w.heap.size + 1]? = some (.cells (dc ⟨7, a, b, c, n⟩) 40 (0, 0)) ∧ W0.heap[w.heap.size + 2]? = some (.cells (hc Hs.zero (.slice none 0 0)) 29 (0, 0)) ∧ W0.heap[w.heap.size + 3]? = some (.cells (rc 0 0 (.slice none 0 0)) 44 (0, 0)) ∧ Below w.heap.size w W0 := by rw [← hW]; exact four4 w _ _ _ _
 have hp0 := hp.out.below hB
 have cA := cells_at hA
 have cD := cells_at hD
 clear hW
 have hW0s := hlt hR
 have hcX := calm_cells hA
 have hcD := calm_cells hD
 have cL : ∀ x : Wd (Below W0.heap.size W0), Calls Try.prog 22 #[.agg (hc h (.slice a0 l.length cap0)), .int .i64 a] x.w fun e w' => e = .returned (.int .i64 lf) ∧ Below x.w.heap.size x.w w' := fun x => by rw [← hlf]; exact left_any h _ a x.w q0 q2 hroom
 replace cL := Lib.hid cL
 replace hlf := Lib.hid hlf
 go_upto_region 41 with (first | go_skip | (go_at_call 54; refine (in_any _ _ _ _).mono ?_; rintro e w' ⟨rfl, rfl⟩; first | rw [e1.out] | rw [e2.out]))
 refine calm_region (Below W0.heap.size W0) (by kernel_rfl) (by kernel_rfl) (calm_start W0) ?_
 repeat (first | go_big_quiet_skip | (go_big_quiet_want; first | (refine calm_row 29 _ rfl _ rfl _ _ _ _ (calm_heap hA) Try.underlying29 rfl info30 ?_; (try simp only [Act.put]); (try simp only [List.setIfInBounds_toArray]); (try simp only [List.set_cons_succ]); (try simp only [List.set_cons_zero]); go_big_quiet_on) | (go_big_quiet_op; first | go_big_quiet_on | go_big_quiet_call (first | (go_at_call 22; exact calm_call (calm_below _) (cL.out _))))))
 refine wpQuiet_nil ?_
 intro w1 hI
 have hA1 := hkeep hI hA
 have hD1 := hkeep hI hD
 have hH1 := hkeep hI hH
 have hR1 := hkeep hI hR
 have hp1 := hp0.below hI
 have hB1 := bstep hB hB.size hI
 clear hcX hcD cA cD hA hD hH hR hp0 hB hI hW0s
 have fD := frozenAt hD1
 have cD := cells_at hD1
 have hset := hsetSame (i := 4) hD1 (.int .i64 (-n))
 rw [dc_setN] at hset
 replace hset := Lib.hid hset
 go_upto_region 46 with fail
 generalize hWs : World.setCell w1 _ _ = W2
 have hD : W2.heap[w.heap.size + 1]? = some (.cells (dc ⟨7, a, b, c, -n⟩) 40 (0, 0)) := by rw [← hWs]; exact hset.out
 have hA : W2.heap[w.heap.size]? = some (.cells (hc h (.slice a0 l.length cap0)) 29 (0, 0)) := by rw [← hWs]; exact hsetOther hA1 (by omega) _
 have hH : W2.heap[w.heap.size + 2]? = some (.cells (hc Hs.zero (.slice none 0 0)) 29 (0, 0)) := by rw [← hWs]; exact hsetOther hH1 (by omega) _
 have hR : W2.heap[w.heap.size + 3]? = some (.cells (rc 0 0 (.slice none 0 0)) 44 (0, 0)) := by rw [← hWs]; exact hsetOther hR1 (by omega) _
 have hB : Below w.heap.size w W2 := by rw [← hWs]; exact hB1.setCell (by show w.heap.size ≤ w.heap.size + 1; omega) _
 have hp0 : PaysAt W2 a0 cap0 l := by rw [← hWs]; exact pay_set hp1 _ _ _ (fun hl b off s e => by have := hpl.out hl b off s e; omega)
 clear hWs hset fD cD hA1 hD1 hH1 hR1 hB1 hp1
 have hcI : ∀ w', Below W2.heap.size W2 w' → w'.cell? ⟨w.heap.size + 1, 1, none⟩ = some (.int .i64 a) ∧ w'.cell? ⟨w.heap.size + 1, 4, none⟩ = some (.int .i64 (-n)) ∧ w'.cell? ⟨w.heap.size, a.toNat * 2, none⟩ = some (.int .i64 (h.has a)) := fun w' hb =>
  have h1 := cells_at (hkeep hb hD)
  ⟨h1 1, h1 4, (cells_at (hkeep hb hA) _).trans (hc_has _ _ _ q0 q2)⟩
 replace hcI := Lib.hid hcI
 refine wpG_start (Below W2.heap.size W2) 12 (by kernel_rfl) ?_
 have hI0 : Below W2.heap.size W2 W2.drew := (Below.refl _ _).drew
 refine wpG_put 244 (i := 0) (oi := _) (v := (.pointer (some ⟨w.heap.size + 1, 1, none⟩))) [0] rfl rfl (by kernel_rfl) (by kernel_rfl) (by kernel_rfl) (by kernel_rfl) (fun _ _ _ h => h) hI0 ?hy0 ?rs0
 case hy0 => exact Or.inl ⟨by rfl, by intro w' hb; obtain ⟨c1, c2, c3⟩ := hcI.out w' hb; go_simp; first | done | exact IntWalk.i64_in _ (by omega)⟩
 (try simp only [Act.put, List.setIfInBounds_toArray, List.set_cons_succ, List.set_cons_zero])
 refine wpG_put 245 (i := 1) (oi := _) (v := (.int .i64 a)) [1] rfl rfl (by kernel_rfl) (by kernel_rfl) (by kernel_rfl) (by kernel_rfl) (fun _ _ _ h => h) hI0 ?hy1 ?rs1
 case hy1 => exact Or.inl ⟨by rfl, by intro w' hb; obtain ⟨c1, c2, c3⟩ := hcI.out w' hb; go_simp; first | done | exact IntWalk.i64_in _ (by omega)⟩
 (try simp only [Act.put, List.setIfInBounds_toArray, List.set_cons_succ, List.set_cons_zero])
 refine wpG_put 246 (i := 2) (oi := _) (v := (.pointer (some ⟨w.heap.size, 0, none⟩))) [5, 4, 3, 2] rfl rfl (by kernel_rfl) (by kernel_rfl) (by kernel_rfl) (by kernel_rfl) (fun _ _ _ h => h) hI0 ?hy2 ?rs2
 case hy2 => exact Or.inl ⟨by rfl, by intro w' hb; obtain ⟨c1, c2, c3⟩ := hcI.out w' hb; go_simp; first | done | exact IntWalk.i64_in _ (by omega)⟩
 (try simp only [Act.put, List.setIfInBounds_toArray, List.set_cons_succ, List.set_cons_zero])
 refine wpG_put 247 (i := 3) (oi := _) (v := (.pointer (some ⟨w.heap.size, a.toNat * 2, none⟩))) [5, 4, 3] rfl rfl (by kernel_rfl) (by kernel_rfl) (by kernel_rfl) (by kernel_rfl) (fun _ _ _ h => h) hI0 ?hy3 ?rs3
 case hy3 => exact Or.inl ⟨by rfl, by intro w' hb; obtain ⟨c1, c2, c3⟩ := hcI.out w' hb; go_simp; first | done | exact IntWalk.i64_in _ (by omega)⟩
 (try simp only [Act.put, List.setIfInBounds_toArray, List.set_cons_succ, List.set_cons_zero])
 refine wpG_put 248 (i := 4) (oi := _) (v := (.pointer (some ⟨w.heap.size, a.toNat * 2, none⟩))) [5, 4] rfl rfl (by kernel_rfl) (by kernel_rfl) (by kernel_rfl) (by kernel_rfl) (fun _ _ _ h => h) hI0 ?hy4 ?rs4
 case hy4 => exact Or.inl ⟨by rfl, by intro w' hb; obtain ⟨c1, c2, c3⟩ := hcI.out w' hb; go_simp; first | done | exact IntWalk.i64_in _ (by omega)⟩
 (try simp only [Act.put, List.setIfInBounds_toArray, List.set_cons_succ, List.set_cons_zero])
 refine wpG_put 249 (i := 5) (oi := _) (v := (.int .i64 (h.has a))) [5] rfl rfl (by kernel_rfl) (by kernel_rfl) (by kernel_rfl) (by kernel_rfl) (fun _ _ _ h => h) hI0 ?hy5 ?rs5
 case hy5 => exact Or.inl ⟨by rfl, by intro w' hb; obtain ⟨c1, c2, c3⟩ := hcI.out w' hb; go_simp; first | done | exact IntWalk.i64_in _ (by omega)⟩
 (try simp only [Act.put, List.setIfInBounds_toArray, List.set_cons_succ, List.set_cons_zero])
 refine wpG_put 250 (i := 6) (oi := _) (v := (.pointer (some ⟨w.heap.size + 1, 4, none⟩))) [6] rfl rfl (by kernel_rfl) (by kernel_rfl) (by kernel_rfl) (by kernel_rfl) (fun _ _ _ h => h) hI0 ?hy6 ?rs6
 case hy6 => exact Or.inl ⟨by rfl, by intro w' hb; obtain ⟨c1, c2, c3⟩ := hcI.out w' hb; go_simp; first | done | exact IntWalk.i64_in _ (by omega)⟩
 (try simp only [Act.put, List.setIfInBounds_toArray, List.set_cons_succ, List.set_cons_zero])
 refine wpG_put 251 (i := 7) (oi := _) (v := (.int .i64 (-n))) [7] rfl rfl (by kernel_rfl) (by kernel_rfl) (by kernel_rfl) (by kernel_rfl) (fun _ _ _ h => h) hI0 ?hy7 ?rs7
 case hy7 => exact Or.inl ⟨by rfl, by intro w' hb; obtain ⟨c1, c2, c3⟩ := hcI.out w' hb; go_simp; first | done | exact IntWalk.i64_in _ (by omega)⟩
 (try simp only [Act.put, List.setIfInBounds_toArray, List.set_cons_succ, List.set_cons_zero])
 refine wpG_put 252 (i := 8) (oi := _) (v := (.int .i64 (h.has a + -n))) [8] rfl rfl (by kernel_rfl) (by kernel_rfl) (by kernel_rfl) (by kernel_rfl) (fun _ _ _ h => h) hI0 ?hy8 ?rs8
 case hy8 => exact Or.inl ⟨by rfl, by intro w' hb; obtain ⟨c1, c2, c3⟩ := hcI.out w' hb; go_simp; first | done | exact IntWalk.i64_in _ (by omega)⟩
 (try simp only [Act.put, List.setIfInBounds_toArray, List.set_cons_succ, List.set_cons_zero])
 refine wpG_put 253 (i := 9) (oi := _) (v := (.pointer (some ⟨w.heap.size, 0, none⟩))) [11, 10, 9] rfl rfl (by kernel_rfl) (by kernel_rfl) (by kernel_rfl) (by kernel_rfl) (fun _ _ _ h => h) hI0 ?hy9 ?rs9
 case hy9 => exact Or.inl ⟨by rfl, by intro w' hb; obtain ⟨c1, c2, c3⟩ := hcI.out w' hb; go_simp; first | done | exact IntWalk.i64_in _ (by omega)⟩
 (try simp only [Act.put, List.setIfInBounds_toArray, List.set_cons_succ, List.set_cons_zero])
 refine wpG_put 254 (i := 10) (oi := _) (v := (.pointer (some ⟨w.heap.size, a.toNat * 2, none⟩))) [11, 10] rfl rfl (by kernel_rfl) (by kernel_rfl) (by kernel_rfl) (by kernel_rfl) (fun _ _ _ h => h) hI0 ?hy10 ?rs10
 case hy10 => exact Or.inl ⟨by rfl, by intro w' hb; obtain ⟨c1, c2, c3⟩ := hcI.out w' hb; go_simp; first | done | exact IntWalk.i64_in _ (by omega)⟩
 (try simp only [Act.put, List.setIfInBounds_toArray, List.set_cons_succ, List.set_cons_zero])
 refine wpG_put 255 (i := 11) (oi := _) (v := (.pointer (some ⟨w.heap.size, a.toNat * 2, none⟩))) [11] rfl rfl (by kernel_rfl) (by kernel_rfl) (by kernel_rfl) (by kernel_rfl) (fun _ _ _ h => h) hI0 ?hy11 ?rs11
 case hy11 => exact Or.inl ⟨by rfl, by intro w' hb; obtain ⟨c1, c2, c3⟩ := hcI.out w' hb; go_simp; first | done | exact IntWalk.i64_in _ (by omega)⟩
 (try simp only [Act.put, List.setIfInBounds_toArray, List.set_cons_succ, List.set_cons_zero])
 refine wpG_drop 12 rfl (by kernel_rfl) ?_
 simp only [List.drop_succ_cons, List.drop_zero]
 have hA9 := hkeep hI0 hA
 have fA := frozenAt hA9
 have cX : W2.drew.cell? ⟨w.heap.size, a.toNat * 2, none⟩ = some (.int .i64 (h.has a)) := (hcI.out _ hI0).2.2
 have hset := hsetSame (i := a.toNat * 2) hA (.int .i64 (h.has a + -n))
 rw [hc_setHas _ _ _ _ q0 q2] at hset
 replace hset := Lib.hid hset
 go_upto_region 60 with fail
 generalize hWs : World.drew (World.setCell W2 _ _) = Ws
 have hA2 : Ws.heap[w.heap.size]? = some (.cells (hc (h.setHas a (h.has a + -n)) (.slice a0 l.length cap0)) 29 (0, 0)) := by rw [← hWs]; exact hset.out
 have hH2 : Ws.heap[w.heap.size + 2]? = some (.cells (hc Hs.zero (.slice none 0 0)) 29 (0, 0)) := by rw [← hWs]; exact hsetOther hH (by omega) _
 have hR2 : Ws.heap[w.heap.size + 3]? = some (.cells (rc 0 0 (.slice none 0 0)) 44 (0, 0)) := by rw [← hWs]; exact hsetOther hR (by omega) _
 have hB2 : Below w.heap.size w Ws := by rw [← hWs]; exact (hB.setCell (by show w.heap.size ≤ w.heap.size; exact Nat.le_refl _) _).drew
 have hp2 : PaysAt Ws a0 cap0 l := by rw [← hWs]; exact (pay_set hp0 _ _ _ (fun hl b off s e => by have := hpl.out hl b off s e; omega)).below (Below.refl _ _).drew
 clear hWs hset fA hA hD hH hR hB hp0 hA9 cX
 go_wp2_with (first | go_skip | (refine ld_row 29 _ rfl rfl _ rfl _ _ _ _ hA2 Try.underlying29 rfl info30 ?_) | (refine st_row 29 _ _ rfl rfl _ rfl _ rfl _ _ hH2 info30 rfl (hc_one _ _ rfl) ?_; intro wa hra hgra hsza) | (refine st_row 44 _ _ rfl rfl _ rfl (rc 0 0 (.slice none 0 0)) rfl _ _ ((hgra.block _ (hlt hR2) (by simp)).trans hR2) infoRp rfl (rc_one _ _ _ rfl) ?_; intro wb hrb hgrb hszb))
 exact bodyPost_ret (results_hr rfl _ _ _ _ _ _ _ _ _ rfl rfl ((hgrb.block _ (hlt hra) (by simp)).trans hra) hrb) rfl (next_end (X := ⟨h.setHas a (h.has a + -n), l, 0, 0, []⟩) rfl (only_new hB2) (hlt hR2) hgra hgrb hp2 (fun hl b off s e => ⟨.inl (by rw [e]; rfl), by have := hpl.out hl b off s e; omega, by have := hpl.out hl b off s e; omega, by simp [Value.ownBlock]⟩) (OwnInts.nil _ _) (fun x hx => by simp [Value.ownBlock] at hx))
end Go.Proofs.Ytggfdkkhlokmlab


