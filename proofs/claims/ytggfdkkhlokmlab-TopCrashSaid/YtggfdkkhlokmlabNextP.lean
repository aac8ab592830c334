/- bank.next: a payment; bank.next whole. -/
import Derived.Test.YtggfdkkhlokmlabNextD
import Derived.Test.YtggfdkkhlokmlabNextE
set_option linter.unusedSimpArgs false
namespace Go.Proofs.Ytggfdkkhlokmlab
open Go.RowKit
attribute [local go_sem] hc_pays hc_next hc_size rc_0 rc_1 rc_2 rc_size dc_0 dc_1 dc_2 dc_3 dc_4 dc_size pc_0 pc_1 pc_2 pc_3 pc_4 pc_5 pc_size
set_option maxRecDepth 100000 in
set_option maxHeartbeats 4000000 in
theorem next_pay_no1 (h : Hs) (l : List Pay) (v0 : Value) (a b c n : Int) (w : World) (hown : OwnPays w 0 v0 l) (g : GoodP h l) (e1 : goodPay ⟨a, b, n, c, 1, h.next⟩ = false) :
  Calls Try.prog 61 #[.agg (hc h v0), .agg (dc ⟨1, a, b, c, n⟩)] w (NextPost v0 (.err h l 3) w) := by
 obtain ⟨p, hpe⟩ : ∃ p : Pay, (⟨a, b, n, c, 1, h.next⟩ : Pay) = p := ⟨_, rfl⟩
 have hpc : #[Value.int .i64 a, .int .i64 b, .int .i64 n, .int .i64 c, .int .i64 1, .int .i64 h.next] = pc p := by rw [← hpe]; rfl
 rw [hpe] at e1
 have cG := fun w => goodPay_any p w
 rw [e1] at cG
 replace cG := Lib.hid cG
 replace e1 := Lib.hid e1
 replace hpc := Lib.hid hpc
 replace hpe := Lib.hid hpe
 obtain ⟨a0, cap0, rfl, hp, hpb⟩ := hown.at_
 have hpl : 0 < l.length → ∀ b off s, a0 = some ⟨b, off, s⟩ → b < w.heap.size := fun hl b off s e => by
  obtain ⟨b', off', e', hbl, _⟩ := hp.row hl
  rw [e] at e'; cases e'; exact hbl
 have hlen := g.len
 have hroom := g.room
 replace hp := Lib.hid hp
 replace hpb := Lib.hid hpb
 replace hpl := Lib.hid hpl
 replace hown := Lib.hid hown
 go_enter Try.func61, Try.ntmps61
 go_upto_region 1 with fail
 generalize hW : World.alloc (World.alloc (World.alloc (World.alloc w _) _) _) _ = W0
 obtain ⟨hA, hD, hH, hR, hB⟩ : W0.heap[w.heap.size]? = some (.cells (hc h (.slice a0 l.length cap0)) 29 (0, 0)) ∧ W0.heap[w.heap.size + 1]? = some (.cells (dc ⟨1, a, b, c, n⟩) 40 (0, 0)) ∧ W0.heap[w.heap.size + 2]? = some (.cells (hc Hs.zero (.slice none 0 0)) 29 (0, 0)) ∧ W0.heap[w.heap.size + 3]? = some (.cells (rc 0 0 (.slice none 0 0)) 44 (0, 0)) ∧ Below w.heap.size w W0 := by rw [← hW]; exact four4 w _ _ _ _
 have hp0 := hp.out.below hB
 have cA := cells_at hA
 have cD := cells_at hD
 clear hW
 have hA1 := hold hA (.cells (pc p) 70)
 have hH1 := hold hH (.cells (pc p) 70)
 have hR1 := hold hR (.cells (pc p) 70)
 have hP1 := hnew W0 (.cells (pc p) 70)
 have hB1 := hB.alloc hB.size (.cells (pc p) 70)
 have hp1 := hp0.alloc (.cells (pc p) 70)
 have hR0 := hlt hR
 clear hA hH hR hB hp0
 replace hA1 := Lib.hid hA1
 replace hH1 := Lib.hid hH1
 replace hR1 := Lib.hid hR1
 replace hP1 := Lib.hid hP1
 go_upto_region 6 with (first | go_skip | (refine st_new 70 _ _ rfl _ 70 _ rfl rfl rfl (pc p) (by rw [← hpc.out]; rfl) info36 rfl (pc_one p) ?_))
 clear cA cD hD
 replace hA1 := hA1.out
 replace hH1 := hH1.out
 replace hR1 := hR1.out
 replace hP1 := hP1.out
 generalize hW1 : W0.alloc (.cells (pc p) 70) = W1 at *
 generalize hC0 : W0.heap.size = bp at *
 clear hW1 hC0
 go_wp2_with (first | go_skip | (refine ld_row 70 _ rfl rfl _ rfl _ _ _ _ hP1 Try.underlying70 rfl info36 ?_) | (go_at_call 44; refine (cG.out _).mono ?_; rintro e w1 ⟨rfl, hb1⟩; have cA1 := cells_at (hkeep hb1 hA1)) | (go_at_call 78; refine (nextNo_any h _ rfl 3 w.heap.size _ (hkeep hb1 hA1)).mono ?_; rintro e wn ⟨rfl, hbn⟩) | (refine st_row 29 _ _ rfl rfl _ rfl _ rfl _ _ (hkeep hbn (hkeep hb1 hH1)) info30 rfl (hc_one _ _ rfl) ?_; intro wa hra hgra hsza) | (refine st_row 44 _ _ rfl rfl _ rfl (rc 3 0 (.slice none 0 0)) rfl _ _ ((hgra.block _ (hlt (hkeep hbn (hkeep hb1 hR1))) (by simp)).trans (hkeep hbn (hkeep hb1 hR1))) infoRp rfl (rc_one _ _ _ rfl) ?_; intro wb hrb hgrb hszb))
 have hB2 := bstep hB1 hB1.size hb1
 have hp2 := hp1.below hb1
 have hR2 := hkeep hb1 hR1
 have hBn := bstep hB2 hB2.size hbn
 have hzn := Nat.le_trans (hlt hR2) hbn.size
 exact bodyPost_ret (results_hr rfl _ _ _ _ _ _ _ _ _ rfl rfl ((hgrb.block _ (hlt hra) (by simp)).trans hra) hrb) rfl (next_end (X := .err h l 3) rfl (only_new hBn) hzn hgra hgrb ((hp2).below hbn) (fun hl b off s e => ⟨.inl (by rw [e]; rfl), by have := hpl.out hl b off s e; omega, by have := hpl.out hl b off s e; omega, by simp [Value.ownBlock]⟩) (OwnInts.nil _ _) (fun x hx => by simp [Value.ownBlock] at hx))
set_option maxRecDepth 100000 in
set_option maxHeartbeats 4000000 in
theorem next_pay_no2 (h : Hs) (l : List Pay) (v0 : Value) (a b c n : Int) (w : World) (hown : OwnPays w 0 v0 l) (g : GoodP h l) (e1 : goodPay ⟨a, b, n, c, 1, h.next⟩ = true) (e2 : 24 ≤ l.length) :
  Calls Try.prog 61 #[.agg (hc h v0), .agg (dc ⟨1, a, b, c, n⟩)] w (NextPost v0 (.err h l 5) w) := by
 obtain ⟨p, hpe⟩ : ∃ p : Pay, (⟨a, b, n, c, 1, h.next⟩ : Pay) = p := ⟨_, rfl⟩
 have hpc : #[Value.int .i64 a, .int .i64 b, .int .i64 n, .int .i64 c, .int .i64 1, .int .i64 h.next] = pc p := by rw [← hpe]; rfl
 rw [hpe] at e1
 have cG := fun w => goodPay_any p w
 rw [e1] at cG
 replace cG := Lib.hid cG
 replace e1 := Lib.hid e1
 replace hpc := Lib.hid hpc
 replace hpe := Lib.hid hpe
 obtain ⟨a0, cap0, rfl, hp, hpb⟩ := hown.at_
 have hpl : 0 < l.length → ∀ b off s, a0 = some ⟨b, off, s⟩ → b < w.heap.size := fun hl b off s e => by
  obtain ⟨b', off', e', hbl, _⟩ := hp.row hl
  rw [e] at e'; cases e'; exact hbl
 have hlen := g.len
 have hroom := g.room
 replace hp := Lib.hid hp
 replace hpb := Lib.hid hpb
 replace hpl := Lib.hid hpl
 replace hown := Lib.hid hown
 go_enter Try.func61, Try.ntmps61
 go_upto_region 1 with fail
 generalize hW : World.alloc (World.alloc (World.alloc (World.alloc w _) _) _) _ = W0
 obtain ⟨hA, hD, hH, hR, hB⟩ : W0.heap[w.heap.size]? = some (.cells (hc h (.slice a0 l.length cap0)) 29 (0, 0)) ∧ W0.heap[w.heap.size + 1]? = some (.cells (dc ⟨1, a, b, c, n⟩) 40 (0, 0)) ∧ W0.heap[w.heap.size + 2]? = some (.cells (hc Hs.zero (.slice none 0 0)) 29 (0, 0)) ∧ W0.heap[w.heap.size + 3]? = some (.cells (rc 0 0 (.slice none 0 0)) 44 (0, 0)) ∧ Below w.heap.size w W0 := by rw [← hW]; exact four4 w _ _ _ _
 have hp0 := hp.out.below hB
 have cA := cells_at hA
 have cD := cells_at hD
 clear hW
 have hA1 := hold hA (.cells (pc p) 70)
 have hH1 := hold hH (.cells (pc p) 70)
 have hR1 := hold hR (.cells (pc p) 70)
 have hP1 := hnew W0 (.cells (pc p) 70)
 have hB1 := hB.alloc hB.size (.cells (pc p) 70)
 have hp1 := hp0.alloc (.cells (pc p) 70)
 have hR0 := hlt hR
 clear hA hH hR hB hp0
 replace hA1 := Lib.hid hA1
 replace hH1 := Lib.hid hH1
 replace hR1 := Lib.hid hR1
 replace hP1 := Lib.hid hP1
 go_upto_region 6 with (first | go_skip | (refine st_new 70 _ _ rfl _ 70 _ rfl rfl rfl (pc p) (by rw [← hpc.out]; rfl) info36 rfl (pc_one p) ?_))
 clear cA cD hD
 replace hA1 := hA1.out
 replace hH1 := hH1.out
 replace hR1 := hR1.out
 replace hP1 := hP1.out
 generalize hW1 : W0.alloc (.cells (pc p) 70) = W1 at *
 generalize hC0 : W0.heap.size = bp at *
 clear hW1 hC0
 have e2i : (24 : Int) ≤ (l.length : Int) := by omega
 have e2d : decide ((24 : Int) ≤ (l.length : Int)) = true := decide_eq_true e2i
 go_wp2_with (first | go_skip | (refine ld_row 70 _ rfl rfl _ rfl _ _ _ _ hP1 Try.underlying70 rfl info36 ?_) | (go_at_call 44; refine (cG.out _).mono ?_; rintro e w1 ⟨rfl, hb1⟩; have cA1 := cells_at (hkeep hb1 hA1)) | (go_at_call 78; refine (nextNo_any h _ rfl 5 w.heap.size _ (hkeep hb1 hA1)).mono ?_; rintro e wn ⟨rfl, hbn⟩) | (refine st_row 29 _ _ rfl rfl _ rfl _ rfl _ _ (hkeep hbn (hkeep hb1 hH1)) info30 rfl (hc_one _ _ rfl) ?_; intro wa hra hgra hsza) | (refine st_row 44 _ _ rfl rfl _ rfl (rc 5 0 (.slice none 0 0)) rfl _ _ ((hgra.block _ (hlt (hkeep hbn (hkeep hb1 hR1))) (by simp)).trans (hkeep hbn (hkeep hb1 hR1))) infoRp rfl (rc_one _ _ _ rfl) ?_; intro wb hrb hgrb hszb))
 have hB2 := bstep hB1 hB1.size hb1
 have hp2 := hp1.below hb1
 have hR2 := hkeep hb1 hR1
 have hBn := bstep hB2 hB2.size hbn
 have hzn := Nat.le_trans (hlt hR2) hbn.size
 exact bodyPost_ret (results_hr rfl _ _ _ _ _ _ _ _ _ rfl rfl ((hgrb.block _ (hlt hra) (by simp)).trans hra) hrb) rfl (next_end (X := .err h l 5) rfl (only_new hBn) hzn hgra hgrb ((hp2).below hbn) (fun hl b off s e => ⟨.inl (by rw [e]; rfl), by have := hpl.out hl b off s e; omega, by have := hpl.out hl b off s e; omega, by simp [Value.ownBlock]⟩) (OwnInts.nil _ _) (fun x hx => by simp [Value.ownBlock] at hx))
set_option maxRecDepth 100000 in
set_option maxHeartbeats 4000000 in
theorem next_pay_no3 (h : Hs) (l : List Pay) (v0 : Value) (a b c n : Int) (w : World) (hown : OwnPays w 0 v0 l) (g : GoodP h l) (e1 : goodPay ⟨a, b, n, c, 1, h.next⟩ = true) (e2 : l.length < 24) (e3 : 1048576 ≤ h.next) :
  Calls Try.prog 61 #[.agg (hc h v0), .agg (dc ⟨1, a, b, c, n⟩)] w (NextPost v0 (.err h l 5) w) := by
 obtain ⟨p, hpe⟩ : ∃ p : Pay, (⟨a, b, n, c, 1, h.next⟩ : Pay) = p := ⟨_, rfl⟩
 have hpc : #[Value.int .i64 a, .int .i64 b, .int .i64 n, .int .i64 c, .int .i64 1, .int .i64 h.next] = pc p := by rw [← hpe]; rfl
 rw [hpe] at e1
 have cG := fun w => goodPay_any p w
 rw [e1] at cG
 replace cG := Lib.hid cG
 replace e1 := Lib.hid e1
 replace hpc := Lib.hid hpc
 replace hpe := Lib.hid hpe
 obtain ⟨a0, cap0, rfl, hp, hpb⟩ := hown.at_
 have hpl : 0 < l.length → ∀ b off s, a0 = some ⟨b, off, s⟩ → b < w.heap.size := fun hl b off s e => by
  obtain ⟨b', off', e', hbl, _⟩ := hp.row hl
  rw [e] at e'; cases e'; exact hbl
 have hlen := g.len
 have hroom := g.room
 replace hp := Lib.hid hp
 replace hpb := Lib.hid hpb
 replace hpl := Lib.hid hpl
 replace hown := Lib.hid hown
 go_enter Try.func61, Try.ntmps61
 go_upto_region 1 with fail
 generalize hW : World.alloc (World.alloc (World.alloc (World.alloc w _) _) _) _ = W0
 obtain ⟨hA, hD, hH, hR, hB⟩ : W0.heap[w.heap.size]? = some (.cells (hc h (.slice a0 l.length cap0)) 29 (0, 0)) ∧ W0.heap[w.heap.size + 1]? = some (.cells (dc ⟨1, a, b, c, n⟩) 40 (0, 0)) ∧ W0.heap[w.heap.size + 2]? = some (.cells (hc Hs.zero (.slice none 0 0)) 29 (0, 0)) ∧ W0.heap[w.heap.size + 3]? = some (.cells (rc 0 0 (.slice none 0 0)) 44 (0, 0)) ∧ Below w.heap.size w W0 := by rw [← hW]; exact four4 w _ _ _ _
 have hp0 := hp.out.below hB
 have cA := cells_at hA
 have cD := cells_at hD
 clear hW
 have hA1 := hold hA (.cells (pc p) 70)
 have hH1 := hold hH (.cells (pc p) 70)
 have hR1 := hold hR (.cells (pc p) 70)
 have hP1 := hnew W0 (.cells (pc p) 70)
 have hB1 := hB.alloc hB.size (.cells (pc p) 70)
 have hp1 := hp0.alloc (.cells (pc p) 70)
 have hR0 := hlt hR
 clear hA hH hR hB hp0
 replace hA1 := Lib.hid hA1
 replace hH1 := Lib.hid hH1
 replace hR1 := Lib.hid hR1
 replace hP1 := Lib.hid hP1
 go_upto_region 6 with (first | go_skip | (refine st_new 70 _ _ rfl _ 70 _ rfl rfl rfl (pc p) (by rw [← hpc.out]; rfl) info36 rfl (pc_one p) ?_))
 clear cA cD hD
 replace hA1 := hA1.out
 replace hH1 := hH1.out
 replace hR1 := hR1.out
 replace hP1 := hP1.out
 generalize hW1 : W0.alloc (.cells (pc p) 70) = W1 at *
 generalize hC0 : W0.heap.size = bp at *
 clear hW1 hC0
 have e2i : ¬ (24 : Int) ≤ (l.length : Int) := by omega
 have e2d : decide ((24 : Int) ≤ (l.length : Int)) = false := decide_eq_false e2i
 go_wp2_with (first | go_skip | (refine ld_row 70 _ rfl rfl _ rfl _ _ _ _ hP1 Try.underlying70 rfl info36 ?_) | (go_at_call 44; refine (cG.out _).mono ?_; rintro e w1 ⟨rfl, hb1⟩; have cA1 := cells_at (hkeep hb1 hA1)) | (go_at_call 78; refine (nextNo_any h _ rfl 5 w.heap.size _ (hkeep hb1 hA1)).mono ?_; rintro e wn ⟨rfl, hbn⟩) | (refine st_row 29 _ _ rfl rfl _ rfl _ rfl _ _ (hkeep hbn (hkeep hb1 hH1)) info30 rfl (hc_one _ _ rfl) ?_; intro wa hra hgra hsza) | (refine st_row 44 _ _ rfl rfl _ rfl (rc 5 0 (.slice none 0 0)) rfl _ _ ((hgra.block _ (hlt (hkeep hbn (hkeep hb1 hR1))) (by simp)).trans (hkeep hbn (hkeep hb1 hR1))) infoRp rfl (rc_one _ _ _ rfl) ?_; intro wb hrb hgrb hszb))
 have hB2 := bstep hB1 hB1.size hb1
 have hp2 := hp1.below hb1
 have hR2 := hkeep hb1 hR1
 have hBn := bstep hB2 hB2.size hbn
 have hzn := Nat.le_trans (hlt hR2) hbn.size
 exact bodyPost_ret (results_hr rfl _ _ _ _ _ _ _ _ _ rfl rfl ((hgrb.block _ (hlt hra) (by simp)).trans hra) hrb) rfl (next_end (X := .err h l 5) rfl (only_new hBn) hzn hgra hgrb ((hp2).below hbn) (fun hl b off s e => ⟨.inl (by rw [e]; rfl), by have := hpl.out hl b off s e; omega, by have := hpl.out hl b off s e; omega, by simp [Value.ownBlock]⟩) (OwnInts.nil _ _) (fun x hx => by simp [Value.ownBlock] at hx))
set_option maxRecDepth 100000 in
set_option maxHeartbeats 4000000 in
theorem next_pay_yes (h : Hs) (l : List Pay) (v0 : Value) (a b c n : Int) (w : World) (hown : OwnPays w 0 v0 l) (g : GoodP h l) (e1 : goodPay ⟨a, b, n, c, 1, h.next⟩ = true) (e2 : l.length < 24) (e3 : h.next < 1048576) :
  Calls Try.prog 61 #[.agg (hc h v0), .agg (dc ⟨1, a, b, c, n⟩)] w (NextPost v0 (⟨h.setNext (h.next + 1), l ++ [⟨a, b, n, c, 1, h.next⟩], 0, l.length, []⟩) w) := by
 obtain ⟨i0, z, hi, hz0, hz1, hz2, hz3⟩ := info36z
 have hn0 := (sm_true g.next).1
 obtain ⟨p, hpe⟩ : ∃ p : Pay, (⟨a, b, n, c, 1, h.next⟩ : Pay) = p := ⟨_, rfl⟩
 have hpc : #[Value.int .i64 a, .int .i64 b, .int .i64 n, .int .i64 c, .int .i64 1, .int .i64 h.next] = pc p := by rw [← hpe]; rfl
 rw [hpe] at e1 ⊢
 have cG := fun w => goodPay_any p w
 rw [e1] at cG
 replace cG := Lib.hid cG
 replace e1 := Lib.hid e1
 replace hpc := Lib.hid hpc
 replace hpe := Lib.hid hpe
 obtain ⟨a0, cap0, rfl, hp, hpb⟩ := hown.at_
 have hpl : 0 < l.length → ∀ b off s, a0 = some ⟨b, off, s⟩ → b < w.heap.size := fun hl b off s e => by
  obtain ⟨b', off', e', hbl, _⟩ := hp.row hl
  rw [e] at e'; cases e'; exact hbl
 have hlen := g.len
 have hroom := g.room
 replace hp := Lib.hid hp
 replace hpb := Lib.hid hpb
 replace hpl := Lib.hid hpl
 replace hown := Lib.hid hown
 go_enter Try.func61, Try.ntmps61
 go_upto_region 1 with fail
 generalize hW : World.alloc (World.alloc (World.alloc (World.alloc w _) _) _) _ = W0
 obtain ⟨hA, hD, hH, hR, hB⟩ : W0.heap[w.heap.size]? = some (.cells (hc h (.slice a0 l.length cap0)) 29 (0, 0)) ∧ W0.heap[w.heap.size + 1]? = some (.cells (dc ⟨1, a, b, c, n⟩) 40 (0, 0)) ∧ W0.heap[w.heap.size + 2]? = some (.cells (hc Hs.zero (.slice none 0 0)) 29 (0, 0)) ∧ W0.heap[w.heap.size + 3]? = some (.cells (rc 0 0 (.slice none 0 0)) 44 (0, 0)) ∧ Below w.heap.size w W0 := by rw [← hW]; exact four4 w _ _ _ _
 have hp0 := hp.out.below hB
 have cA := cells_at hA
 have cD := cells_at hD
 clear hW
 have hA1 := hold hA (.cells (pc p) 70)
 have hH1 := hold hH (.cells (pc p) 70)
 have hR1 := hold hR (.cells (pc p) 70)
 have hP1 := hnew W0 (.cells (pc p) 70)
 have hB1 := hB.alloc hB.size (.cells (pc p) 70)
 have hp1 := hp0.alloc (.cells (pc p) 70)
 have hR0 := hlt hR
 clear hA hH hR hB hp0
 replace hA1 := Lib.hid hA1
 replace hH1 := Lib.hid hH1
 replace hR1 := Lib.hid hR1
 replace hP1 := Lib.hid hP1
 go_upto_region 6 with (first | go_skip | (refine st_new 70 _ _ rfl _ 70 _ rfl rfl rfl (pc p) (by rw [← hpc.out]; rfl) info36 rfl (pc_one p) ?_))
 clear cA cD hD
 replace hA1 := hA1.out
 replace hH1 := hH1.out
 replace hR1 := hR1.out
 replace hP1 := hP1.out
 generalize hW1 : W0.alloc (.cells (pc p) 70) = W1 at *
 generalize hC0 : W0.heap.size = bp at *
 clear hW1 hC0
 have e2i : ¬ (24 : Int) ≤ (l.length : Int) := by omega
 have e2d : decide ((24 : Int) ≤ (l.length : Int)) = false := decide_eq_false e2i
 go_upto_region 10 with (first | go_skip | (refine ld_row 70 _ rfl rfl _ rfl _ _ _ _ hP1 Try.underlying70 rfl info36 ?_) | (go_at_call 44; refine (cG.out _).mono ?_; rintro e w1 ⟨rfl, hb1⟩; have cA1 := cells_at (hkeep hb1 hA1)))
 have hA2 := hkeep hb1 hA1
 have hH2 := hkeep hb1 hH1
 have hR2 := hkeep hb1 hR1
 have hP2 := hkeep hb1 hP1
 have hB2 := bstep hB1 hB1.size hb1
 have hws := (bstep hB1 hB1.size hb1).size
 have hw1 : W1.heap.size ≤ w1.heap.size := hb1.size
 have hO2 : OwnPays w1 0 (.slice a0 l.length cap0) l := hown.out.below (bstep hB1 hB1.size hb1)
 have hRl := hlt hR2
 clear hA1 hH1 hR1 hP1 hB1 hp1 hb1 cA1
 have cA := cells_at hA2
 have hO3 := hO2.below ((Below.refl _ _).alloc (Nat.le_refl _) (.cells (pc p) 70))
 have hBb := hB2.alloc (by omega) (.cells (pc p) 70)
 have hoa : ∀ x, (Value.slice a0 l.length cap0).ownBlock = some x → x < w.heap.size ∧ 0 ≤ x := fun x hx => by
  rcases hown.out.1.2 with ⟨e, _⟩ | ⟨g', cap', cur', e, hb', hg', _⟩
  ·rw [e] at hx; simp [Value.ownBlock] at hx
  ·rw [e] at hx; simp [Value.ownBlock] at hx; have := hlt hg'; omega
 replace hO3 := Lib.hid hO3
 replace hO2 := Lib.hid hO2
 replace hoa := Lib.hid hoa
 go_upto_region 11 with (first | go_skip | (refine ld_row 70 _ rfl rfl _ rfl _ _ _ _ hP2 Try.underlying70 rfl info36 ?_) | (at_builtin; refine wpList_append_fresh _ rfl _ _ 27 rfl 0 70 i0 z 6 48 Try.underlying27 hi hz0 hz1 hz2 hz3 (by decide) (.slice a0 l.length cap0) l.length (flat l) rfl hO3.out.1 ⟨w1.heap.size, 0, none⟩ 1 1 (pc p).toList rfl rfl ?c1 ?c2 ?c3 ?c4 ?c5 ?_))
 case c1 =>
  suffices hC : ∀ C, C = pc p → ∀ (j : Nat) (u : Value), (pc p).toList[j]? = some u → (w1.alloc (.cells C 70)).cell? ((⟨w1.heap.size, 0, none⟩ : Addr).add j) = some u from hC _ rfl
  intro C hC
  subst hC
  intro j u hu
  have hadd : (⟨w1.heap.size, 0, none⟩ : Addr).add j = ⟨w1.heap.size, 0 + j, none⟩ := by unfold Addr.add; split <;> simp_all
  rw [hadd, Nat.zero_add, cells_at (hnew w1 _)]
  simpa using hu
 case c2 => intro u hu; exact (Array.all_eq_true_iff_forall_mem.1 (pc_one p)) u (by simpa using hu)
 case c3 => simp only [maxLen]; omega
 case c4 => omega
 case c5 => rw [alloc_sz]; omega
 intro v' w2 hown2 hgr2 hfr
 have hgr : (w1.alloc (.cells (pc p) 70)).grownBy w2 (Value.slice a0 l.length cap0).ownBlock := hgr2
 have hL : (l ++ [p]).length = l.length + 1 := by simp
 have hO4 : OwnPays w2 0 v' (l ++ [p]) := ⟨by rw [hL, show flat (l ++ [p]) = flat l ++ (pc p).toList from by simp [flat]]; exact hown2, by rw [hL]; omega⟩
 obtain ⟨a1, cap1, e, hp3, hpb3⟩ := hO4.at_
 rw [hL] at e
 subst e
 have hA3 := (hgr.block w.heap.size (by rw [alloc_sz]; omega) (fun e => by have := hoa.out _ e.symm; omega)).trans (hold hA2 (.cells (pc p) 70))
 have hH3 := (hgr.block (w.heap.size + 2) (by rw [alloc_sz]; omega) (fun e => by have := hoa.out _ e.symm; omega)).trans (hold hH2 (.cells (pc p) 70))
 have hR3 := (hgr.block (w.heap.size + 3) (by rw [alloc_sz]; omega) (fun e => by have := hoa.out _ e.symm; omega)).trans (hold hR2 (.cells (pc p) 70))
 have hB3 := (only_new (av := fun b => (Value.slice a0 l.length cap0).ownBlock = some b) hBb).step (only_grown hgr) fun b e => .inl e
 have hpb4 : 0 < (l ++ [p]).length → ∀ b off s, a1 = some ⟨b, off, s⟩ → ((Value.slice a0 l.length cap0).ownBlock = some b ∨ w.heap.size ≤ b) ∧ b ≠ w.heap.size + 2 ∧ b ≠ w.heap.size + 3 ∧ b ≠ w.heap.size := fun hl b off s e => by
  rcases hown2.2 with ⟨e', _⟩ | ⟨g', cap', cur', e', hb', hg', _⟩
  ·simp at e'
  ·have hb3 : (Value.slice a0 l.length cap0).ownBlock = some b ∨ w.heap.size ≤ b := (hfr b (by rw [e]; rfl)).imp id fun h => by omega
   simp only [Value.slice.injEq] at e'
   rw [e'.1] at e
   simp only [Option.some.injEq, Addr.mk.injEq] at e
   obtain ⟨rfl, _, _⟩ := e
   refine ⟨hb3, fun e2 => ?_, fun e2 => ?_, fun e2 => ?_⟩ <;> subst e2
   ·rw [hH3] at hg'; injection Option.some.inj hg' with _ ht _; exact absurd ht (by decide)
   ·rw [hR3] at hg'; injection Option.some.inj hg' with _ ht _; exact absurd ht (by decide)
   ·rw [hA3] at hg'; injection Option.some.inj hg' with _ ht _; exact absurd ht (by decide)
 clear hgr hgr2 hfr hown2 hO4 hO3 hO2 hA2 hH2 hR2 hP2 hB2 hBb cA hoa hpb3
 have cA := cells_at hA3
 have fA := frozenAt hA3
 have hset := hsetSame (i := 40) hA3 (.slice a1 (l.length + 1) cap1)
 rw [hc_setPays] at hset
 have hset2 := hsetSame (i := 41) hset (.int .i64 (h.next + 1))
 rw [hc_setNext] at hset2
 replace hset := Lib.hid hset
 replace hset2 := Lib.hid hset2
 replace hpb4 := Lib.hid hpb4
 replace hp3 := Lib.hid hp3
 replace hL := Lib.hid hL
 go_upto_region 11 with fail
 go_upto_region 12 with fail
 generalize hWs : World.setCell (World.setCell w2 _ _) _ _ = Ws
 have hA5 : Ws.heap[w.heap.size]? = some (.cells (hc (h.setNext (h.next + 1)) (.slice a1 (l.length + 1) cap1)) 29 (0, 0)) := by rw [← hWs]; exact hset2.out
 have hH5 : Ws.drew.heap[w.heap.size + 2]? = some (.cells (hc Hs.zero (.slice none 0 0)) 29 (0, 0)) := by rw [← hWs]; exact hsetOther (hsetOther hH3 (by omega) _) (by omega) _
 have hR5 : Ws.drew.heap[w.heap.size + 3]? = some (.cells (rc 0 0 (.slice none 0 0)) 44 (0, 0)) := by rw [← hWs]; exact hsetOther (hsetOther hR3 (by omega) _) (by omega) _
 have hB5 : Only (fun b => (Value.slice a0 l.length cap0).ownBlock = some b) w Ws.drew := by rw [← hWs]; exact ((hB3.step (only_set w.heap.size _ _ _) fun b e => .inr (by omega)).step (only_set w.heap.size _ _ _) fun b e => .inr (by omega)).drew
 have hp5 : PaysAt Ws.drew a1 cap1 (l ++ [p]) := by rw [← hWs]; exact (pay_set (pay_set hp3.out _ _ _ (fun hl b off s e => (hpb4.out hl b off s e).2.2.2)) _ _ _ (fun hl b off s e => (hpb4.out hl b off s e).2.2.2)).below (Below.refl _ _).drew
 clear hWs hset hset2 fA cA hA3 hH3 hR3 hB3 hp3
 have hcI : ∀ w' : World, (w'.heap[w.heap.size]? = some (.cells (hc (h.setNext (h.next + 1)) (.slice a1 (l.length + 1) cap1)) 29 (0, 0))) → w'.cell? ⟨w.heap.size, 40, none⟩ = some (.slice a1 (l.length + 1) cap1) := fun w' hb => cells_at hb 40
 replace hcI := Lib.hid hcI
 replace hp5 := Lib.hid hp5
 have hlI : (l.length : Int) ≤ 24 := by omega
 replace hlI := Lib.hid hlI
 refine wpG_start (fun w' : World => w'.heap[w.heap.size]? = some (.cells (hc (h.setNext (h.next + 1)) (.slice a1 (l.length + 1) cap1)) 29 (0, 0))) 7 (by kernel_rfl) ?_
 have hI0 : (fun w' : World => w'.heap[w.heap.size]? = some (.cells (hc (h.setNext (h.next + 1)) (.slice a1 (l.length + 1) cap1)) 29 (0, 0))) Ws.drew := hA5
 refine wpG_put 64 (i := 0) (oi := _) (v := (.agg (hc (h.setNext (h.next + 1)) (.slice a1 (l.length + 1) cap1)))) [0] rfl rfl (by kernel_rfl) (by kernel_rfl) (by kernel_rfl) (by kernel_rfl) (fun _ _ _ h => h) hI0 ?hy0 ?rs0
 case hy0 => exact yields_row 29 _ rfl rfl _ rfl _ _ _ _ (fun w' hb => hb) Try.underlying29 rfl info30
 (try simp only [Act.put, List.setIfInBounds_toArray, List.set_cons_succ, List.set_cons_zero])
 refine wpG_put 65 (i := 1) (oi := _) (v := (.pointer (some ⟨w.heap.size, 40, none⟩))) [1] rfl rfl (by kernel_rfl) (by kernel_rfl) (by kernel_rfl) (by kernel_rfl) (fun _ _ _ h => h) hI0 ?hy1 ?rs1
 case hy1 => exact Or.inl ⟨by rfl, by intro w' hb; have c1 := hcI.out w' hb; go_simp; first | done | rfl | (have hq := hlI.out; exact IntWalk.i64_in _ (by omega)) | (have hq := hlI.out; rw [IntWalk.i64_in _ (by omega)]) | (have hq := hlI.out; rw [IntWalk.i64_in _ (by omega)]; rfl)⟩
 (try simp only [Act.put, List.setIfInBounds_toArray, List.set_cons_succ, List.set_cons_zero])
 refine wpG_put 66 (i := 2) (oi := _) (v := (.slice a1 (l.length + 1) cap1)) [2] rfl rfl (by kernel_rfl) (by kernel_rfl) (by kernel_rfl) (by kernel_rfl) (fun _ _ _ h => h) hI0 ?hy2 ?rs2
 case hy2 => exact Or.inl ⟨by rfl, by intro w' hb; have c1 := hcI.out w' hb; go_simp; first | done | rfl | (have hq := hlI.out; exact IntWalk.i64_in _ (by omega)) | (have hq := hlI.out; rw [IntWalk.i64_in _ (by omega)]) | (have hq := hlI.out; rw [IntWalk.i64_in _ (by omega)]; rfl)⟩
 (try simp only [Act.put, List.setIfInBounds_toArray, List.set_cons_succ, List.set_cons_zero])
 refine wpG_put 67 (i := 3) (oi := _) (v := (.int .i64 ((l.length : Int) + 1))) [3] rfl rfl (by kernel_rfl) (by kernel_rfl) (by kernel_rfl) (by kernel_rfl) (fun _ _ _ h => h) hI0 ?hy3 ?rs3
 case hy3 => exact Or.inl ⟨by rfl, by intro w' hb; have c1 := hcI.out w' hb; go_simp; first | done | rfl | (have hq := hlI.out; exact IntWalk.i64_in _ (by omega)) | (have hq := hlI.out; rw [IntWalk.i64_in _ (by omega)]) | (have hq := hlI.out; rw [IntWalk.i64_in _ (by omega)]; rfl)⟩
 (try simp only [Act.put, List.setIfInBounds_toArray, List.set_cons_succ, List.set_cons_zero])
 refine wpG_put 68 (i := 4) (oi := _) (v := (.int .i64 (l.length : Int))) [4] rfl rfl (by kernel_rfl) (by kernel_rfl) (by kernel_rfl) (by kernel_rfl) (fun _ _ _ h => h) hI0 ?hy4 ?rs4
 case hy4 => exact Or.inl ⟨by rfl, by intro w' hb; have c1 := hcI.out w' hb; go_simp; first | done | rfl | (have hq := hlI.out; exact IntWalk.i64_in _ (by omega)) | (have hq := hlI.out; rw [IntWalk.i64_in _ (by omega)]) | (have hq := hlI.out; rw [IntWalk.i64_in _ (by omega)]; rfl)⟩
 (try simp only [Act.put, List.setIfInBounds_toArray, List.set_cons_succ, List.set_cons_zero])
 refine wpG_put 69 (i := 5) (oi := _) (v := (.agg (rc 0 (l.length : Int) (.slice none 0 0)))) [5] rfl rfl (by kernel_rfl) (by kernel_rfl) (by kernel_rfl) (by kernel_rfl) (fun _ _ _ h => h) hI0 ?hy5 ?rs5
 case hy5 => exact Or.inl ⟨by rfl, by intro w' hb; have c1 := hcI.out w' hb; go_simp; first | done | rfl | (have hq := hlI.out; exact IntWalk.i64_in _ (by omega)) | (have hq := hlI.out; rw [IntWalk.i64_in _ (by omega)]) | (have hq := hlI.out; rw [IntWalk.i64_in _ (by omega)]; rfl)⟩
 (try simp only [Act.put, List.setIfInBounds_toArray, List.set_cons_succ, List.set_cons_zero])
 clear hI0
 have hH6 := hH5
 refine wpG_one (i := 6) (by kernel_rfl) rfl ?_
 go_wp2_with (first | go_skip | (refine st_row 29 _ _ rfl rfl _ rfl _ rfl _ _ hH6 info30 rfl (hc_one _ _ rfl) ?_; intro wa hra hgra hsza))
 have hA6 := (hgra.block _ (hlt hA5) (by simp; omega)).trans hA5
 refine ⟨hA6, ?_⟩
 (try simp only [Act.put, List.setIfInBounds_toArray, List.set_cons_succ, List.set_cons_zero])
 refine wpG_drop 7 rfl (by kernel_rfl) ?_
 simp only [List.drop_succ_cons, List.drop_zero]
 go_wp2_with (first | go_skip | (refine st_row 44 _ _ rfl rfl _ rfl (rc 0 (l.length : Int) (.slice none 0 0)) rfl _ _ ((hgra.block _ (hlt hR5) (by simp)).trans hR5) infoRp rfl (rc_one _ _ _ rfl) ?_; intro wb hrb hgrb hszb))
 exact bodyPost_ret (results_hr rfl _ _ _ _ _ _ _ _ _ rfl rfl ((hgrb.block _ (hlt hra) (by simp)).trans hra) hrb) rfl (next_end (X := ⟨h.setNext (h.next + 1), l ++ [p], 0, (l.length : Int), []⟩) (by simp only [hL.out]) hB5 (hlt hR5) hgra hgrb hp5.out (fun hl b off s e => ⟨(hpb4.out hl b off s e).1, (hpb4.out hl b off s e).2.1, (hpb4.out hl b off s e).2.2.1, by simp [Value.ownBlock]⟩) (OwnInts.nil _ _) (fun x hx => by simp [Value.ownBlock] at hx))
end Go.Proofs.Ytggfdkkhlokmlab


